/- Texts of the claim. -/
import Derived.Test.YtcdbmkidaecdiaaGreatP6etoP8e
import Derived.Test.YtcdbmkidaecdiaaGreatP8ftoP9h
import Derived.Test.YtcdbmkidaecdiaaGreatDp2toDp8
set_option maxHeartbeats 64000000
namespace Go.Proofs.YtcdbmkidaecdiaaGreat
open Go Go.Ay Go.Pm
set_option maxRecDepth 100000
section
variable {i j:Nat} {Q:List Nat}
theorem CF {α:Type}{R:α->α->Prop}(d: ∀a b,R a b-> ¬R b a)(p:α->Bool){y:α}(g: ∀a,p a=true↔R a y): ∀{S:List α},S.Pairwise R-> ∀q,S[q]? =some y->(S.filter p).length=q
 | [],_,q,h=>by simp at h
 |x::S,hs,0,h=>by
  obtain⟨f,_⟩:=List.pairwise_cons.1 hs;have e:x=y:=by simpa using h
  rw[List.length_eq_zero_iff,List.filter_eq_nil_iff];intro b k l;have c:=(g b).1 l;rcases vI.1 k with r|k
  ·subst r e;exact d _ _ c c
  ·subst e;exact d _ _ c (f b k)
 |x::S,hs,q+1,h=>by
  obtain⟨f,n⟩:=List.pairwise_cons.1 hs;have m:S[q]? =some y:=by simpa using h
  have o:=CF d p g n q m;have s:p x=true:=(g x).2 (f _ (Xu m));rw[List.filter_cons,bJ s,List.length_cons,o]
section
variable {n:Nat} {G:List Nat->Prop} {L:LN} {K:List Nat}
theorem El (k:Nat):(kC G L k).Nodup:=by
 unfold kC;exact List.Pairwise.filter _ List.nodup_range
theorem KC (n:Nat)(G:List Nat->Prop)(L:LN): ∃K,Ab n G L K:=by
 classical
 refine⟨(kC G L L.length).mergeSort λr s=>decide (¬Pa n G L s r),List.mergeSort_perm _ _,?_⟩
 have e:=List.pairwise_mergeSort (le:=λr s=>decide (¬Pa n G L s r)) (λa b c e d=>by
  simp only[decide_eq_true_eq] at e d ⊢
  unfold Pa at*;omega) (λa b=>by
  simp only[Bool.or_eq_true,decide_eq_true_eq]
  unfold Pa;omega) (kC G L L.length)
 have d:((kC G L L.length).mergeSort λr s=>decide (¬Pa n G L s r)).Nodup:=(List.mergeSort_perm _ _).nodup_iff.2 (El _);rw[MV] at d;refine (e.and d).imp λ⟨f,h4⟩=>?_
 simp only[decide_eq_true_eq] at f;unfold Pa at*;omega
theorem Mn {i:Nat}: ∀k,∃r,kC G L (i+k)=kC G L i++r
 |0=>⟨[],by simp⟩
 |k+1=>by
  obtain⟨r,h⟩:=Mn (i:=i) k
  by_cases a:GU G L (i+k)
  ·exact⟨r++ [i+k],by rw[←Nat.add_assoc,(Ny _).1 a,h,Lz]⟩
  ·exact⟨r,by rw[←Nat.add_assoc,(Ny _).2 a,h]⟩
theorem MR (hi:i<L.length)(a:GU G L i):(kC G L i).length<(kC G L L.length).length/\(kC G L L.length).getD (kC G L i).length 0=i:=by
 obtain⟨r,h⟩:=Mn (G:=G) (L:=L) (i:=i+1) (L.length-(i+1));rw[show i+1+(L.length-(i+1))=L.length by omega,(Ny i).1 a] at h;rw[h];simp [List.getD]
open Classical in
noncomputable def Bi (G:List Nat->Prop)(L:LN)(i j:Nat):Nat:=if ∃i0,i0<i/\cR G L i0 j then NK G L (kC G L L.length) j+1 else 0
open Classical in
noncomputable def Kc (G:List Nat->Prop)(L:LN)(i:Nat)(Q:List Nat)(j:Nat):Nat:=if j∈Q then (kC G L i).length+1 else Bi G L i j
theorem KS (j:Nat):Bi G L 0 j=0:=by
 unfold Bi;rw[bU];rintro⟨i0,h,_⟩;omega
theorem TV (i j:Nat):Kc G L i [] j=Bi G L i j:=by
 unfold Kc;rw[bU (by simp)]
theorem Sk {k:Nat}:Kc G L i (Q++ [k]) j=if j=k then (kC G L i).length+1 else Kc G L i Q j:=by
 unfold Kc
 by_cases e:j=k
 ·subst e;rw[bJ (by simp),bJ rfl]
 ·rw[bU e]
  by_cases h:j∈Q
  ·rw[bJ (by simp [h]),bJ h]
  ·rw[bU (by simp [h,e]),bU h]
theorem CP:Bi G L i j=0↔ ¬ ∃i0,i0<i/\cR G L i0 j:=by
 unfold Bi
 by_cases h: ∃i0,i0<i/\cR G L i0 j
 ·rw[bJ h];exact⟨λa=>om,λa=>absurd h a⟩
 ·rw[bU h];exact⟨λ_=>h,λ_=>rfl⟩
theorem Tz:Bi G L i i=0↔GU G L i:=by
 rw[CP];exact⟨λh j b a=>h ⟨j,b,a⟩,λh ⟨j,b,a⟩=>h j b a⟩
variable (hG:dO n G) (E:cZ G L)
include hG E
theorem IW (hi:i<L.length)(f: ¬GU G L i)(j:Nat):Bi G L (i+1) j=Bi G L i j:=by
 have e:(∃a,a<i+1/\cR G L a j)↔ ∃a,a<i/\cR G L a j:=by
  refine⟨λ⟨a,h1,h2⟩=>?_,λ⟨a,h1,h2⟩=>⟨a,om,h2⟩⟩
  by_cases e:a=i
  ·subst e
   obtain⟨k,b,c⟩: ∃k,k<a/\cR G L k a:=Jj λd=>f λk b c=>d ⟨k,b,c⟩
   exact⟨k,b,yD hG E om c h2⟩
  ·exact⟨a,om,h2⟩
 unfold Bi
 by_cases h: ∃a,a<i/\cR G L a j
 ·rw[bJ (e.2 h),bJ h]
 ·rw[bU (λx=>h (e.1 x)),bU h]
theorem PJ (hi:i<L.length)(d:GU G L i)(e:j<L.length)(a:cR G L i j):NK G L (kC G L L.length) j=(kC G L i).length:=by
 obtain⟨b,c⟩:=MR hi d;exact adP hG E (List.Perm.refl _) b (uQ.2 ⟨e,by rw[c];exact a⟩)
theorem US (hi:i<L.length)(b:GU G L i)(e:j<L.length)(d:cR G L i j):Kc G L i Q j=0↔j∉Q:=by
 unfold Kc
 by_cases h:j∈Q
 ·rw[bJ h];exact⟨λa=>om,λa=>absurd h a⟩
 ·rw[bU h,CP]
  exact⟨λ_=>h,λ_ ⟨c,h1,a⟩=>b c h1 (yD hG E om a (Mt hG E hi d))⟩
theorem JI (hi:i<L.length)(g:GU G L i)(c: ∀j,j∈Q↔j<L.length/\cR G L i j)(d:j<L.length):Kc G L i Q j=Bi G L (i+1) j:=by
 unfold Kc
 by_cases h:j∈Q
 ·have b:=((c j).1 h).2
  rw[bJ h];unfold Bi;rw[bJ ⟨i,om,b⟩,PJ hG E hi g d b]
 ·rw[bU h]
  have f: ¬cR G L i j:=λb=>h ((c j).2 ⟨d,b⟩)
  have e:(∃a,a<i+1/\cR G L a j)↔ ∃a,a<i/\cR G L a j:=by
   refine⟨λ⟨a,h1,h2⟩=>?_,λ⟨a,h1,h2⟩=>⟨a,om,h2⟩⟩
   by_cases e:a=i
   ·subst e;exact absurd h2 f
   ·exact⟨a,om,h2⟩
  unfold Bi
  by_cases h: ∃a,a<i/\cR G L a j
  ·rw[bJ (e.2 h),bJ h]
  ·rw[bU (λx=>h (e.1 x)),bU h]
theorem SU (a:j<L.length):Bi G L L.length j=NK G L (kC G L L.length) j+1:=by
 unfold Bi;rw[bJ ⟨j,a,Ux hG E a⟩]
omit hG in
theorem WL {r s:Nat}(f:r<L.length)(g:s<L.length):Lt (L.getD r []) (L.getD s [])↔r<s:=by
 have d:=GP.1 E.asc
 have l: ∀{a b:Nat},a<L.length->b<L.length->a<b->Lt (L.getD a []) (L.getD b []):=λ{a b} e k h=>by
  have:=d a b e k h;rwa [List.getD,dD e,List.getD,dD k]
 refine⟨λh=>?_,l f g⟩;rcases Nat.lt_trichotomy r s with c|c|c
 ·exact c
 ·subst c;exact (Lt.irrefl h).elim
 ·exact ((l g f c).asymm h).elim
omit hG E in
theorem JG (f:Ab n G L K)(p:Nat->Bool){t:Nat}(m:t<(kC G L L.length).length)(d: ∀u,u<(kC G L L.length).length->(p u=true↔Pa n G L ((kC G L L.length).getD u 0) ((kC G L L.length).getD t 0))):
  ((List.range (kC G L L.length).length).filter p).length=K.idxOf ((kC G L L.length).getD t 0):=by
 classical
 have l:(kC G L L.length).getD t 0∈K:=f.perm.mem_iff.2 (bC m)
 have h:=XK.2 l
 have o:=CF (R:=Pa n G L) (λa b c g=>MW c g) (λr=>decide (Pa n G L r ((kC G L L.length).getD t 0))) (y:=(kC G L L.length).getD t 0) (λa=>by simp) f.asc (K.idxOf ((kC G L L.length).getD t 0)) (by rw[dD h,List.getElem_idxOf])
 rw[←o,(f.perm.filter _).length_eq]
 generalize kC G L L.length=M at d
 generalize M.getD t 0=y at d
 have:(List.range M.length).filter p=(List.range M.length).filter λu=>decide (Pa n G L (M.getD u 0) y):=List.filter_congr λu k=>by
  have:=d u (Dj.1 k);rw[DW,this,Ak]
 rw[this]
 have e:M=(List.range M.length).map λu=>M.getD u 0:=List.ext_getElem (by simp) λi c g=>by simp [List.getD,c]
 conv=>rhs;rw[e]
 rw[List.filter_map,iA]
 rfl
theorem PR (c:Ab n G L K)(e:j<L.length):NK G L (kC G L L.length) j<(kC G L L.length).length/\NK G L K j=K.idxOf ((kC G L L.length).getD (NK G L (kC G L L.length) j) 0):=by
 obtain⟨k,a,b⟩:=NO hG E (List.Perm.refl _) e;have f:=adP hG E (List.Perm.refl _) a b;rw[f];have g:(kC G L L.length).getD k 0∈K:=c.perm.mem_iff.2 (bC a);have d:=XK.2 g;refine⟨a,adP hG E c.perm d ?_⟩;rw[cW d,List.getElem_idxOf];exact b
end
end
section
variable {a b c d e f:V}
theorem WM {v:V}(i:a.one=true)(k:b.one=true)(h:c.one=true)(j:v.cells= [v])(g:v.one=true):qU [aC 0,.aD,.aD,.aD,.aD,.aD] [(0,3,.agg [a,b,c]),(3,1,v)]=some (.agg [a,b,c,v,.aD,.aD]):=by
 simp [qU,iK,putAt,i,k,h,j,g,show (V.agg [a,b,c]).cells= [a,b,c] from rfl]
theorem Nq (h:H)(id:Nat)(j:a.one=true)(m:b.one=true)(i:c.one=true)(l:d.one=true)(g:e.one=true)(k:f.one=true):Wz h 6 (.ptr id 0) (.agg [a,b,c,d,e,f])=eU (h.get id) h id 0 [a,b,c,d,e,f]:=Di h id 0 6 _ rfl (by simp [j,m,i,l,g,k])
theorem Hi {j i m k l g:V}(h:H)(id:Nat):eU (some (.cells false [j,i,m,k,l,g])) h id 0 [a,b,c,d,e,f]=some (h.set id (some (.cells false [a,b,c,d,e,f]))):=by
 simp [eU,putAt]
theorem EE {h:H}{id:Nat}{ro:Bool}(g:h.get id=some (.cells ro [a,b,c,d,e,f])):h.row id 0 6=some [a,b,c,d,e,f]:=by
 simp [H.row,g,sub]
theorem Yq (hh:H)(id:Nat)(y:V):eU (some (.cells false [a,b,c])) hh id 2 [y]=some (hh.set id (some (.cells false [a,b,y]))):=by
 simp [eU,putAt]
structure Pv (n:Nat)(G:List Nat->Prop)(L:LN)(W:Nat->Prop)(h:H)(a:Cls.KE)(r:Nat):Prop where
 ord:a.ord=oJ (L.getD r []) n
 size:a.size=(kU G L r).length
 rep:PV W h a.rep (L.getD r [])
structure RdO (n:Nat)(G:List Nat->Prop)(L:LN)(K:List Nat)(b:Nat)(vO vR:V)(hh:H)(v:V):Prop where
 ex: ∃vL S ks vM,v= .agg [aC n,vO,vR,vL,.sl S 0 K.length (.kn K.length),vM]/\b<=S/\S<hh.next/\hh.get S=some (.cells false (sX ks))/\aN (Pv n G L (λq=>q<b∨S<=q) hh) ks K/\SP hh vL L/\SI hh vM (zi (aeK G L K))
theorem AK {h:H}{id o:Nat}(j:h.cell id o=some a)(g:h.cell id (o+1)=some b)(i:h.cell id (o+2)=some c):h.row id o 3=some [a,b,c]:=by
 unfold H.cell at j g i;unfold H.row;split at j
 ·rename_i r k e
  rw[e] at g i;have g:k[o+1]? =some b:=g;have i:k[o+2]? =some c:=i;obtain⟨l,q⟩:=vJ.1 j;obtain⟨lb,p⟩:=vJ.1 g;obtain⟨n,m⟩:=vJ.1 i;rw[e];simp only[sub];rw[bJ om,Zh l,Zh lb,Zh n,q,p,m]
  rfl
 ·cases j
theorem LM {W:Nat->Prop}(vc:V)(n:Nat)(O:LN)(R:jJ)(G:List Nat->Prop)(h:H)(gc:GC W h vc n O R G)(L:LN)(hL:dM O R n 0 (aX n)=L):
  Ev T 149 [vc] h (λv h'=> ∃vO vR K vg,vc= .agg [aC n,vO,vR]/\v= .tup [vg,aC 0]/\Ab n G L K/\RdO n G L K h.next vO vR h' vg/\Fr h h'):=by
 have a5:=gc
 obtain⟨vO,vR,rfl,sO,sR⟩:=gc.ch
 refine dW yV rfl ?_
 have hG:=gc.cY
 have n7:=gc.n7
 have n0:=gc.n0
 obtain⟨E,ll⟩:=dB gc.cY gc.isc
 have x7:=jE gc
 rw[hL] at E ll
 have a0:vO.one=true/\vR.one=true:=⟨BX sO,Up sR⟩
 obtain⟨B,hB⟩:=exI h.next
 obtain⟨l,e1,n1,g1,o1,f1⟩:=dK hB [aC n,vO,vR]
 obtain⟨A,e2,n2,g2,o2,f2⟩:=dK n1 [aC 0,.aD,.aD,.aD,.aD,.aD]
 have bx:=bV h (v:= aC n) (u:=vO) (w:=vR) rfl a0.1 a0.2
 have rB: ∀hh,Fr A hh->hh.row B 0 3=some [aC n,vO,vR]:=λhh f=>aJ (by rw[f.get B om,f2.get B om];exact g1)
 have F2:=f1.trans f2
 simp(disch:=omega)only[go_sem,yV,aE,bx,hB,e1,n1,e2,rB A (Fr.refl _)]
 refine (Tc _ n O R G A (a5.mono F2) L hL).mono ?_
 rintro _ h3 ⟨vL,j6,rfl,c8,l0,f3⟩
 have sL:SP h3 vL L:=dZ.sp' c8.sv l0
 obtain⟨m,hm⟩:=exI L.length
 have a9:=sL.lens
 have wL:=SV.cT (show SV h3 vL 1 _ from sL.choose_spec.1)
 rw[iA,hm] at a9
 obtain⟨P,hP⟩:=exI h3.next
 obtain⟨h4,e4,n4,g4,o4,f4⟩:=dK hP [aC 0,.aD,.aD,.aD,.aD,.aD]
 obtain⟨h5,e5,n5,g5,o5⟩:=mV h4 P [aC n,vO,vR,vL,.aD,.aD]
 have d3:Fr h3 h5:=⟨om,λq hq=>by rw[o5 q om,o4 q om]⟩
 simp(disch:=omega)only[go_sem,rB h3 f3]
 refine bA (λhc=>(hc rfl).elim) (λ_=>?_)
 simp(disch:=omega)only[go_sem,rB h3 f3,WM (a:= aC n) rfl a0.1 a0.2 wL.1 wL.2.1,hP,e4,Nq h4 P (a:= aC n) (b:=vO) (c:=vR) (d:=vL) (e:= .aD) (f:= .aD) rfl a0.1 a0.2 wL.2.1 rfl rfl,g4,Hi,e5,rB h5 (f3.trans d3)]
 have F5:=(F2.trans f3).trans d3
 refine (Gq _ n O R G h5 (a5.mono F5)).mono ?_
 rintro vS h6 ⟨sS,f6⟩
 obtain⟨D,hD⟩:=exI h6.next
 obtain⟨h7,e7,w8,g7,o7,f7⟩:=dK hD (rc m λ_=> aC 0)
 simp(disch:=omega)only[go_sem,a9,tY _ m om,hD,e7]
 obtain⟨u7,r4,d8,cL⟩:=Qh c8 l0
 obtain⟨c6,x1,t3,p0,q4,j0,cS⟩:=Pf sS
 rw[hm] at d8 cL
 obtain⟨S,hS⟩:=exI R.flatten
 have c0: ∀s∈S,G s:=by rw[←hS];exact Jt a5.isc
 have i5: ∀x,G x->bM n (λg=>g∈S) x:=λx hx=>by
  have:=(De hG a5.isc x).2 hx;rw[←hS];exact this
 have m0:R.flatten.length<=49:=by
  have l:=uK (m:=7) (R:=R.map (List.map zi)) (i:=n) (by rw[iA,a5.isc.lr];exact dT _) (λj hj=>by
   rw[oI (List.map zi) (d:= []) (by rw[a5.isc.lr];exact hj),iA,a5.isc.rl j hj]
   have:=(a5.row hj).2;omega)
  rw[Ro (by rw[iA,a5.isc.lr];exact dT _)] at l;have e:(R.map (List.map zi)).flatten.length=R.flatten.length:=by simp [List.length_flatten,List.map_map,Function.comp_def]
  rw[e] at l;have A:n*7<=7*7:=Nat.mul_le_mul_right 7 n7;omega
 rw[hS] at c6 j0 cS m0
 obtain⟨sl,n6⟩:=exI S.length
 rw[n6] at c6 j0 cS m0
 have w9:=f6.next
 have x0:=d3.next
 have F6:=F5.trans f6
 have w5:=F2.next
 have w7:=f3.next
 have fD: ∀hh,Fx (· =D) h7 hh->Fr h6 hh:=λhh f=>⟨by have:=f.next;omega,λq hq=>by rw[f.get q om (λe=>by have:q=D:=e;omega)];exact o7 q om⟩
 have l5: ∀hh,Fx (· =D) h7 hh->Fr h3 hh:=λhh f=>(d3.trans f6).trans (fD hh f)
 have o0: ∀i,i<m-> ∀hh,Fr h3 hh->hh.cell u7 (r4+i)=some (j6.getD i V.undef):=λi hi hh f=>by rw[f.cell (cL i hi).1];exact (cL i hi).2.1
 have t2: ∀i,i<sl-> ∀hh,Fr h6 hh->hh.cell t3 (p0+i)=some (q4.getD i V.undef):=λi hi hh f=>by rw[f.cell (cS i hi).1];exact (cS i hi).2.1
 have LP: ∀g∈L,aY n g:=λg hg=>hG.bF ((E.mem g).1 hg)
 clear e1 e2 o2 e4 g4 o4 e5 o5 bx
 refine bQ (λvs hh=> ∃(vK:V) (ks:List Cls.KE),(∃g:Nat->V,vs= [g 0,.ptr B 0,.ptr (B+1) 0,g 3,vL,g 5,.ptr P 0,g 7,.sl D 0 m (.kn m),vK,g 10,g 11,g 12,g 13,g 14,g 15,g 16,g 17,g 18,g 19,g 20,g 21,g 22,g 23,g 24,g 25,g 26,g 27,g 28,g 29,g 30,g 31,g 32,g 33])/\dH hh vK 3 (sX ks) (D+1)/\aN (Pv n G L (λq=>q<A.next) h3) ks (kC G L m)/\hh.get D=some (.cells false (rc m λj=> aC (Bi G L m j:Nat)))/\D<hh.next/\Fx (· =D) h7 hh) ?_ ?_
 ·refine aI (λk' vs hh=> ∃(i:Nat) (vK:V) (ks:List Cls.KE),(∃g:Nat->V,vs= [g 0,.ptr B 0,.ptr (B+1) 0,g 3,vL,g 5,.ptr P 0,vS,.sl D 0 m (.kn m),vK,aC i,g 11,g 12,g 13,g 14,g 15,g 16,g 17,g 18,g 19,g 20,g 21,g 22,g 23,g 24,g 25,g 26,g 27,g 28,g 29,g 30,g 31,g 32,g 33])/\i<=m/\dH hh vK 3 (sX ks) (D+1)/\aN (Pv n G L (λq=>q<A.next) h3) ks (kC G L i)/\hh.get D=some (.cells false (rc m λj=> aC (Bi G L i j:Nat)))/\D<hh.next/\Fx (· =D) h7 hh/\k'=m-i) m
   ⟨0,.aD, [],aB rfl,iB _,dH.aD _ _ _,trivial,by rw[g7,show (λj=>aC (Bi G L 0 j:Nat))=λ_=>aC 0 from funext λj=>by rw[KS];rfl],om,Fx.refl _ _,rfl⟩ ?_
  rintro k' Z ha ⟨i,vK,ks,⟨g,rfl⟩,hi,ow,al,gD,nD,Fa,rfl⟩
  by_cases a2:(i:Int)<(m:Int)
  case neg=>
   have d1:=bI a2;obtain rfl:i=m:=om
   simp(disch:=omega)only[go_sem,a9,d1];exact⟨vK,ks,aB rfl,ow,al,gD,nD,Fa⟩
  have d1:=cI a2
  have j1:i<m:=om
  have b8:i<L.length:=om
  have cD:=tF gD j1
  by_cases hr:GU G L i
  case neg=>
   have d2:decide (((Bi G L i i:Nat):Int)≠0)=true:=cI λh=>hr (Tz.1 om)
   simp(disch:=omega)only[go_sem,a9,d1,cD,d2];rw[fJ i];exact⟨m-(i+1),om,i+1,vK,ks,aB rfl,om,ow,by rw[(Ny i).2 hr];exact al,by rw[gD,show (λj=>aC (Bi G L (i+1) j:Nat))=λj=>aC (Bi G L i j:Nat) from funext λj=>by rw[IW hG E b8 hr j]],nD,Fa,rfl⟩
  have d2:decide (((Bi G L i i:Nat):Int)≠0)=false:=bI λh=>h (by rw[Tz.2 hr];rfl)
  obtain⟨_,_,pi⟩:=cL i j1
  have j3:=o0 i j1
  generalize j6.getD i V.undef=vx at j3 pi
  have si:=pi.si
  have X:=lE hG E b8
  have j5:=l5 ha Fa
  simp(disch:=omega)only[go_sem,a9,d1,cD,d2,d8.ixa,j3 ha j5]
  refine (EL vx n (L.getD i []) ha n0 n7 X (si.mono j5)).mono ?_
  rintro _ F ⟨rfl,fb⟩
  obtain⟨o,ho⟩:=exI (oJ (L.getD i []) n)
  rw[ho]
  have u2:=j5.trans fb
  have b6:=SV.cT si
  obtain⟨C,hC⟩:=exI F.next
  obtain⟨hc,ec,nc,a4,oc,fc⟩:=dK hC [.aD,aC 0,aC 0]
  obtain⟨hd,ed,nd,gd,od⟩:=mV hc C [vx,aC o,aC 0]
  have r6:hd.next=C+1:=om
  obtain⟨he,ee,ne,ge,oe,fe⟩:=dK r6 [aC i]
  have nb:=fb.next
  have i1:he.get D=some (.cells false (rc m λj=> aC (Bi G L i j:Nat))):=by rw[oe _ om,od _ om,oc _ om,fb.get _ om];exact gD
  obtain⟨hf,ef,nf,gf,of⟩:=mV he D ((rc m λj=> aC (Bi G L i j:Nat)).set i (aC ((kC G L i).length+1:Nat)))
  have b1:=aN.length al
  have x8:(kC G L i).length<=i:=by
   unfold kC;refine mY (List.length_filter_le _ _) (by rw[Xf];exact dT _)
  have a1:bL vK=some (aC ((kC G L i).length:Int)):=by unfold bL;rw[SV.len ow.sv (n:=ks.length) (tX ks) om,b1];rfl
  have w0:qU [.aD,aC 0,aC 0] [(0,1,vx),(1,1,aC o)]=some (.agg [vx,aC o,aC 0]):=by
   simp [qU,iK,putAt,b6.1,b6.2.1,show (aC o).cells= [aC o] from rfl,show (aC o).one=true from rfl]
  have pt:=bT (vs:=rc m λj=> aC (Bi G L i j:Nat)) (off:=i) (by rw[iQ];omega)
  have s1:=j3 F u2
  simp(disch:=omega)only[go_sem,a9,d8.ixa,s1,w0,hC,ec,cF hc C 0 (v:=vx) (u:= aC o) (w:= aC 0) b6.2.1 rfl rfl,a4,cH,ed,cK hd (z:= aC 0) (v:= aC i) rfl rfl,r6,ee,a1,i1,pt,show ((kC G L i).length:Int)+1=(((kC G L i).length+1:Nat):Int) from rfl,ef]
  obtain⟨pl,r9⟩:=exI ((kC G L i).length)
  have j2:Fx (· =D) F hf:=⟨om,λq l A=>by rw[of q A,oe q om,od q om,oc q om]⟩
  have i4:Fx (· =D) h7 F:=⟨by have:=Fa.next;omega,λq l A=>by rw[fb.get q (by have:=Fa.next;omega)];exact Fa.get q l A⟩
  have FT: ∀{hh},Fx (· =D) F hh->Fx (· =D) h7 hh:=λ{hh} f=>⟨by have:=f.next;have:=i4.next;omega,λq l A=>by rw[f.get q (by have:=i4.next;omega) A];exact i4.get q l A⟩
  have k0:hf.get D=some (.cells false (rc m λj=> aC (Kc G L i [i] j:Nat))):=by
   rw[gf,lH];congr 2;refine dJ λj _=>?_
   rw[show [i]= []++ [i] from rfl,Sk]
   by_cases e:j=i
   ·rw[bJ e,bJ e]
   ·rw[bU e,bU e,TV]
  have i8:hf.get C=some (.cells false [vx,aC o,aC 0]):=by rw[of _ om,oe _ om];exact gd
  have j7:dH hf (.sl (C+1) 0 1 (.kn 1)) 1 (ints (zi [i])) (C+1):= .inr ⟨C+1,1,.kn 1, [],rfl,rfl,.inr ⟨rfl,rfl⟩,dT _,om,by rw[of _ om,tZ];exact ge⟩
  have B0:BQ G L S i [i] 0:=⟨by simp,by simp,rfl,λj hj=>by
   obtain rfl:j=i:=by simpa using hj
   exact⟨om,Ux hG E b8⟩,λk hk=>om⟩
  refine bQ (λvs hh=> ∃(Q:List Nat) (vQ:V),(∃g:Nat->V,vs= [g 0,.ptr B 0,.ptr (B+1) 0,g 3,vL,g 5,.ptr P 0,vS,.sl D 0 m (.kn m),vK,aC i,g 11,.ptr C 0,vQ,g 14,g 15,g 16,g 17,g 18,g 19,g 20,g 21,g 22,g 23,g 24,g 25,g 26,g 27,g 28,g 29,g 30,g 31,g 32,g 33])/\BQ G L S i Q Q.length/\hh.get C=some (.cells false [vx,aC o,aC (Q.length:Int)])/\C<hh.next/\hh.get D=some (.cells false (rc m λj=> aC (Kc G L i Q j:Nat)))/\Fx (· =D) F hh) ?_ ?_
  ·refine aI (λk' vs hh=> ∃(Q:List Nat) (vQ:V) (p:Nat),(∃g:Nat->V,vs= [g 0,.ptr B 0,.ptr (B+1) 0,g 3,vL,g 5,.ptr P 0,vS,.sl D 0 m (.kn m),vK,aC i,g 11,.ptr C 0,vQ,aC p,g 15,g 16,g 17,g 18,g 19,g 20,g 21,g 22,g 23,g 24,g 25,g 26,g 27,g 28,g 29,g 30,g 31,g 32,g 33])/\p<=Q.length/\BQ G L S i Q p/\dH hh vQ 1 (ints (zi Q)) (C+1)/\hh.get C=some (.cells false [vx,aC o,aC p])/\C<hh.next/\hh.get D=some (.cells false (rc m λj=> aC (Kc G L i Q j:Nat)))/\Fx (· =D) F hh/\k'=m-p) m
    ⟨[i],_,0,aB rfl,iB _,B0,j7,i8,om,k0,j2,rfl⟩ ?_
   clear k0 i8 j7 B0 j2 ef nf gf of ee ne ge oe fe ed nd gd od ec nc a4 oc fc i1 pt cD d2
   rintro k' Z ka ⟨Q,vQ,p,⟨g2,rfl⟩,hp,J,oQ,gC,nC,a8,Fk,rfl⟩
   have l3:=J.len
   have i2:=dH.lens oQ (show (ints (zi Q)).length=Q.length by rw[aP,aS])
   by_cases k8:(p:Int)<(Q.length:Int)
   case neg=>
    have d5:=bI k8;obtain rfl:p=Q.length:=om
    simp(disch:=omega)only[go_sem,i2,d5];exact⟨Q,vQ,aB rfl,J,gC,nC,a8,Fk⟩
   have d5:=cI k8
   have b2:p<Q.length:=om
   obtain⟨kb,p8,u8,m4,c9⟩:=mV ka C [vx,aC o,aC (p+1:Nat)]
   have pC:=Yq (a:=vx) (b:= aC o) (c:= aC p)
   simp(disch:=omega)only[go_sem,i2,d5,H.cell_of gC,gC,pC,show (p:Int)+1=((p+1:Nat):Int) from rfl,p8]
   obtain⟨c,a6⟩:=exI (Q.getD p 0)
   obtain⟨q3,v2⟩:=J.mem c (by rw[←a6];exact bC b2)
   have Cp:=lE hG E q3
   have e6: ∀hh,Fx (λq=>q=D∨q=C) kb hh->Fx (· =D) F hh:=λhh f=>⟨by have:=f.next;have:=Fk.next;omega,λq l A=>by rw[f.get q (by have:=Fk.next;omega) (by rintro (e|e);exact A e;omega),c9 q om];exact Fk.get q l A⟩
   have p9:Fx (· =D) F kb:=e6 kb (Fx.refl _ _)
   have nk:=Fk.next
   have o3:dH kb vQ 1 (ints (zi Q)) (C+1):=oQ.tU om λid off n' cp e l=>c9 id (by have:=(oQ.in _ _ _ _ e).2.1;omega)
   have c7:kb.get D=some (.cells false (rc m λj=> aC (Kc G L i Q j:Nat))):=by rw[c9 D om];exact a8
   refine aI (λk' vs hh=> ∃(Q:List Nat) (vQ:V) (t:Nat),(∃g:Nat->V,vs= [g 0,.ptr B 0,.ptr (B+1) 0,g 3,vL,g 5,.ptr P 0,vS,.sl D 0 m (.kn m),vK,aC i,g 11,.ptr C 0,vQ,aC p,aC t,g 16,g 17,g 18,g 19,g 20,g 21,g 22,g 23,g 24,g 25,g 26,g 27,g 28,g 29,g 30,g 31,g 32,g 33])/\t<=sl/\p<Q.length/\BQ G L S i Q p/\Q.getD p 0=c/\(∀s∈S.take t,∃j∈Q,L.getD j []=aT (L.getD c []) s)/\dH hh vQ 1 (ints (zi Q)) (C+1)/\hh.get C=some (.cells false [vx,aC o,aC (p+1:Nat)])/\C<hh.next/\hh.get D=some (.cells false (rc m λj=> aC (Kc G L i Q j:Nat)))/\Fx (· =D) F hh/\k'=sl-t) sl
    ⟨Q,vQ,0,aB rfl,iB _,b2,J,a6,λs hs=>(by simp at hs),o3,m4,om,c7,p9,rfl⟩ ?_
   clear J oQ gC a8 Fk a6 b2 l3 i2 d5 hp k8 p8 u8 m4 c9 e6 p9 o3 c7 nk nC kb ka
   clear Q vQ
   rintro k' Z ka ⟨Q,vQ,t,⟨g3,rfl⟩,ht,b2,J,a6,l6,oQ,gC,nC,a8,Fk,rfl⟩
   have l3:=J.len
   by_cases r1:(t:Int)<(sl:Int)
   case neg=>
    have d5:=bI r1;obtain rfl:t=sl:=om
    simp(disch:=omega)only[go_sem,c6,d5];rw[fJ p];refine⟨m-(p+1),om,Q,vQ,p+1,aB rfl,om,⟨J.nd,J.ne,J.hd,J.mem,λk hk s hs=>?_⟩,oQ,gC,nC,a8,Fk,rfl⟩
    by_cases e:k=p
    ·subst e
     rw[a6];exact l6 s (by rw[←n6,List.take_length];exact hs)
    ·exact J.cl k om s hs
   have d5:=cI r1
   have r0:t<sl:=om
   have v3:p<Q.length:=b2
   obtain⟨w4,w1,t6,cq⟩:=Pj (h:=ka) (hh:=ka) (b:=Q.length) oQ.sv rfl
   have j4:=λhh f=>cq hh f p v3
   rw[a6] at j4
   have c1:=fD ka (FT Fk)
   have c5:=l5 ka (FT Fk)
   obtain⟨_,_,sy⟩:=cS t r0
   have cy:=t2 t r0
   obtain⟨_,_,pz⟩:=cL c om
   have cz:=o0 c om
   generalize q4.getD t V.undef=vy at cy sy
   generalize j6.getD c V.undef=vz at cz pz
   have sz:=pz.si
   obtain⟨s,hs⟩:=exI (S.getD t [])
   rw[hs] at sy
   have d9:s∈S:=by rw[←hs];exact bC om
   have Sp:=hG.bF (c0 s d9)
   simp(disch:=omega)only[go_sem,c6,d5,j0.ixa,cy ka c1,t6.ixa,j4 ka (Fr.refl _),d8.ixa,cz ka c5]
   have r7:Fr ka (H.mk ka.tr (ka.next+19)):=(Fr.refl ka).bH om
   refine (HJ vy n s _ om Sp ((sy.mono c1).mono r7)).mono ?_
   rintro v1 k1 p6
   have K1:=r7.trans p6.fr
   have ez:=SV.dI sz
   have ey:=SV.dI sy
   simp(disch:=omega)only[go_sem,j4 k1 K1,cz k1 (c5.trans K1),cy k1 (c1.trans K1),ez,ey]
   refine (vT v1 vz (bZ s) (L.getD c []) k1 (by rw[jU,Sp.len];omega) (p6.pv (W:=λ_=>False) id).si (sz.mono (c5.trans K1)) (λj hj=>by rw[Cp.len];exact Sp.inv.fX (by rw[←Sp.inv.len];exact hj))).mono ?_
   rintro u3 k2 ⟨t5,s7,_⟩
   have K2:=K1.trans s7
   have P2:=Sp.inv.mul Cp
   simp(disch:=omega)only[go_sem,cy k2 (c1.trans K2),ey]
   refine (vT u3 vy _ s k2 (by rw[P2.len];omega) t5 (sy.mono (c1.trans K2)) (λj hj=>by rw[Sp.len];exact P2.fX (by rw[←P2.len];exact hj))).mono ?_
   rintro s0 k3 ⟨s3,v8,_⟩
   have K3:=K2.trans v8
   have P3:=P2.mul Sp
   simp(disch:=omega)only[go_sem]
   have s9:aM (aM (bZ s) (L.getD c [])) s∈L:=(E.mem _).2 (hG.mul (hG.mul (hG.inv (c0 s d9)) (pD E q3)) (c0 s d9))
   refine (JB vL s0 n L _ k3 om om LP P3 E.asc (sL.mono (c5.trans K3)) s3).mono ?_
   rintro y4 k4 ⟨t7,v7⟩
   rcases t7 with ⟨j,rfl,hj,ej⟩|⟨v0,_⟩
   case inr=>exact absurd s9 v0
   have K4:=K3.trans v7
   have i0:L.getD j []=aT (L.getD c []) s:=ej
   have l8:cR G L i j:=yD hG E om v2 ⟨s,c0 s d9,i0.symm⟩
   have m1:S.take (t+1)=S.take t++ [s]:=by rw[eY [] om,hs]
   have y3:=K4.next
   have x9:=Fk.next
   have i7:k4.get D=some (.cells false (rc m λj=> aC (Kc G L i Q j:Nat))):=by rw[K4.get _ om];exact a8
   have m8:k4.get C=some (.cells false [vx,aC o,aC (p+1:Nat)]):=by rw[K4.get _ nC];exact gC
   have l4:=oQ.fr K4
   have m2:Fx (· =D) F k4:=⟨om,λq l A=>by rw[K4.get q om];exact Fk.get q l A⟩
   have l7:=tF i7 (i:=j) om
   have f0:=US hG E (Q:=Q) b8 hr hj l8
   by_cases c4:j∈Q
   ·have d6:decide (((Kc G L i Q j:Nat):Int)=0)=false:=bI λh=>f0.1 om c4
    simp(disch:=omega)only[go_sem,l7,d6]
    rw[fJ t]
    refine⟨sl-(t+1),om,Q,vQ,t+1,aB rfl,om,b2,J,a6,?_,l4,m8,om,i7,m2,rfl⟩
    rw[m1]
    intro s' c2
    rcases oD.1 c2 with l|l
    ·exact l6 s' l
    ·obtain rfl:s'=s:=by simpa using l
     exact⟨j,c4,i0⟩
   have d6:decide (((Kc G L i Q j:Nat):Int)=0)=true:=cI (by rw[f0.2 c4];rfl)
   obtain⟨k5,e5,m5,u1,m3⟩:=mV k4 D ((rc m λj=> aC (Kc G L i Q j:Nat)).set j (aC (pl+1:Nat)))
   have pt:=bT (vs:=rc m λj=> aC (Kc G L i Q j:Nat)) (off:=j) (by rw[iQ];omega)
   have r3:dH k5 vQ 1 (ints (zi Q)) (C+1):=l4.tU om λid off n' cp e l=>m3 id (by have:=(l4.in _ _ _ _ e).2.1;omega)
   obtain⟨k6,t9,m6,s6,q8,u9⟩:=dK (h:=k5) rfl [aC j]
   obtain⟨k7,a7,p7⟩:=(r3.fr u9).push (bytes:=8) (SV.one (v:= aC j) (id:=k5.next) om s6 (.kn 1)) (n:=Q.length) (m:=1) (by rw[aP,aS];simp) rfl om om om
   have e3:=a1
   rw[r9] at e3
   simp(disch:=omega)only[go_sem,l7,d6,e3,show (pl:Int)+1=((pl+1:Nat):Int) from rfl,i7,pt,e5,cK k5 (z:= aC 0) (v:= aC j) rfl rfl,t9,a7]
   rw[fJ t]
   have el:ints (zi (Q++ [j]))=ints (zi Q)++ [aC j]:=by simp [zi,ints]
   have m7:=p7.next
   have r2: ∀q,q<=C->dR vQ q:=λq hq id off n' cp e e2=>by have:=(r3.in _ _ _ _ e).2.1;omega
   have e0: ∀q,q<=C->q≠D->k7.get q=k4.get q:=λq l A=>by rw[p7.old q om (r2 q l),q8 q om,m3 q A]
   have u4:(rc m λj'=>aC (Kc G L i Q j':Nat)).set j (aC (pl+1:Nat))=rc m λj'=> aC (Kc G L i (Q++ [j]) j':Nat):=by
    rw[lH]
    exact dJ λj' _=>by
     rw[Sk,r9]
     by_cases e:j'=j
     ·rw[bJ e,bJ e]
     ·rw[bU e,bU e]
   refine⟨sl-(t+1),om,Q++ [j],_,t+1,aB rfl,om,by rw[iV];omega,⟨?_,by rw[iV];simp,?_,?_,?_⟩,?_,?_,by rw[el];exact p7.own (by rw[aP,aS];omega) rfl om,by rw[e0 C (dT _) om];exact m8,om,?_,?_,rfl⟩
   ·rw[List.nodup_append]
    exact⟨J.nd,by simp,λx hx y hy e=>by
     obtain rfl:y=j:=by simpa using hy
     exact c4 (e▸hx)⟩
   ·rw[List.getD,Dt J.ne];exact J.hd
   ·intro x hx
    rcases oD.1 hx with l|l
    ·exact J.mem x l
    ·obtain rfl:x=j:=by simpa using l
     exact⟨hj,l8⟩
   ·intro k hk s' c2
    obtain⟨y,hy,ey⟩:=J.cl k hk s' c2
    refine⟨y,oD.2 (.inl hy),?_⟩
    rw[ey,List.getD,List.getD,List.getD,List.getD,Dt om]
   ·rw[List.getD,Dt b2];exact a6
   ·rw[m1]
    intro s' c2
    rcases oD.1 c2 with l|l
    ·obtain⟨y,hy,ey⟩:=l6 s' l
     exact⟨y,oD.2 (.inl hy),ey⟩
    ·obtain rfl:s'=s:=by simpa using l
     exact⟨j,oD.2 (.inr (by simp)),i0⟩
   ·rw[p7.old D om (r2 D om),q8 D om,u1,u4]
   ·refine⟨om,λq l A=>?_⟩
    rw[e0 q om A]
    exact m2.get q l A
  clear k0 i8 j7 B0 j2 ef nf gf of ee ne ge oe fe ed nd gd od ec nc a4 oc fc i1 pt cD d2
  rintro Z ka ⟨Q,vQ,⟨g2,rfl⟩,i6,gC,nC,a8,Fk⟩
  have hQ:=i6.done hG E (dT _) b8 c0 i5
  have s5:Q.length=(kU G L i).length:=by
   have:=(List.perm_ext_iff_of_nodup i6.nd (Qj (G:=G) (L:=L) i)).2 λj=>by rw[hQ j,uQ]
   exact this.length_eq
  have l3:=i6.len
  have nk:=Fk.next
  obtain⟨kc,s2,x4,t1,j9,y0⟩:=dK (h:=ka) rfl [vx,aC o,aC (Q.length:Int)]
  have d4:=FT Fk
  have s8:dH kc vK 3 (sX ks) (D+1):=ow.tU (by have:=fb.next;omega) λid off n' cp e l=>by
   have A:=(ow.in _ _ _ _ e).2.1;rw[j9 id om,Fk.get id om (λe=>by have:id=D:=e;omega),fb.get id om]
  obtain⟨kd,u5,d0⟩:=s8.push (bytes:=40) (y:= .sl ka.next 0 1 (.kn 1)) (us:= [vx,aC o,aC (Q.length:Int)]) (SV.all rfl om t1 _) (n:=ks.length) (m:=1) (by rw[tX]) rfl om om om
  have y5:=d0.next
  simp(disch:=omega)only[go_sem,aJ gC,JM b6.2.1,s2,u5]
  rw[fJ i]
  obtain⟨ke,f8,e8,g0⟩: ∃a:Cls.KE,a.rep=vx/\a.ord=o/\a.size=Q.length:=⟨⟨vx,o,Q.length,.aD,0,⟨b6.1,b6.2.1,SV.dI si⟩,⟨rfl,rfl,rfl⟩⟩,rfl,rfl,rfl⟩
  have ap: ∀q,q<=D->dR vK q:=λq hq id off n' cp e e2=>by have:=(ow.in _ _ _ _ e).2.1;omega
  refine⟨m-(i+1),om,i+1,_,ks++ [ke],aB rfl,om,?_,?_,?_,om,?_,rfl⟩
  ·have t:=d0.own (b:=D+1) (by rw[tX]) rfl om
   have e:sX (ks++ [ke])=sX ks++ [vx,aC o,aC (Q.length:Int)]:=by rw[GJ];simp [sX,f8,e8,g0]
   rw[e]
   exact t
  ·rw[(Ny i).1 hr]
   exact al.append ⟨⟨by rw[e8,ho],by rw[g0,s5],by rw[f8];exact pi⟩,trivial⟩
  ·rw[d0.old D om (ap D (dT _)),j9 D om,a8,dJ λj hj=>by rw[JI hG E b8 hr hQ om]]
  ·refine⟨by have:=d4.next;omega,λq l A=>?_⟩
   have x6:q≠D:=A
   rw[d0.old q (by have:=d4.next;omega) (ap q om),j9 q (by have:=d4.next;omega)]
   exact d4.get q l A
 rintro Z h8 ⟨vK,ks,⟨g,rfl⟩,ow,al,gD,nD,F8⟩
 obtain⟨K,ik⟩:=KC n G L
 obtain⟨M,hM⟩:=exI (kC G L m)
 rw[hM] at al
 have b1:=aN.length al
 obtain⟨w,hw⟩:=exI M.length
 rw[hw] at b1
 have x5:w<=m:=by
  rw[←hw,←hM];unfold kC;exact mY (List.length_filter_le _ _) (by rw[Xf];exact dT _)
 have a1:bL vK=some (aC w):=by unfold bL;rw[SV.len ow.sv (n:=w) (by rw[tX,b1]) om];rfl
 obtain⟨b9,f5,l1,b3,b5⟩:=SV.shape ow.sv w (by rw[tX,b1]) om
 rw[tX,b1] at b5
 have w6:=fD h8 F8
 have b7:=l5 h8 F8
 have rK: ∀i,(hi:i<w)-> ∀hh,Fr h8 hh->hh.row b9 (f5+i*3) 3=some [(ks[i]'om).rep,aC ((ks[i]'om).ord:Int),aC ((ks[i]'om).size:Int)]:=λi hi hh f=>by
  obtain⟨p1,p2,p3⟩:=Yi (ks:=ks) (i:=i) om;refine AK ?_ ?_ ?_
  ·rw[f.cell (b3 om),b5 _ om,p1]
  ·rw[f.cell (b3 om),Nat.add_assoc,b5 _ om,p2]
  ·rw[f.cell (b3 om),Nat.add_assoc,b5 _ om,p3]
 obtain⟨N,hN⟩:=exI h8.next
 obtain⟨h9,e9,n9,g9,o9,f9⟩:=dK hN (rc w λ_=> aC 0)
 simp(disch:=omega)only[go_sem,a1,tY _ w om,hN,e9]
 have n8:=F8.next
 have fN: ∀hh,Fx (· =N) h9 hh->Fr h8 hh:=λhh f=>⟨by have:=f.next;omega,λq hq=>by rw[f.get q om (λe=>by have:q=N:=e;omega)];exact o9 q om⟩
 have l9: ∀i,(hi:i<w)->Pv n G L (λq=>q<A.next) h3 (ks[i]'om) (M.getD i 0)/\M.getD i 0<L.length:=λi hi=>by
  have l:=aN.get al i om om;have e:M.getD i 0=M[i]'om:=cW om;have i9:M.getD i 0∈kC G L m:=by rw[hM];exact bC om
  refine⟨by rw[e];exact l,?_⟩;have:=(jY.1 i9).1;omega
 obtain⟨bK,m9⟩: ∃bK:Nat->Nat->Bool,∀k i,bK k i=true↔Pa n G L (M.getD k 0) (M.getD i 0):=by
  classical
  exact⟨λk i=>decide (Pa n G L (M.getD k 0) (M.getD i 0)),λk i=>by simp⟩
 have u6: ∀i,i<w->Kk (λu=>bK u i) w=K.idxOf (M.getD i 0):=λi hi=>by
  have:=JG ik (λu=>bK u i) (t:=i) (by rw[hm,hM];omega) (λu hu=>by rw[hm,hM];exact m9 u i);rw[hm,hM,hw] at this;exact this
 refine bQ (λvs hh=>(∃g:Nat->V,vs= [g 0,.ptr B 0,.ptr (B+1) 0,g 3,vL,g 5,.ptr P 0,g 7,.sl D 0 m (.kn m),vK,g 10,g 11,g 12,g 13,g 14,g 15,g 16,g 17,.sl N 0 w (.kn w),g 19,g 20,g 21,g 22,g 23,g 24,g 25,g 26,g 27,g 28,g 29,g 30,g 31,g 32,g 33])/\hh.get N=some (.cells false (rc w λt=> aC (K.idxOf (M.getD t 0):Nat)))/\N<hh.next/\Fx (· =N) h9 hh) ?_ ?_
 ·refine aI (λk' vs hh=> ∃(i:Nat),(∃g:Nat->V,vs= [g 0,.ptr B 0,.ptr (B+1) 0,g 3,vL,g 5,.ptr P 0,g 7,.sl D 0 m (.kn m),vK,g 10,g 11,g 12,g 13,g 14,g 15,g 16,g 17,.sl N 0 w (.kn w),aC i,g 20,g 21,g 22,g 23,g 24,g 25,g 26,g 27,g 28,g 29,g 30,g 31,g 32,g 33])/\i<=w/\hh.get N=some (.cells false (rc w λt=> aC (if t<i then K.idxOf (M.getD t 0) else 0:Nat)))/\N<hh.next/\Fx (· =N) h9 hh/\k'=w-i) w
   ⟨0,aB rfl,iB _,by rw[g9];rfl,om,Fx.refl _ _,rfl⟩ ?_
  rintro k' Z ha ⟨i,⟨g,rfl⟩,hi,gN,nN,Fa,rfl⟩
  by_cases a2:(i:Int)<(w:Int)
  case neg=>
   have d1:=bI a2;obtain rfl:i=w:=om
   simp(disch:=omega)only[go_sem,a1,d1];exact⟨aB rfl,by rw[gN,dJ λj hj=>by rw[bJ hj]],nN,Fa⟩
  have d1:=cI a2
  have g8:i<w:=om
  simp(disch:=omega)only[go_sem,a1,d1]
  refine aI (λk' vs hh=> ∃(k:Nat),(∃g:Nat->V,vs= [g 0,.ptr B 0,.ptr (B+1) 0,g 3,vL,g 5,.ptr P 0,g 7,.sl D 0 m (.kn m),vK,g 10,g 11,g 12,g 13,g 14,g 15,g 16,g 17,.sl N 0 w (.kn w),aC i,aC k,g 21,g 22,g 23,g 24,g 25,g 26,g 27,g 28,g 29,g 30,g 31,g 32,g 33])/\k<=w/\hh.get N=some (.cells false (rc w λt=> aC (if t<i then K.idxOf (M.getD t 0) else if t=i then Kk (λu=>bK u i) k else 0:Nat)))/\N<hh.next/\Fx (· =N) h9 hh/\k'=w-k) w
   ⟨0,aB rfl,iB _,by
    rw[gN,dJ λj hj=>?_]
    by_cases e:j<i
    ·rw[bJ e,bJ e]
    ·rw[bU e,bU e];split<;>rfl,nN,Fa,rfl⟩ ?_
  clear gN nN Fa ha
  rintro k' Z ha ⟨k,⟨g,rfl⟩,hk,gN,nN,Fa,rfl⟩
  by_cases q5:(k:Int)<(w:Int)
  case neg=>
   have d2:=bI q5;obtain rfl:k=w:=om
   simp(disch:=omega)only[go_sem,a1,d2];rw[fJ i];refine⟨k-(i+1),om,i+1,aB rfl,om,?_,nN,Fa,rfl⟩;rw[gN,dJ λj hj=>?_]
   by_cases e:j<i
   ·rw[bJ e,bJ om]
   ·rw[bU e]
    by_cases e2:j=i
    ·subst e2;rw[bJ rfl,bJ om,u6 j hj]
    ·rw[bU e2,bU om]
  have d2:=cI q5
  have n3:k<w:=om
  have a3:=fN ha Fa
  simp(disch:=omega)only[go_sem,a1,d2,l1.ixa,rK k n3 ha a3,rK i g8 ha a3]
  obtain⟨i3,o8⟩:=l9 k n3
  obtain⟨l2,q6⟩:=l9 i g8
  have b0:Fr ha (H.mk ha.tr (ha.next+9)):=(Fr.refl ha).bH om
  have v9:(ks[k]'om).ord<(ks[i]'om).ord∨(ks[k]'om).ord=(ks[i]'om).ord/\((ks[k]'om).size<(ks[i]'om).size∨(ks[k]'om).size=(ks[i]'om).size/\Lt (L.getD (M.getD k 0) []) (L.getD (M.getD i 0) []))↔bK k i=true:=by
   rw[m9,i3.ord,i3.size,l2.ord,l2.size,WL E o8 q6];rfl
  refine (Yr _ _ n (L.getD (M.getD k 0) []) (L.getD (M.getD i 0) []) _ om (lE hG E o8).len (lE hG E q6).len (((i3.rep.si.mono b7).mono a3).mono b0) (((l2.rep.si.mono b7).mono a3).mono b0) (bK k i) v9).mono ?_
  rintro _ F ⟨rfl,fb⟩
  have Fb:Fx (· =N) h9 F:=⟨by have:=Fa.next;have:=b0.next;have:=fb.next;omega,λq l A=>by rw[fb.get q (by have:=Fa.next;have:=b0.next;omega),b0.get q (by have:=Fa.next;omega)];exact Fa.get q l A⟩
  have b4:=gN
  rw[←(b0.trans fb).get N nN] at b4
  have x2:=(b0.trans fb).next
  have o6:=tF b4 g8
  rw[bU om,bJ rfl] at o6
  have cs:=EK (λu=>bK u i) k
  have cl:=TF (λu=>bK u i) k
  cases hb1:bK k i with
  |false=>
   simp(disch:=omega)only[go_sem];rw[fJ k];have cs:Kk (λu=>bK u i) (k+1)=Kk (λu=>bK u i) k:=by rw[cs,hb1];rfl
   exact⟨w-(k+1),om,k+1,aB rfl,om,by rw[b4,cs],om,Fb,rfl⟩
  |true=>
   rw[hb1,bJ rfl] at cs;have pt:=bT (vs:=rc w λt=>aC (if t<i then K.idxOf (M.getD t 0) else if t=i then Kk (λu=>bK u i) k else 0:Nat)) (off:=i) (by rw[iQ];omega);simp(disch:=omega)only[go_sem,o6,b4,pt];rw[fJ k];refine⟨w-(k+1),om,k+1,aB rfl,om,?_,(show N<F.next by omega),⟨(show h9.next<=F.next from Fb.next),λq l A=>by rw[H.aH _ A];exact Fb.get q l A⟩,rfl⟩;rw[lH];congr 2;refine dJ λj hj=>?_
   by_cases e:j=i
   ·subst e
    rw[bJ rfl,bU om,bJ rfl,cs];rfl
   ·rw[bU e,bU e,bU e]
 clear n9 g9 o9 f9 e9
 rintro Z ha ⟨⟨g,rfl⟩,gN,nN,Fa⟩
 have a3:=fN ha Fa
 have na:=Fa.next
 have w3:P<D:=om
 have v5:ha.get P=some (.cells false [aC n,vO,vR,vL,.aD,.aD]):=by
  rw[a3.get P om,F8.get P om (λe=>by have:P=D:=e;omega),o7 P om,f6.get P om];exact g5
 have v4:ha.get (B+1)=some (.cells false [aC 0,.aD,.aD,.aD,.aD,.aD]):=by
  rw[a3.get _ om,b7.get _ om,f3.get _ om];exact g2
 have s4:ha.get D=some (.cells false (rc m λj=> aC (Bi G L m j:Nat))):=by rw[a3.get _ om];exact gD
 obtain⟨Y,hT⟩:=exI ha.next
 obtain⟨F,eb,nb,gb,ob,fb⟩:=dK hT (sX (List.replicate w ZU))
 obtain⟨hc,ec,nc,a4,oc⟩:=mV F P [aC n,vO,vR,vL,.sl Y 0 w (.kn w),.aD]
 have k9:F.get P=some (.cells false [aC n,vO,vR,vL,.aD,.aD]):=by rw[fb.get _ om];exact v5
 have p4: ∀(hh:H) (y:V),eU (some (.cells false [aC n,vO,vR,vL,.aD,.aD])) hh P 4 [y]=some (hh.set P (some (.cells false [aC n,vO,vR,vL,y,.aD]))):=λhh y=>by simp [eU,putAt]
 simp(disch:=omega)only[go_sem,a1,abM ha w om,hT,eb,k9,p4,ec]
 have t8:M.Nodup:=by rw[←hM];exact El _
 have pK:K.Perm M:=by rw[←hM,←hm];exact ik.perm
 have lK:K.length=w:=by rw[pK.length_eq,hw]
 have U0: ∀q,q<Y->q≠P->hc.get q=ha.get q:=λq l A=>by rw[oc q A,ob q om]
 have v6:0<w->D+1<=b9:=λh0=>dH.ge ow (n:=w) (by rw[tX,b1]) om l1 h0
 refine bQ (λvs hh=>(∃g:Nat->V,vs= [g 0,.ptr B 0,.ptr (B+1) 0,g 3,vL,g 5,.ptr P 0,g 7,.sl D 0 m (.kn m),vK,g 10,g 11,g 12,g 13,g 14,g 15,g 16,g 17,.sl N 0 w (.kn w),g 19,g 20,g 21,g 22,g 23,g 24,g 25,g 26,g 27,g 28,g 29,g 30,g 31,g 32,g 33])/\hh.get P=some (.cells false [aC n,vO,vR,vL,.sl Y 0 w (.kn w),.aD])/\hh.get Y=some (.cells false (sX (Sr M K ks w w)))/\Y<hh.next/\ ∀q,q<Y->q≠P->hh.get q=ha.get q) ?_ ?_
 ·refine aI (λk' vs hh=> ∃(t:Nat),(∃g:Nat->V,vs= [g 0,.ptr B 0,.ptr (B+1) 0,g 3,vL,g 5,.ptr P 0,g 7,.sl D 0 m (.kn m),vK,g 10,g 11,g 12,g 13,g 14,g 15,g 16,g 17,.sl N 0 w (.kn w),g 19,g 20,aC t,g 22,g 23,g 24,g 25,g 26,g 27,g 28,g 29,g 30,g 31,g 32,g 33])/\t<=w/\hh.get P=some (.cells false [aC n,vO,vR,vL,.sl Y 0 w (.kn w),.aD])/\hh.get Y=some (.cells false (sX (Sr M K ks w t)))/\Y<hh.next/\(∀q,q<Y->q≠P->hh.get q=ha.get q)/\k'=w-t) w
   ⟨0,aB rfl,iB _,a4,by rw[oc Y om,IZ];exact gb,om,U0,rfl⟩ ?_
  clear U0 a4 oc nc ec k9 gb ob fb nb eb
  rintro k' Z hd ⟨t,⟨g,rfl⟩,ht,gP,gT,nT,U,rfl⟩
  by_cases a2:(t:Int)<(w:Int)
  case neg=>
   have d1:=bI a2;obtain rfl:t=w:=om
   simp(disch:=omega)only[go_sem,a1,d1];exact⟨aB rfl,gP,gT,nT,U⟩
  have d1:=cI a2
  have j8:t<w:=om
  have u0:hd.get N=some (.cells false (rc w λt=> aC (K.idxOf (M.getD t 0):Nat))):=by rw[U N om om];exact gN
  have cN:=tF u0 j8
  have q7:K.idxOf (M.getD t 0)<w:=by
   have i9:M.getD t 0∈K:=pK.mem_iff.2 (bC om);have:=XK.2 i9;omega
  have d7:=VP (ks:=ks) pK t8 hw j8
  have ek:ks.getD t ZU=ks[t]'om:=by rw[List.getD,dD om];rfl
  rw[ek] at d7
  generalize K.idxOf (M.getD t 0)=q0 at cN q7 d7
  have r5:hd.row b9 (f5+t*3) 3=some [(ks[t]'om).rep,aC ((ks[t]'om).ord:Int),aC ((ks[t]'om).size:Int)]:=by
   have l:=rK t j8 h8 (Fr.refl _);have A:=b3 om;have h3:=v6 om;unfold H.row at l ⊢;rw[U b9 om om,a3.get b9 A];exact l
  have g6:=(ks[t]'(show t<ks.length by omega)).hrep.2.1
  generalize ks[t]'(show t<ks.length by omega)=a at d7 r5 g6
  have pt:=λhh=>RO (ks:=Sr M K ks w t) (i:=q0) (by rw[BE];exact q7) hh Y a
  simp only[Nat.zero_add] at pt
  simp(disch:=omega)only[go_sem,a1,d1,H.cell_of gP,cN,l1.ixa,r5,cF _ Y _ (v:=a.rep) (u:= aC (a.ord:Int)) (w:= aC (a.size:Int)) g6 rfl rfl,gT,pt]
  rw[fJ t]
  refine⟨w-(t+1),om,t+1,aB rfl,om,?_,by rw[d7],(show Y<hd.next+12 by omega),λq l A=>?_,rfl⟩
  ·exact gP
  ·rw[H.aH _ om];exact U q l A
 clear U0 a4 oc nc ec k9 gb ob fb nb eb hc F
 rintro Z F ⟨⟨g,rfl⟩,gP,gT,nT,U⟩
 simp(disch:=omega)only[go_sem]
 refine bQ (λvs hh=> ∃(vM:V),(∃g:Nat->V,vs= [g 0,.ptr B 0,.ptr (B+1) 0,g 3,vL,g 5,.ptr P 0,g 7,.sl D 0 m (.kn m),vK,g 10,g 11,g 12,g 13,g 14,g 15,g 16,g 17,.sl N 0 w (.kn w),g 19,g 20,g 21,g 22,g 23,g 24,g 25,g 26,g 27,g 28,g 29,g 30,g 31,g 32,g 33])/\hh.get P=some (.cells false [aC n,vO,vR,vL,.sl Y 0 w (.kn w),vM])/\dH hh vM 1 (ints (zi (aeK G L K))) (Y+1)/\hh.get Y=some (.cells false (sX (Sr M K ks w w)))/\Y<hh.next/\ ∀q,q<Y->q≠P->hh.get q=ha.get q) ?_ ?_
 ·refine aI (λk' vs hh=> ∃(j:Nat) (vM:V),(∃g:Nat->V,vs= [g 0,.ptr B 0,.ptr (B+1) 0,g 3,vL,g 5,.ptr P 0,g 7,.sl D 0 m (.kn m),vK,g 10,g 11,g 12,g 13,g 14,g 15,g 16,g 17,.sl N 0 w (.kn w),g 19,g 20,g 21,aC j,g 23,g 24,g 25,g 26,g 27,g 28,g 29,g 30,g 31,g 32,g 33])/\j<=m/\hh.get P=some (.cells false [aC n,vO,vR,vL,.sl Y 0 w (.kn w),vM])/\dH hh vM 1 (ints (zi ((aeK G L K).take j))) (Y+1)/\hh.get Y=some (.cells false (sX (Sr M K ks w w)))/\Y<hh.next/\(∀q,q<Y->q≠P->hh.get q=ha.get q)/\k'=m-j) m
   ⟨0,.aD,aB rfl,iB _,gP,dH.aD _ _ _,gT,nT,U,rfl⟩ ?_
  clear gP gT nT U F
  rintro k' Z F ⟨j,vM,⟨g,rfl⟩,hj,gP,oM,gT,nT,U,rfl⟩
  have lN:(aeK G L K).length=m:=by simp [aeK,hm]
  by_cases a2:(j:Int)<(m:Int)
  case neg=>
   have d1:=bI a2;obtain rfl:j=m:=om
   simp(disch:=omega)only[go_sem,a9,d1];rw[Ro om] at oM;exact⟨vM,aB rfl,gP,oM,gT,nT,U⟩
  have d1:=cI a2
  have r8:j<m:=om
  have c7:F.get D=some (.cells false (rc m λj=> aC (Bi G L m j:Nat))):=by rw[U D om om];exact s4
  have b4:F.get N=some (.cells false (rc w λt=> aC (K.idxOf (M.getD t 0):Nat))):=by rw[U N om om];exact gN
  have cD:=tF c7 r8
  have ld:=SU hG E (j:=j) om
  obtain⟨q1,q2⟩:=PR hG E ik (j:=j) om
  rw[hm,hM] at ld q1 q2
  rw[ld] at cD
  rw[hw] at q1
  generalize NK G L M j=u at cD q1 q2
  have cN:=tF b4 q1
  rw[←q2] at cN
  have eN:(aeK G L K).take (j+1)=(aeK G L K).take j++ [NK G L K j]:=by
   rw[eY 0 om];have:(aeK G L K).getD j 0=NK G L K j:=by simp [aeK,hm,r8]
   rw[this]
  have b5:NK G L K j<=K.length:=by unfold NK;exact List.findIdx_le_length
  generalize NK G L K j=c at cN eN b5
  obtain⟨hc,c3⟩: ∃hc:H,hc=H.mk ((H.mk F.tr (F.next+10)).new (.cells false [aC c])).tr (F.next+14):=⟨_,rfl⟩
  have nc:hc.next=F.next+14:=by rw[c3]
  have a4:hc.get (F.next+10)=some (.cells false [aC c]):=by rw[c3];exact H.aL (H.mk F.tr (F.next+10)) _
  have oc: ∀q,q≠F.next+10->hc.get q=F.get q:=λq hq=>by rw[c3];exact H.bG (H.mk F.tr (F.next+10)) hq _
  have fc:Fr F hc:=⟨om,λq hq=>oc q om⟩
  obtain⟨hd,ad,pd⟩:=(oM.fr fc).push (bytes:=8) (SV.one (v:= aC c) (id:=F.next+10) om a4 (.kn 1)) (n:=j) (m:=1) (by rw[aP,aS,zO];omega) rfl om om om
  have nd:=pd.next
  have t0: ∀q,q<=Y->dR vM q:=λq hq id off n' cp e e2=>by have:=(oM.in _ _ _ _ e).2.1;omega
  have od: ∀q,q<=Y->hd.get q=F.get q:=λq hq=>by
   rw[pd.old q om (t0 q hq),oc q om]
  have t4:hd.get P=some (.cells false [aC n,vO,vR,vL,.sl Y 0 w (.kn w),vM]):=by rw[od P om];exact gP
  have p5: ∀(hh:H) (y:V),eU (some (.cells false [aC n,vO,vR,vL,.sl Y 0 w (.kn w),vM])) hh P 5 [y]=some (hh.set P (some (.cells false [aC n,vO,vR,vL,.sl Y 0 w (.kn w),y]))):=λhh y=>by simp [eU,putAt]
  simp(disch:=omega)only[go_sem,a9,d1,H.cell_of gP,cD,show ((u+1:Nat):Int)- 1=(u:Int) from om,cN,cK _ (z:= aC 0) (v:= aC c) rfl rfl,←c3,ad,t4,p5]
  rw[fJ j]
  have t:=pd.own (b:=Y+1) (by rw[aP,aS,zO];omega) rfl om
  have el:ints (zi ((aeK G L K).take (j+1)))=ints (zi ((aeK G L K).take j))++ [aC c]:=by rw[eN];simp [zi,ints]
  rw[←el] at t
  refine⟨m-(j+1),om,j+1,_,aB rfl,om,rfl,?_,?_,(show Y<hd.next by omega),λq l A=>?_,rfl⟩
  ·exact t.mono (dT _) λid off n' cp e l A=>H.aH _ om _
  ·rw[od Y (dT _)];exact gT
  ·rw[H.aH _ A,od q om];exact U q l A
 clear gP gT nT U F
 rintro Z F ⟨vM,⟨g,rfl⟩,gP,oM,gT,nT,U⟩
 have gA:F.get (B+1)=some (.cells false [aC 0,.aD,.aD,.aD,.aD,.aD]):=by rw[U _ om om];exact v4
 have q9:=(SV.cT oM.sv).2.1
 simp(disch:=omega)only[go_sem,EE gP,Nq _ (B+1) (a:= aC n) (b:=vO) (c:=vR) (d:=vL) (e:= .sl Y 0 w (.kn w)) (f:=vM) rfl a0.1 a0.2 wL.2.1 rfl q9,gA,Hi,EE (H.aU ..)]
 obtain⟨hz,ez⟩:=exI (F.set (B+1) (some (.cells false [aC n,vO,vR,vL,.sl Y 0 w (.kn w),vM])))
 rw[ez]
 have nz:hz.next=F.next:=by rw[←ez];rfl
 have oz: ∀q,q≠B+1->hz.get q=F.get q:=λq hq=>by rw[←ez];exact H.aH _ hq _
 have x3:Fx (λq=>q<A.next) h3 hz:=⟨om,λq l A=>by rw[oz q om,U q om om,a3.get q om,b7.get q l]⟩
 have w2:=b7.next
 refine⟨vO,vR,K,_,rfl,rfl,ik,⟨vL,Y,Sr M K ks w w,vM,by rw[lK],om,om,by rw[oz Y om];exact gT,?_,?_,?_⟩,?_⟩
 ·exact (PI pK hw al).mono λa r k=>⟨k.ord,k.size,PV.go k.rep x3 λq y1 y2=>(show q<A.next from om)⟩
 ·exact dZ.sp' (c8.tU x3.next λid off n' cp e l=>x3.get id l (by have:=(c8.in _ _ _ _ e).2.1;omega)).sv (l0.fx x3)
 ·exact (oM.tU om λid off n' cp e l=>oz id (by have:=(oM.in _ _ _ _ e).2.1;omega)).sv
 ·refine⟨om,λq hq=>?_⟩
  rw[oz q om,U q om om,a3.get q om,b7.get q om]
  exact (F2.trans f3).get q om
end
section
variable {n:Nat} {G:List Nat->Prop} {L:LN} {W:Nat->Prop} {a:Cls.KE}
theorem Pv.go {W':Nat->Prop}{h h':H}{r:Nat}(k:Pv n G L W h a r)(f:Fx W h h')(b: ∀id,id<h.next->W' id->W id):Pv n G L W' h' a r:=⟨k.ord,k.size,PV.go k.rep f b⟩
theorem Pv.fr {h h':H}{r:Nat}(k:Pv n G L W h a r)(f:Fr h h'):Pv n G L W h' a r:=⟨k.ord,k.size,k.rep.si.mono f,k.rep.off⟩
theorem RdO.open {K:List Nat}{b:Nat}{g c:V}{hh:H}{v:V}(r:RdO n G L K b g c hh v):
  ∃vL S ks vM,v= .agg [aC n,g,c,vL,.sl S 0 K.length (.kn K.length),vM]/\vL.one=true/\vM.one=true/\b<=S/\S<hh.next/\hh.get S=aF (sX ks)/\ks.length=K.length/\aN (Pv n G L (λq=>q<b∨S<=q) hh) ks K/\SP hh vL L/\SI hh vM (zi (aeK G L K)):=by
 obtain⟨vL,S,ks,vM,e,i,k,j,h,f,d⟩:=r.ex
 exact⟨vL,S,ks,vM,e,(SV.cT (show SV hh vL 1 _ from f.choose_spec.1)).2.1,(SV.cT d).2.1,i,k,j,aN.length h,h,f,d⟩
theorem EN {ks:List Cls.KE}{i:Nat}(hi:i<ks.length)(b:a.ord=ks[i].ord)(h2:a.size=ks[i].size):(sX ks).set (i*3) a.rep=sX (ks.set i a):=by
 induction ks generalizing i with
 |nil=>simp at hi
 |cons c r ih=>
  cases i with
  |zero=>
   have b:a.ord=c.ord:=b;have h2:a.size=c.size:=h2;rw[List.set_cons_zero,eP,eP];unfold Oz;rw[b,h2];rfl
  |succ i=>
   have:=ih (i:=i) (by simpa using hi) (by simpa using b) (by simpa using h2);rw[List.set_cons_succ,eP,eP,←this,show (i+1)*3=(Oz c).length+i*3 from by show (i+1)*3=3+i*3;omega,List.set_append_right _ _ om,Nat.add_sub_cancel_left]
theorem FZ (vc:V)(n:Nat)(O:LN)(R:jJ)(G:List Nat->Prop)(h:H)(Q:GC W h vc n O R G)(L:LN)(hL:dM O R n 0 (aX n)=L):
  Ev T 111 [vc] h (λv h'=> ∃vl K ks,v= .tup [vl,aC 0]/\Ab n G L K/\SV h' vl 3 (sX ks)/\aN (Pv n G L (λ_=>False) h') ks K/\Fr h h'):=by
 have b4:=Q
 obtain⟨Y,U,rfl,sO,sR⟩:=Q.ch
 refine dW vZ rfl ?_
 have z:Y.one=true:=BX sO
 have A:U.one=true:=Up sR
 have n7:=Q.n7
 have hG:=Q.cY
 obtain⟨E,ll⟩:=dB Q.cY Q.isc
 have c2:=jE Q
 rw[hL] at E ll
 obtain⟨B,hB⟩:=exI h.next
 obtain⟨Z,e1,n1,g1,o1,f1⟩:=dK hB [aC n,Y,U]
 have bx:=bV h (v:= aC n) (u:=Y) (w:=U) rfl z A
 simp(disch:=omega)only[go_sem,vZ,aE,bx,hB,e1,aJ g1]
 refine (LM _ n O R G Z (b4.mono f1) L hL).mono ?_
 rintro _ p ⟨c1,b9,K,vg,ee,rfl,ik,rd,f2⟩
 cases ee
 obtain⟨vL,S,ks,vM,rfl,a0,a6,c0,nS,gS,m,N,sL,sM⟩:=rd.open
 obtain⟨P,hP⟩:=exI p.next
 obtain⟨h3,e3,n3,g3,o3,f3⟩:=dK hP [aC 0,.aD,.aD,.aD,.aD,.aD]
 obtain⟨h4,e4,n4,g4,o4⟩:=mV h3 P [aC n,Y,U,vL,.sl S 0 K.length (.kn K.length),vM]
 have o:Fr p h4:=⟨om,λq hq=>by rw[o4 q om,o3 q om]⟩
 simp(disch:=omega)only[go_sem,hP,e3,Nq h3 P (a:= aC n) (b:=Y) (c:=U) (d:=vL) (e:= .sl S 0 K.length (.kn K.length)) (f:=vM) rfl z A a0 rfl a6,g3,Hi,e4]
 have b0:K.length<=5040:=by
  rw[ik.perm.length_eq];unfold kC;exact mY (List.length_filter_le _ _) (by rw[Xf];omega)
 have b6: ∀r∈K,r<L.length:=λr hr=>(jY.1 (ik.perm.mem_iff.1 hr)).1
 obtain⟨w,hw⟩:=exI K.length
 rw[hw] at m b0
 refine aI (λk' y l=> ∃(i:Nat) (ks:List Cls.KE),(∃g:Nat->V,y= [g 0,g 1,g 2,g 3,.ptr P 0,aC 0,aC i,g 7])/\i<=w/\ks.length=w/\l.get S=aF (sX ks)/\aN (Pv n G L (· =S) l) ks K/\Fx (· =S) h4 l/\k'=w-i) w
  ⟨0,ks,aB rfl,iB _,m,by rw[o.get _ nS];exact gS,N.mono λ_ _ k=>Pv.fr (Pv.go k (Fx.refl _ _) (λq _ e=> .inr (by have:q=S:=e;omega))) o,Fx.refl _ _,rfl⟩ ?_
 clear m N gS
 rintro k' y l ⟨i,ks,⟨g,rfl⟩,hi,m,gS,N,F,rfl⟩
 have nF:=F.next
 have gP:l.get P=aF [aC n,Y,U,vL,.sl S 0 K.length (.kn K.length),vM]:=by rw[F.get P om (λe=>by have:P=S:=e;omega)];exact g4
 rw[hw] at gP
 by_cases a2:(i:Int)<(w:Int)
 case neg=>
  have d1:=bI a2;simp(disch:=omega)only[go_sem,H.cell_of gP,d1]
  refine⟨_,K,ks,rfl,ik,SV.all (by rw[tX,m]) om gS _,N.mono λ_ _ k=>Pv.go k (Fx.refl _ _) (λq _ e=>e.elim),⟨by have:=o.next;have:=f2.next;omega,λq hq=>by
   have y1:=f2.next;have y2:=o.next
   rw[F.get q om (λe=>by have:q=S:=e;omega),o.get q om,f2.get q om];exact f1.get q om⟩⟩
 have d1:=cI a2
 have b7:i<w:=om
 have k1:=aN.get N i om om
 obtain⟨p1,_,_⟩:=Yi (ks:=ks) (i:=i) om
 have cS:l.cell S (i*3)=some (ks[i]'om).rep:=by rw[H.cell_of gS];exact p1
 obtain⟨a,ha⟩:=exI (ks[i]'(show i<ks.length by omega))
 rw[ha] at k1 cS
 have a8:K[i]'om<L.length:=b6 _ (xG _)
 have a4:Fr l (H.mk l.tr (l.next+13)):=(Fr.refl l).bH om
 have ga:P≠S:=om
 simp(disch:=omega)only[go_sem,H.cell_of gP,d1,cS]
 refine (agS a.rep (zi (L.getD (K[i]'om) [])) _ (k1.rep.si.mono a4) (by rw[aS,(lE hG E a8).len];omega)).mono ?_
 rintro v1 J ⟨s,f5,_⟩
 have k5:=a4.trans f5
 have b8:=k5.next
 have a7:J.get S=aF (sX ks):=by rw[k5.get S om];exact gS
 have a9:J.get P=aF [aC n,Y,U,vL,.sl S 0 w (.kn w),vM]:=by rw[k5.get P om];exact gP
 have t:=SV.cT s.sv
 obtain⟨x,a1,a5,a3⟩: ∃x:Cls.KE,x.rep=v1/\x.ord=a.ord/\x.size=a.size:=⟨⟨v1,a.ord,a.size,.aD,0,⟨t.1,t.2.1,SV.dI s.sv⟩,⟨rfl,rfl,rfl⟩⟩,rfl,rfl,rfl⟩
 have pt:=bT (vs:=sX ks) (off:=i*3) (by rw[tX];omega)
 have ls:=EN (ks:=ks) (i:=i) om (a:=x) (by rw[a5,ha]) (by rw[a3,ha])
 rw[a1] at ls
 simp(disch:=omega)only[go_sem,H.cell_of a9,kP t.1 t.2.1,a7,pt,ls]
 rw[fJ i]
 refine⟨by simp [dI],w-(i+1),om,i+1,ks.set i x,aB rfl,om,by rw[List.length_set];exact m,rfl,?_,⟨(show h4.next<=J.next by omega),λq Z p=>by rw[H.aH _ p,k5.get q om];exact F.get q Z p⟩,rfl⟩
 have x5:Fx (· =S) l (J.set S (aF (sX (ks.set i x)))):=⟨(show l.next<=J.next by omega),λq Z p=>by rw[H.aH _ p];exact k5.get q Z⟩
 have b3:aN (Pv n G L (· =S) (J.set S (aF (sX (ks.set i x))))) ks K:=N.mono λ_ _ k=>Pv.go k x5 λ_ _ e=>e
 have b5:=aN.length N
 refine aN.eM (by rw[List.length_set];exact b5) λj hj b2=>?_
 rw[List.getElem_set]
 by_cases e:i=j
 ·rw[bJ e]
  subst e
  refine⟨by rw[a5,k1.ord],by rw[a3,k1.size],?_⟩
  rw[a1]
  have p5:PV (· =S) J v1 (L.getD (K[i]'om) []):=⟨s.sv,by
   have b1:=s.in
   cases v1 with
   |sl id off len cap=>exact λe=>by have:=(b1 _ _ _ _ rfl).2.1;have:l.next+13<=id:=this;have e:id=S:=e;omega
   |_=>trivial⟩
  exact p5.fx ⟨dT _,λq Z p=>H.aH _ p _⟩
 ·rw[bU e]
  exact aN.get b3 j (by rw[List.length_set] at hj;exact hj) b2
end
set_option maxRecDepth 100000
set_option maxRecDepth 100000
set_option maxHeartbeats 8000000
theorem IY {W:Nat->Prop}(j:V)(n:Nat)(O:LN)(R:jJ)(G:List Nat->Prop)(h:H)(b:GC W h j n O R G):
  Ev T 110 [j] h (λv h'=>v= .tup [aC (iW O n 0:Nat),aC 0]/\Fr h h'):=by
 obtain⟨e,c,rfl,q,y⟩:=b.shape
 refine dW vE rfl ?_
 obtain⟨B,k⟩:=exI h.next
 obtain⟨z,s,A,g,F,a⟩:=dK k [aC n,e,c]
 simp(disch:=omega)only[go_sem,vE,aE,bV h (v:= aC n) (u:=e) (w:=c) rfl q y,k,s,aJ g]
 refine ((b.mono a).Jf).mono ?_
 rintro _ i ⟨rfl,f⟩
 have d:i.get B=aF [aC n,e,c]:=by rw[f.get B om];exact g
 have p:decide ((0:Int)≠0)=false:=rfl
 simp(disch:=omega)only[go_sem,p,aJ d]
 refine (Bv _ n O R G i (b.mono (a.trans f))).mono ?_
 rintro _ l ⟨S,rfl,m,r,x,o⟩
 have t:l.cell S 0=some (aC (iW O n 0:Nat)):=by
  rw[H.cell_of x,Nk om]
  rfl
 simp(disch:=omega)only[go_sem,t]
 exact ((a.trans f).trans o)
theorem IG (i:V)(d:Int)(O:List (List Int))(R:List (List (List Int)))(h:H)(k:YD h i d O R)(n:d<=7∨64<d)(x:Bf O)(sr:Pw R)(s:Wa d O R≠0):
  Ev T 59 [i] h (λv h'=>v= aC (Wa d O R)/\Fr h h'):=by
 have f:=k
 obtain⟨e,c,rfl,r,t⟩:=k
 refine dW kE rfl ?_
 have a:e.one=true:=BX r
 have b:c.one=true:=Up t
 obtain⟨B,j⟩:=exI h.next
 obtain⟨l,q,z,m,A,g⟩:=dK j [aC d,e,c]
 simp(disch:=omega)only[go_sem,kE,aE,bV h (v:= aC d) (u:=e) (w:=c) rfl a b,j,q,aJ m]
 refine (Bd _ d O R l (f.mono g) n x sr).mono ?_
 rintro _ y ⟨rfl,p⟩
 have o:=cI s
 simp(disch:=omega)only[go_sem,o]
 exact g.trans p
theorem Wj {W:Nat->Prop}(j:V)(n:Nat)(O:LN)(R:jJ)(G:List Nat->Prop)(h:H)(a:GC W h j n O R G):
  Ev T 59 [j] h (λv h'=>v= aC 0/\Fr h h'):=by
 obtain⟨e,c,rfl,p,r⟩:=a.shape
 refine dW kE rfl ?_
 obtain⟨B,l⟩:=exI h.next
 obtain⟨s,q,x,g,y,b⟩:=dK l [aC n,e,c]
 simp(disch:=omega)only[go_sem,kE,aE,bV h (v:= aC n) (u:=e) (w:=c) rfl p r,l,q,aJ g]
 refine ((a.mono b).Jf).mono ?_
 rintro _ i ⟨rfl,f⟩
 have d:i.get B=aF [aC n,e,c]:=by rw[f.get B om];exact g
 have k:decide ((0:Int)≠0)=false:=rfl
 have sz:=jE a
 have m:decide (((iW O n 0:Nat):Int)>5040)=false:=bI om
 simp(disch:=omega)only[go_sem,k,aJ d]
 refine (IY _ n O R G i (a.mono (b.trans f))).mono ?_
 rintro _ t ⟨rfl,o⟩
 simp(disch:=omega)only[go_sem,k,m]
 exact ((b.trans f).trans o)
theorem acO {W W':Nat->Prop}(k i:V)(n:Nat)(c d:jZ)(G G':List Nat->Prop)(h:H)(j:GC W h k n c.1 c.2 G)(l:GC W' h i n d.1 d.2 G'):
  Ev T 31 [k,i] h (λv h'=>v= .bool (decide (c=d))/\Fr h h'):=by
 refine (Wi k i n n _ _ _ _ h j.ch l.ch j.small.1 l.small.1 j.small.2 l.small.2).mono ?_
 rintro _ m ⟨rfl,f⟩
 have inj: ∀{a b:LN},a.map zi=b.map zi->a=b:=λh=>map_inj (λ_ _=>Wv) h
 have g: ∀{a b:jJ},a.map (List.map zi)=b.map (List.map zi)->a=b:=λh=>map_inj (λ_ _=>inj) h
 exact⟨congrArg V.bool (decide_eq_decide.2 ⟨λ⟨_,a,b⟩=>Prod.ext (inj a) (g b),λe=>by rw[e];exact⟨rfl,rfl,rfl⟩⟩),f⟩
set_option maxRecDepth 100000
set_option maxHeartbeats 16000000
set_option maxRecDepth 100000
section
variable {W W':Nat->Prop} {L:LN} {h:H}
theorem agK {p:V×V×V}{r:List Nat}(n k Q:Nat)(j:V)(ps:List (V×V×V))(rs:LN)(A:L.length<=5040)(hl:rs.length<1000000)(y:h.get k=some (.cells false [.ptr Q 0]))(Z:k<h.next)(w:h.get Q=some (.cells false [j]))(nQ:Q<h.next)(sv:SV h j 4 (Ae n ps))(al:aN (Nm W n L h) ps rs)(m:Nm W' n L h p r):
  Ev T 53 [AY n p,.ptr k 0] h (λv h'=>v= .bool (Xp rs r)/\Fr h h'):=by
 obtain⟨N,J,O⟩:=m.one
 have Y:=aN.length al
 refine dW yQ rfl ?_
 obtain⟨B,s⟩:=exI h.next
 obtain⟨l,G,U,u,t,g⟩:=dK s [aC n,p.1,p.2.1,p.2.2]
 have o:l.get k=some (.cells false [.ptr Q 0]):=by rw[t _ om];exact y
 have q:l.get Q=some (.cells false [j]):=by rw[t _ om];exact w
 simp(disch:=omega)only[go_sem,yQ,aE,gY h (a:= aC n) (b:=p.1) (c:=p.2.1) (d:=p.2.2) rfl N J O,s,G,H.cell_of o,H.cell_of q]
 refine (GM j 55 [.ptr B 0] n ps (λi=>decide ((rs.getD i []).length<r.length)&&(rs.getD i []).all λi=>decide (i∈r)) l (sv.mono g) om λi hi P f=>?_).mono ?_
 ·have F:=(aN.get al i hi om).mono (g.trans f)
  rw[List.getD,dD om,Option.getD_some]
  exact aaP n B A F (m.mono (g.trans f)) (by rw[f.get B om];exact u) (by have:=f.next;omega)
 rintro _ R ⟨⟨b,rfl,K⟩,z⟩
 simp(disch:=omega)only[go_sem]
 refine⟨?_,g.trans z⟩
 congr 1
 refine DW.2 (K.trans ?_)
 unfold Xp
 rw[List.any_eq_true]
 constructor
 ·rintro⟨i,hi,e⟩
  exact⟨_,bC om,e⟩
 ·rintro⟨x,hx,e⟩
  obtain⟨i,hi,rfl⟩:=Ad.1 hx
  exact⟨i,om,by rw[List.getD,dD hi];exact e⟩
theorem SM {rs:LN}{i:Nat}(c:1<=i)(hi:i<rs.length):JE (rs.take (i+1))=if lexB rs[i] (JE (rs.take i)) then rs[i] else JE (rs.take i):=by
 cases rs with
 |nil=>simp at hi
 |cons a l=>
  obtain⟨k,rfl⟩: ∃k,i=k+1:=⟨i- 1,om⟩
  have b:k<l.length:=by simpa using hi
  show (l.take (k+1)).foldl _ a=_;rw[List.take_succ_eq_append_getElem b,List.foldl_append]
  rfl
theorem aaQ (n:Nat)(vl:V)(ps:List (V×V×V))(rs:LN)(hL:L.length<=5040)(hl:rs.length<1000000)(h0:0<rs.length)(sv:SV h vl 4 (Ae n ps))(al:aN (Nm W n L h) ps rs):
  Ev T 57 [vl,.fn 58 [] []] h (λv h'=>(∃i,∃hi:i<ps.length,v=AY n ps[i]/\rs.getD i []=JE rs)/\Fr h h'):=by
 have lp:=aN.length al
 have R:=Bo sv
 have n0:0<ps.length:=om
 have one: ∀j (r:j<ps.length),ps[j].1.one=true/\ps[j].2.1.one=true/\ps[j].2.2.one=true:=λj r=>(aN.get al j r om).one
 have d0:decide ((ps.length:Int)<1)=false:=bI om
 refine dW fR rfl ?_
 obtain⟨B,hB⟩:=exI h.next
 obtain⟨h1,e1,n1,g1,q1,t⟩:=dK hB [aC 0,.aD,.aD,.aD]
 have z:=(Mq (sv.mono t) n0)
 obtain⟨id,a6,sh,row,_⟩:=z
 obtain⟨h2,e2,n2,g2,q2,f2⟩:=dK n1 [aC 0,.aD,.aD,.aD]
 obtain⟨h3,e3,n3,g3,q3⟩:=mV h2 (B+1) (Bz n ps[0])
 obtain⟨o1,o2,o3⟩:=one 0 n0
 have ix:=sh.ixa .i64 0 om om
 simp only[Int.toNat_zero] at ix
 simp(disch:=omega)only[go_sem,fR,aE,hB,e1,R,d0,ix,row,n1,e2,kV h2 (B+1) 0 (a:= aC n) (b:=ps[0].1) (c:=ps[0].2.1) (d:=ps[0].2.2) rfl o1 o2 o3,g2,jS,e3]
 have A:Fr h1 h3:=⟨om,λq K=>by rw[q3 q om,q2 q om]⟩
 have F3:=t.trans A
 refine aI (λk' p e=> ∃(i j:Nat),(∃g:Nat->V,p= [vl,.fn 58 [] [],.ptr B 0,.ptr (B+1) 0,aC i,g 5,g 6,g 7])/\1<=i/\i<=ps.length/\(∃r:j<ps.length,e.get (B+1)=some (.cells false (Bz n ps[j])))/\rs.getD j []=JE (rs.take i)/\B+1<e.next/\Fr h1 e/\k'=ps.length-i) (ps.length- 1)
  ⟨1,0,aB rfl,om,om,⟨n0,g3⟩,?_,om,A,rfl⟩ ?_
 ·cases rs with
  |nil=>simp at h0
  |cons a l=>rfl
 rintro k' p e ⟨i,j,⟨g,rfl⟩,a5,hi,⟨r,Q⟩,O,nB,f,rfl⟩
 have gB:e.get B=some (.cells false [aC 0,.aD,.aD,.aD]):=by rw[f.get B om];exact g1
 obtain⟨w1,w2,w3⟩:=one j r
 by_cases y:(i:Int)<(ps.length:Int)
 case neg=>
  have U:=bI y;obtain rfl:i=ps.length:=om
  obtain⟨x,e4,n4,g4,q4⟩:=mV e B (Bz n ps[j]);rw[lp,List.take_length] at O;simp(disch:=omega)only[go_sem,R,U,iD Q,kV e B 0 (a:= aC n) (b:=ps[j].1) (c:=ps[j].2.1) (d:=ps[j].2.2) rfl w1 w2 w3,gB,jS,e4,iD g4];exact⟨⟨j,r,rfl,O⟩,⟨by have:=(t.trans f).next;omega,λq K=>by rw[q4 q om,(t.trans f).get q K]⟩⟩
 have U:=cI y
 have o:i<ps.length:=om
 obtain⟨a0,w,F,s,a4⟩:=Mq (sv.mono (t.trans f)) o
 have mi:=aN.get al i o om
 have mj:=aN.get al j r om
 have fb: ∀k,e.next<=k->Fr e (H.mk e.tr k):=λk hk=>(Fr.refl e).bH hk
 simp(disch:=omega)only[go_sem,R,U,F.ixa,s,iD Q]
 refine (JD n hL (mi.mono ((t.trans f).trans (fb _ om))) (mj.mono ((t.trans f).trans (fb _ om)))).mono ?_
 rintro _ x ⟨rfl,f4⟩
 have m:=(fb _ om).trans f4
 have u:x.get (B+1)=some (.cells false (Bz n ps[j])):=by rw[m.get _ nB];exact Q
 have r4:x.row a0 (w+i*4) 4=some (Bz n ps[i]):=by rw[DQ m a4];exact s
 have Z:=mi.eq
 have Y:=mj.eq
 simp(disch:=omega)only[go_sem,iD u,r4,Z.1,Z.2.1,Z.2.2,Y.1,Y.2.1,Y.2.2]
 have J:=SM (rs:=rs) a5 om
 have lx:=Uj rs[i] rs[j]
 have G:rs[j]=JE (rs.take i):=by rw[←O,List.getD,dD om];rfl
 have n4:=m.next
 by_cases N:Ja rs[i] rs[j]<0
 ·have P:=cI N
  rw[bJ (by rw[←G];exact lx.1 N)] at J
  obtain⟨a1,a2,a3⟩:=one i o
  obtain⟨h5,e5,n5,g5,q5⟩:=mV x (B+1) (Bz n ps[i])
  simp(disch:=omega)only[go_sem,P,F.ixa,r4,kV x (B+1) 0 (a:= aC n) (b:=ps[i].1) (c:=ps[i].2.1) (d:=ps[i].2.2) rfl a1 a2 a3,u,jS,e5]
  rw[fJ i]
  exact⟨ps.length-(i+1),om,i+1,i,aB rfl,om,om,⟨o,g5⟩,by rw[J,List.getD,dD om];rfl,om,⟨by have:=f.next;omega,λq K=>by rw[q5 q om,m.get q (by have:=f.next;omega),f.get q K]⟩,rfl⟩
 ·have P:=bI N
  rw[bU (by rw[←G];exact λh=>N (lx.2 h))] at J
  simp(disch:=omega)only[go_sem,P]
  rw[fJ i]
  exact⟨ps.length-(i+1),om,i+1,j,aB rfl,om,om,⟨r,u⟩,by rw[J];exact O,om,f.trans m,rfl⟩
end
structure yW (n:Nat)(G:List Nat->Prop)(L:LN)(r:List Nat):Prop where
 rk:Rk L (RG L r) r
 cY:dO n (RG L r)
 nm: ∀y g,RG L r y->G g->RG L r (aT y g)
 le: ∀x,RG L r x->G x
section
variable {n:Nat} {G:List Nat->Prop} {L:LN} {K r:List Nat} {i:Nat} (hG:dO n G) (E:cZ G L)
include hG E
omit hG in
theorem yW.Lf {N:List Nat->Prop}(a:dO n N)(le: ∀x,N x->G x)(b: ∀y g,N y->G g->N (aT y g)):yW n G L (Lf L N):=by
 have k:=zH L N;have e:N=RG L (Go.Proofs.YtcdbmkidaecdiaaGreat.Lf L N):=funext λx=>propext (k.iff E le x)
 exact⟨k.self E,by rw[←e];exact a,by rw[←e];exact b,by rw[←e];exact le⟩
theorem EB:yW n G L (Lf L λx=>x=aX n):=
 yW.Lf E (Um n) (λx h=>by rw[h];exact hG.one) λy g b a=>by rw[b];exact mN (hG.bF a)
theorem Uc (k:yW n G L r)(hi:i<L.length):yW n G L (Ai n G L r i):=by
 have a:=pD E hi;exact yW.Lf E (Mk.cY hG k.le a) (λx h=>Mk.le hG k.le a h) λy g c b=>NC.cj c b
omit hG E in
theorem xF (j:Nat):j∈Ai n G L r i↔j<L.length/\Mk n G (RG L r) (L.getD i []) (L.getD j []):=(zH L _).mem j
omit hG E in
theorem Dr (k:yW n G L r)(hi:i<L.length)(d:i∉r):(∀x∈r,x∈Ai n G L r i)/\i∈Ai n G L r i/\r.length<(Ai n G L r i).length:=by
 have a: ∀x∈r,x∈Ai n G L r i:=λx c=>(xF x).2 ⟨((k.rk.mem x).1 c).1,NC.of (.inl ⟨x,c,rfl⟩)⟩
 have b:i∈Ai n G L r i:=(xF i).2 ⟨hi,NC.of (.inr rfl)⟩;refine⟨a,b,?_⟩;have nd:(i::r).Nodup:=List.nodup_cons.2 ⟨d,k.rk.asc.imp λh=>Nat.ne_of_lt h⟩
 have:=List.Nodup.length_le_of_subset (l₂:=Ai n G L r i) nd λx c=>by
  rcases vI.1 c with rfl|c
  ·exact b
  ·exact a x c
 rw[List.length_cons] at this;omega
theorem aeR (k:yW n G L r)(o:Ab n G L K)(q:r.length<L.length):GZ n G L r K≠ []:=by
 intro e
 have all: ∀i,i∈K->i∈r:=λi hi=>Jj λm=>by
  have:Ai n G L r i∈GZ n G L r K:=Gu.2 ⟨i,hi,m,rfl⟩;rw[e] at this;cases this
 have: ∀j,j<L.length->j∈r:=λj a=>by
  obtain⟨s,p,l,g,h,e⟩:=Px hG E a;have f:s∈K:=o.perm.mem_iff.2 (jY.2 ⟨om,l⟩);obtain⟨t,b,c⟩:=k.nm _ _ ⟨s,all s f,rfl⟩ h;have:t=j:=wU E.nodup ((k.rk.mem t).1 b).1 a (c.trans e);rw[←this];exact b
 have:=List.Nodup.length_le_of_subset (l₁:=List.range L.length) (l₂:=r) List.nodup_range λx d=>this x (Dj.1 d)
 rw[Xf] at this;omega
theorem Cz (k:yW n G L r)(l:Ab n G L K)(v:r.length<L.length):(∃i,i∈K/\i∉r/\Qx n G L K r=Ai n G L r i)/\yW n G L (Qx n G L K r)/\r.length<(Qx n G L K r).length/\
  ∀j,j∈K->j∉r->(∀x∈Ai n G L r j,x∈Qx n G L K r)->Ai n G L r j=Qx n G L K r:=by
 have q:=YZ (RV (aeR hG E k l v))
 have e:JE (KL (GZ n G L r K))=Qx n G L K r:=rfl
 rw[e] at q
 obtain⟨u,s⟩:=Rq.1 q
 obtain⟨i,hi,c,e⟩:=Gu.1 u
 have a:=l.lt hi
 refine⟨⟨i,hi,c,e⟩,by rw[e];exact Uc hG E k a,by rw[e];exact (Dr k a c).2.2,λj m d b=>?_⟩
 have o:=(Uc hG E k (l.lt m)).rk
 have t:Rk L (RG L (Qx n G L K r)) (Qx n G L K r):=by rw[e];exact (Uc hG E k a).rk
 have p:=o.asc.imp λh=>Nat.ne_of_lt h
 have z:=List.Nodup.length_le_of_subset p b
 have w:(Qx n G L K r).length<=(Ai n G L r j).length:=by
  refine Nat.le_of_not_lt λh=>?_
  rw[Bool.not_eq_true'] at s;have:=List.any_eq_false.1 s _ (Gu.2 ⟨j,m,d,rfl⟩);rw[sE,Ak,zP] at this;exact this ⟨h,λx f=>cI (b x f)⟩
 refine pL o.asc t.asc λx=>⟨b x,λf=>Jj λc=>?_⟩
 have:=List.Nodup.length_le_of_subset (List.nodup_cons.2 ⟨c,p⟩) (l₂:=Qx n G L K r) λy g=>by
  rcases vI.1 g with rfl|g
  ·exact f
  ·exact b y g
 rw[List.length_cons] at this
 omega
end
structure Ec (n:Nat)(G:List Nat->Prop)(L:LN)(K:List Nat)(rs:LN)(r:List Nat):Prop where
 hd:rs[0]? =some (Lf L λx=>x=aX n)
 st: ∀k a b,rs[k]? =some a->rs[k+1]? =some b->a.length<L.length/\b=Qx n G L K a
 la:rs[rs.length- 1]? =some r
 all: ∀a∈rs,yW n G L a
 len:rs.length<=r.length
structure zC (n:Nat)(G:List Nat->Prop)(L:LN)(K:List Nat)(rs:LN):Prop where
 ex: ∃r,Ec n G L K rs r/\r.length=L.length
section
variable {n:Nat} {G:List Nat->Prop} {L:LN} {K r:List Nat} {rs:LN} (hG:dO n G) (E:cZ G L)
include hG E
theorem Ec.start:Ec n G L K [Lf L λx=>x=aX n] (Lf L λx=>x=aX n):=by
 refine⟨rfl,λk a b f d=>by simp at d,rfl,λa c=>by rw[List.mem_singleton.1 c];exact EB hG E,?_⟩;obtain⟨i,hi,e⟩:=Ad.1 ((E.mem _).2 hG.one);have:i∈Lf L λx=>x=aX n:=((zH L _).mem i).2 ⟨hi,by rw[List.getD,dD hi];exact e⟩
 exact Rl this
theorem Ec.push (c:Ec n G L K rs r)(t:Ab n G L K)(j:r.length<L.length):Ec n G L K (rs++ [Qx n G L K r]) (Qx n G L K r):=by
 have o:0<rs.length:=by
  have:=(vJ.1 c.hd).1;exact this
 have m:yW n G L r:=c.all r (Xu c.la);obtain⟨_,s,u,_⟩:=Cz hG E m t j;refine⟨by rw[Dt o];exact c.hd,λk a b d f=>?_,by rw[iV];show (rs++_)[rs.length+1- 1]? =_;rw[Nat.add_sub_cancel,Jg (dT _),Nat.sub_self];rfl,λa q=>?_,by rw[iV];show rs.length+1<=_;have:=c.len;omega⟩
 ·by_cases e:k+1<rs.length
  ·rw[Dt om] at d
   rw[Dt e] at f;exact c.st k a b d f
  ·have g:=(vJ.1 f).1
   rw[iV] at g;have g:k+1<rs.length+1:=g;have p:k+1=rs.length:=om
   rw[Dt om] at d;rw[Jg om,p,Nat.sub_self] at f;have l:=c.la;rw[show rs.length- 1=k by omega] at l;rw[l] at d;cases d;cases f;exact⟨j,rfl⟩
 ·rcases oD.1 q with h|h
  ·exact c.all a h
  ·rw[List.mem_singleton.1 h];exact s
end
def BM (W:Nat->Prop)(n:Nat)(L:LN)(h:H)(p:V×V)(r:List Nat):Prop:= ∃O R,GC W h (.agg [aC n,p.1,p.2]) n O R (RG L r)
theorem BM.go {W W':Nat->Prop}{n:Nat}{L:LN}{h h':H}{p:V×V}{r:List Nat}(g:BM W n L h p r)(f:Fx W h h')(a: ∀q,q<h.next->W' q->W q):BM W' n L h' p r:=by
 obtain⟨O,R,g⟩:=g;exact⟨O,R,g.go f a⟩
structure WkJ (n:Nat)(L:LN)(Q:Nat)(h0 hh:H)(fd:LN):Prop where
 g8:hh.get (Q+1)=aF [.ptr Q 0]
 ex: ∃vf,hh.get Q=aF [vf]/\NmL (λq=>q<Q+2) n L (Q+2) hh vf fd
 fr:Fr h0 hh
 nx:Q+2<=hh.next
 len:fd.length<=6000
theorem TS {n:Nat}{G:List Nat->Prop}{L:LN}{r:List Nat}: ∀(K:List Nat) (l:LN),(K.foldl (λl i=>if i∈r then l else uD l (Ai n G L r i)) l).length<=l.length+K.length
 | [],l=>dT _
 |k::K,l=>by
  rw[List.foldl_cons,List.length_cons];refine mY (TS K _) ?_;split
  ·omega
  ·unfold uD
   split
   ·omega
   ·rw[iV];show l.length+1+_<=_;omega
theorem Vh {α:Type}[Inhabited α](l:List (List α))(f:List α->Bool):oT (λi=>f (l.getD i [])) l=l.filter λa=>!f a:=by
 have b: ∀i,i<=l.length->oT (λi=>f (l.getD i [])) (l.take i)=(l.take i).filter λa=>!f a:=by
  intro i
  induction i with
  |zero=>exact λ_=>rfl
  |succ i ih=>
   intro hi;rw[qS om,ih om,List.take_succ_eq_append_getElem om,List.filter_append,List.getD,dD om,Option.getD_some];cases h:f l[i]<;>simp [h]
 have:=b l.length (dT _);rwa [List.take_length] at this
def Xk (h:H):V->Option (V×H)
 | .nilm=>some (aC 0,h)
 | .mp id=>match h.get id with|some (.wmap _ es)=>some (aC es.length,h)|_=>none
 |_=>none
theorem AL (ρ:X->V)(h:H)(x:X):fC ρ h (.lenm x)=Xk h (ρ x):=by
 simp only[fC,Xk]
 rfl
theorem TE {h:H}{M:Nat}{L:LN}(g:h.get M=some (.wmap .str (Jl L L.length))):Xk h (.mp M)=some (aC (L.length:Int),h):=by
 show (match h.get M with|some (.wmap _ es)=>some (aC es.length,h)|_=>none)=_;rw[g];simp [Jl]
theorem Po {W0:Nat->Prop}(vc:V)(n:Nat)(O:LN)(R:jJ)(G:List Nat->Prop)(h:H)(gc:GC W0 h vc n O R G):
  Ev T 12 [vc] h (λv h'=> ∃vl ls L K rs,v= .tup [vl,aC 0]/\dM O R n 0 (aX n)=L/\Ab n G L K/\zC n G L K rs/\SV h' vl 3 (Mj n ls)/\aN (BM (λ_=>False) n L h') ls rs/\Fr h h'):=by
 obtain⟨vO,vR,rfl,d8,d9⟩:=gc.shape
 refine dW Co rfl ?_
 obtain⟨A,hA⟩:=exI h.next
 obtain⟨h1,e1,n1,g1,q1,f1⟩:=dK hA [aC n,vO,vR]
 simp(disch:=omega)only[go_sem,Co,aE,bV h (v:= aC n) (u:=vO) (w:=vR) rfl d8 d9,hA,e1,aJ g1]
 refine (IX _ n O R G h1 (gc.mono f1)).mono ?_
 rintro _ J ⟨T0,L,K,rfl,Ag,f2⟩
 obtain⟨ll,E,hG,l9,n0,n7⟩:=Ag.few
 have ik:=Ag.isK
 have eL:=Ag.hL
 have F2:=f1.trans f2
 simp(disch:=omega)only[go_sem]
 refine bA (λhc=>(hc rfl).elim) (λ_=>?_)
 simp(disch:=omega)only[go_sem]
 refine (HU T0 n O R G L K J Ag).mono ?_
 rintro _ h3 ⟨p0,rfl,c8,f3⟩
 obtain⟨o1,o2,o3⟩:=c8.one
 obtain⟨y,d7⟩:=exI h3.next
 obtain⟨h4,e4,n4,g4,q4,f4⟩:=dK d7 [aC 0,.aD,.aD,.aD]
 obtain⟨h5,e5,n5,g5,q5⟩:=mV h4 y (Bz n p0)
 obtain⟨h6,e6,n6,g6,q6,f6⟩:=dK (h:=h5) (n5.trans n4) [aC n,p0.1,p0.2.1]
 have d6: ∀{t:H} {id:Nat} {a b c d:V},t.get id=aF [a,b,c,d]->t.row id 0 3=some [a,b,c]:=λhg=>by simp [H.row,hg,sub]
 simp(disch:=omega)only[go_sem,d7,e4,kV h4 y 0 (a:= aC n) (b:=p0.1) (c:=p0.2.1) (d:=p0.2.2) rfl o1 o2 o3,g4,jS,e5,d6 g5,Va h5 (d:=(n:Int)) o1 o2,n5,n4,e6]
 have m1:=f3.next
 have k6:Fr J h6:=⟨om,λq hq=>by rw[q6 q om,q5 q om,q4 q om,f3.get q hq]⟩
 have i2:h6.get y=aF (Bz n p0):=by rw[q6 _ om];exact g5
 have l3:Fr h3 h6:=⟨om,λq hq=>by rw[q6 q om,q5 q om,q4 q om]⟩
 have w0: ∀q,q<h3.next->(q=y∨bY (.sl (y+1) 0 1 (.kn 1)) q)->q<J.next:=λq h1 J=>by
  rcases J with e|⟨_,_,_,e⟩
  ·omega
  ·cases e;omega
 have d0:Nm (λq=>q=y∨bY (.sl (y+1) 0 1 (.kn 1)) q) n L h6 p0 (Lf L λx=>x=aX n):=(c8.go (Fx.refl _ _) w0).mono l3
 obtain⟨K',o4⟩: ∃x,K=x:=⟨_,rfl⟩
 refine aI (λk' N t=> ∃(r:List Nat) (p:V×V×V) (vl:V) (ls:List (V×V)) (rs:LN),(∃g:Nat->V,N= [g 0,g 1,g 2,g 3,.ptr T0 0,g 5,.ptr y 0,vl,g 8,g 9,g 10,g 11,g 12,g 13,g 14,g 15,g 16,g 17])/\t.get y=aF (Bz n p)/\Nm (λq=>q=y∨bY vl q) n L t p r/\dH t vl 3 (Mj n ls) (y+1)/\aN (BM (λq=>q=y∨bY vl q) n L t) ls rs/\Ec n G L K rs r/\Fr J t/\y<t.next/\k'=L.length-r.length) (L.length-(Lf L λx=>x=aX n).length)
  ⟨_,p0,_, [(p0.1,p0.2.1)], [Lf L λx=>x=aX n],aB rfl,i2,d0,.inr ⟨y+1,1,_, [],rfl,rfl,.inr ⟨rfl,rfl⟩,om,om,g6⟩,⟨d0.ch,trivial⟩,Ec.start hG E,k6,om,rfl⟩ ?_
 clear d0 w0 i2 g6 q6 q5 g5 g4 q4 c8
 rintro k' N t ⟨r,p,vl,ls,rs,⟨g,rfl⟩,g6,nm,ow,al,cb,F,j1,rfl⟩
 have kr:yW n G L r:=cb.all r (Xu cb.la)
 obtain⟨lO,lR,M,lr,gT,gM,_,i1,nM⟩:=(Ag.mono F).ex
 have lv:=nm.si.lens
 rw[aS] at lv
 have lm: ∀k,Xk (H.mk t.tr k) (.mp M)=some (aC (L.length:Int),H.mk t.tr k):=λk=>TE gM
 by_cases f7:(r.length:Int)<(L.length:Int)
 case neg=>
  have d1:=bI f7;simp(disch:=omega)only[go_sem,H.cell_of g6,H.cell_of gT,lv,AL,lm,d1];have fb:Fr t (H.mk t.tr (t.next+9)):=(Fr.refl t).bH om;exact⟨vl,ls,L,K,rs,rfl,eL,ik,⟨r,cb,by have:=kr.rk.short;omega⟩,ow.sv.mono fb,aN.mono (λ_ _ x=>BM.go x (Fx.of fb) λ_ _ h=>h.elim) al,F2.trans (F.trans fb)⟩
 have d1:=cI f7
 have hr:r.length<L.length:=om
 obtain⟨hx,a2⟩: ∃x,H.mk t.tr (t.next+9)=x:=⟨_,rfl⟩
 have fx:Fr t hx:=by rw[←a2];exact (Fr.refl t).bH om
 have nx:hx.next=t.next+9:=by rw[←a2]
 obtain⟨Q,hQ⟩:=exI hx.next
 obtain⟨ha,ea,na,ga,qa,fa⟩:=dK hQ [.aD]
 obtain⟨hb,eb,nb,gb,qb,fb⟩:=dK na [.nilp]
 obtain⟨hI,eI,nI,gI,qI⟩:=mV hb (Q+1) [.ptr Q 0]
 have bx:Ce hx (.agg [.aD])=some (.ptr Q 0,ha):=by rw[←ea,←hQ];rfl
 have pt: ∀(t:H) (id:Nat) (u w:V),eU (aF [u]) t id 0 [w]=some (t.set id (aF [w])):=λt id u w=>bT (by simp) t _ _
 have fI:Fr t hI:=⟨om,λq hq=>by rw[qI q om,qb q om,qa q om,fx.get q hq]⟩
 have FI:=F.trans fI
 have j8:=(Ag.mono F).nx
 have d5: ∀h',Fr t h'->h'.get T0=aF [aC n,lO,lR,.mp M,lr]:=λh' f=>by rw[f.get T0 j8];exact gT
 have b1: ∀h',Fr t h'->h'.get y=aF (Bz n p):=λh' f=>by rw[f.get y j1];exact g6
 have kl:K.length<=L.length:=by
  have:=List.Nodup.length_le_of_subset (l₂:=List.range L.length) ik.nd λx hx=>Dj.2 (ik.lt hx)
  rwa [Xf] at this
 have i0:=i1.lens
 simp only[iA] at i0
 have k0:Xk hx (.mp M)=some (aC (L.length:Int),hx):=by rw[←a2];exact lm _
 simp(disch:=omega)only[go_sem,a2,H.cell_of (b1 hx fx),H.cell_of (d5 hx fx),lv,AL,k0,d1,show qU [.aD] []=some (.agg [.aD]) from rfl,a2,bx,na,eb,kP (show (V.ptr Q 0).cells= [V.ptr Q 0] from rfl) rfl,gb,pt,eI,H.cell_of (d5 hI fI),i0]
 obtain⟨fs,a0⟩: ∃f:LN->Nat->LN,(λl i=>if i∈r then l else uD l (Ai n G L r i))=f:=⟨_,rfl⟩
 have k8: ∀i,i<=K.length->((K.take i).foldl fs []).length<=i:=λi hi=>by
  have:=TS (n:=n) (G:=G) (L:=L) (r:=r) (K.take i) [];rw[a0,zO,Nat.min_eq_left hi] at this;simpa using this
 refine bQ (λvs h'=>(∃g:Nat->V,vs= [g 0,g 1,g 2,g 3,.ptr T0 0,g 5,.ptr y 0,vl,.ptr (Q+1) 0,g 9,g 10,g 11,g 12,g 13,g 14,g 15,g 16,g 17])/\WkJ n L Q t h' (GZ n G L r K)) ?_ ?_
 ·refine aI (λk' N h'=> ∃(i:Nat),(∃g:Nat->V,N= [g 0,g 1,g 2,g 3,.ptr T0 0,g 5,.ptr y 0,vl,.ptr (Q+1) 0,g 9,g 10,g 11,g 12,lr,aC (K.length:Int),aC i,g 16,g 17])/\i<=K.length/\WkJ n L Q t h' ((K.take i).foldl fs [])/\k'=K.length-i) K.length
   ⟨0,aB rfl,iB _,⟨gI,⟨.aD,by rw[qI _ om,qb _ om];exact ga, [],dH.aD _ _ _,trivial,λ_ _ _ _ e=>by cases e⟩,fI,om,by show 0<=6000;omega⟩,rfl⟩ ?_
  rintro k' N h7 ⟨i,⟨g,rfl⟩,hi,W,rfl⟩
  by_cases g2:(i:Int)<(K.length:Int)
  case neg=>
   have d2:=bI g2;obtain rfl:i=K.length:=om
   rw[List.take_length,←a0] at W;simp(disch:=omega)only[go_sem,d2];exact⟨aB rfl,W⟩
  have d2:=cI g2
  have a1:i<K.length:=om
  have F7:=W.fr
  obtain⟨id,z,ws,sh,f5,l2,hc,e8⟩:=i1.open
  simp only[iA] at sh f5 l2 hc
  have ci:h7.cell id (z+i)=some (ws.getD i .undef):=by rw[F7.cell (f5 om),hc i a1]
  have s0:=(xJ e8 (i:=i) (by rw[iA];exact a1)).mono F7
  have eK:(K.map λr=>L.getD r []).getD i []=L.getD K[i] []:=by rw[List.getD,Qy,dD a1];rfl
  rw[eK] at s0
  have c3:=ik.lt (xG a1)
  generalize ws.getD i .undef=vx at ci s0
  have step:(K.take (i+1)).foldl fs []=fs ((K.take i).foldl fs []) K[i]:=by rw[List.take_succ_eq_append_getElem a1,List.foldl_append,List.foldl_cons,List.foldl_nil]
  have a6:=k8 (i+1) om
  rw[step] at a6
  obtain⟨B,b0⟩:=exI ((K.take i).foldl fs [])
  rw[b0] at W step a6
  obtain⟨k,hk⟩:=exI (K[i])
  rw[hk] at s0 c3 step a6
  simp(disch:=omega)only[go_sem,d2,sh.ixa,ci,iD (b1 h7 F7)]
  refine (IE T0 p vx n O R G L K r k h7 (Ag.mono (F.trans F7)) (nm.mono F7) c3 s0).mono ?_
  rintro _ h8 ⟨rfl,Z⟩
  have W8:WkJ n L Q t h8 B:=by
   obtain⟨vf,gQ,ml⟩:=W.ex;have:=W.nx;have:=Z.next;exact⟨by rw[Z.get _ om];exact W.g8,⟨vf,by rw[Z.get _ om];exact gQ,ml.mono Z⟩,F7.trans Z,om,W.len⟩
  by_cases a7:k∈r
  ·have d3:=cI a7
   rw[←a0] at step
   simp only[bJ a7] at step
   simp(disch:=omega)only[go_sem,d3,Bool.not_true]
   rw[fJ i]
   exact⟨K.length-(i+1),om,i+1,aB rfl,om,by rw[←a0,step];exact W8,rfl⟩
  ·have d3:=bI a7
   rw[←a0] at step a6
   simp only[bU a7] at step a6
   have F8:=W8.fr
   have b2: ∀m,h8.next<=m->Fr h8 (H.mk h8.tr m):=λm hm=>(Fr.refl h8).bH hm
   simp(disch:=omega)only[go_sem,d3,Bool.not_false,H.cell_of W8.g8,iD (b1 h8 F8)]
   refine (Zs T0 p vx n O R G L K r k _ (Ag.mono (F.trans (F8.trans (b2 _ om)))) (nm.mono (F8.trans (b2 _ om))) c3 (s0.mono (Z.trans (b2 _ om)))).mono ?_
   rintro _ h9 ⟨q,rfl,nq,f9⟩
   have a5:=(b2 _ om).trans f9
   have F9:=F8.trans a5
   obtain⟨vf,i9,ml⟩:=W8.ex
   have n8:=W8.nx
   have n9:=a5.next
   have g9:h9.get (Q+1)=aF [.ptr Q 0]:=by rw[a5.get _ om];exact W8.g8
   have k9:h9.get Q=aF [vf]:=by rw[a5.get _ om];exact i9
   have c4: ∀s,bY vf s->s<h8.next:=λs ⟨z,m,c,e⟩=>by
    obtain⟨ps,o,_⟩:=ml.ex;exact (o.in _ _ _ _ e).1
   have k4:Nm (λq=>q<Q+2∨bY vf q) n L h9 q (Ai n G L r k):=nq.go (Fx.refl _ _) λs _ h=>by
    rcases h with h|h
    ·show s<h8.next+6
     omega
    ·have:=c4 s h
     show s<h8.next+6;omega
   have eQ:dI (.ptr Q 0) (.ptr Q 0)=true:=by simp [dI]
   have e7: ∀s,bY vf s->Q+2<=s:=λs ⟨z,m,c,e⟩=>by
    obtain⟨ps,o,_⟩:=ml.ex;exact (o.in _ _ _ _ e).2.1
   simp(disch:=omega)only[go_sem,H.cell_of g9,eQ]
   refine (HZ n L (Q+2) Q vf B q _ h9 (ml.mono a5) om k4 k9 om (λh=>by have:=e7 Q h;omega) (by show Q<Q+2;omega) ll (by have:=W8.len;omega)).mono ?_
   rintro _ U ⟨rfl,j4,k7,k2,b8,_⟩
   have j9:=b8.next
   have nh:=F9.next
   simp(disch:=omega)only[go_sem]
   rw[fJ i]
   have f0: ∀s,s≠Q->s<Q+2->U.get s=h9.get s:=λs h1 J=>b8.get s om λh=>h.elim (λh=>h1 h) λh=>by have:=e7 _ h;omega
   have i6:WkJ n L Q t U (uD B (Ai n G L r k)):=⟨by rw[f0 _ om om];exact g9,⟨j4,k7,k2⟩,⟨om,λs hq=>by rw[f0 s om om];exact F9.get s hq⟩,om,om⟩
   exact⟨K.length-(i+1),om,i+1,aB rfl,om,by rw[←a0,step];exact i6,rfl⟩
 rintro N h7 ⟨⟨g,rfl⟩,W⟩
 obtain⟨vf,i5,ml⟩:=W.ex
 obtain⟨ps,c2,c1,_⟩:=ml.ex
 have F7:=W.fr
 have m4:=W.nx
 have d4:=aeR hG E kr ik hr
 obtain⟨B,b0⟩:=exI (GZ n G L r K)
 rw[b0] at W ml c1 d4
 have m5:=aN.length c1
 have l7:0<B.length:=List.length_pos_iff.2 d4
 have fl:=W.len
 simp(disch:=omega)only[go_sem,H.cell_of W.g8,H.cell_of i5]
 refine (IJ vf (Ae n ps) ps.length h7 (mS n ps) om om c2.sv).mono ?_
 rintro _ h8 ⟨a8,l0,g7,rfl,g0,l6,i4,k5,Z⟩
 simp(disch:=omega)only[go_sem]
 have c4: ∀s,bY vf s->s<h7.next:=λs ⟨z,m,c,e⟩=>(c2.in _ _ _ _ e).1
 have c6:aN (Nm (λq=>q<Q+2∨q=a8) n L h8) ps B:=aN.mono (λ_ _ x=>Nm.go x (Fx.of Z) λs h1 J=>J.imp id λe=>om) c1
 refine (YI a8 ps.length l0 g7 53 [.ptr (Q+1) 0] n ps (λi=>Xp B (B.getD i [])) h8 i4 k5 g0 rfl om om (λs hq=>?_) λi hi h' a3=>?_).mono ?_
 ·obtain⟨i,hi,rfl⟩:=Ad.1 hq
  exact (aN.get c6 i hi om).one
 ·have n8:=Z.next
  have n':=a3.next
  have e9:aN (Nm (λq=>q<Q+2) n L h') ps B:=aN.mono (λ_ _ x=>Nm.go x (Fx.wide a3 λs h=> .inr h) λs _ h=> .inl h) c6
  have mi:=aN.get e9 i hi om
  rw[List.getD,dD om,Option.getD_some]
  refine agK n (Q+1) Q vf ps B ll om ?_ om ?_ om (SV.fx (c2.sv.mono Z) (W:=λq=>q=a8) ?_ a3) e9 mi
  ·rw[a3.get _ om om,Z.get _ om];exact W.g8
  ·rw[a3.get _ om om,Z.get _ om];exact i5
  ·cases vf with
   |sl q z m c=>exact λ(e:q=a8)=>by have:=c4 q ⟨z,m,c,rfl⟩;omega
   |_=>trivial
 rintro vk h9 ⟨i3,c7⟩
 have n8:=Z.next
 have n9:=c7.next
 have Y:=CA (P:=λi=>Xp B (B.getD i [])) (aN.mono (λ_ _ x=>Nm.go (W':=λq=>q<Q+2) x (Fx.wide c7 λs h=> .inr h) λs _ h=> .inl h) c6)
 have ek:oT (λi=>Xp B (B.getD i [])) B=KL B:=Vh B _
 rw[ek] at Y
 have k3:=List.length_pos_iff.2 (RV d4)
 have m7:(KL B).length<=B.length:=List.length_filter_le _ _
 obtain⟨pk,j3⟩:=exI (oT (λi=>Xp B (B.getD i [])) ps)
 rw[j3] at i3 Y
 simp(disch:=omega)only[go_sem]
 refine (aaQ n vk pk (KL B) ll om k3 i3 Y).mono ?_
 rintro _ U ⟨⟨j,hj,rfl,l4⟩,c5⟩
 have j9:=c5.next
 have Fm:Fr t U:=⟨by have:=F7.next;omega,λs hq=>by
  have:=F7.next;rw[c5.get s om,c7.get s om om,Z.get s om]
  exact F7.get s hq⟩
 have j2:JE (KL B)=Qx n G L K r:=by rw[←b0];rfl
 have mj:=(aN.get Y j hj (by have:=aN.length Y;omega)).mono c5
 have ej:(KL B)[j]'(by have:=aN.length Y;omega)=Qx n G L K r:=by rw[←j2,←l4,List.getD,dD (by have:=aN.length Y;omega)];rfl
 rw[ej] at mj
 generalize pk[j]=pn at mj
 obtain⟨o1,o2,o3⟩:=mj.one
 have h0:=b1 U Fm
 obtain⟨b4,l1,m2,e3,c9⟩:=mV U y (Bz n pn)
 obtain⟨C,hC⟩:=exI b4.next
 obtain⟨b3,j7,m3,k1,a4,m0⟩:=dK hC [aC n,pn.1,pn.2.1]
 have m9:=Fm.next
 have b6: ∀s,bY vl s->y+1<=s/\s<t.next:=λs ⟨z,m,c,e⟩=>by
  have:=ow.in _ _ _ _ e;omega
 have j6: ∀s,bY vl s->s≠y:=λs hb=>by have:=b6 s hb;omega
 have n2:=aN.length al
 have m8:=cb.len
 have l8:=kr.rk.short
 have j0: ∀s,s<b4.next->b3.get s=b4.get s:=λs h=>a4 s om
 have l5:Fx (· =y) U b3:=⟨om,λs h1 J=>by rw[a4 s om,c9 s J]⟩
 have g3:dH b3 vl 3 (Mj n ls) (y+1):=ow.tU om λid z m c e h=>by
  have:=b6 id ⟨z,m,c,e⟩;rw[a4 _ om,c9 _ om];exact Fm.get id h
 obtain⟨b5,j5,a9⟩:=(g3.le (iB _)).push (bytes:=56) (SV.all (sz:=3) (len:=1) (vs:= [aC n,pn.1,pn.2.1]) rfl om k1 (.kn 1)) (n:=ls.length) (m:=1) (jP n ls) rfl om om om
 have m6:=a9.next
 simp(disch:=omega)only[go_sem,kV U y 0 (a:= aC n) (b:=pn.1) (c:=pn.2.1) (d:=pn.2.2) rfl o1 o2 o3,h0,jS,l1,d6 e3,Va b4 (d:=(n:Int)) o1 o2,hC,j7,j5]
 have nF:=F.next
 have ap: ∀s,¬bY vl s->dR vl s:=λs h id z m c e e2=>h (by rw[e,e2];exact⟨_,_,_,rfl⟩)
 have b7:Fx (λq=>q=y∨bY vl q) U b5:=⟨om,λs h1 J=>by rw[a9.old s om (ap s λh=>J (.inr h)),a4 s om,c9 s λh=>J (.inl h)]⟩
 have b9:Fx (λq=>q=y∨bY vl q) t b5:=⟨om,λs h1 J=>by rw[b7.get s om J];exact Fm.get s h1⟩
 have i8:Fr J b5:=⟨om,λs hq=>by rw[b9.get s om λh=>h.elim (λh=>om) λh=>by have:=b6 s h;omega];exact F.get s hq⟩
 have c0:Nm (λq=>q=y∨bY (.sl b3.next 0 (ls.length+1) (.un 3)) q) n L b5 pn (Qx n G L K r):=mj.go (Fx.wide b7 λs h=>h.elim (λh=>(by omega:s<Q+2)) λh=>(by have:=b6 s h;omega:s<Q+2)) λs h1 J=>J.elim (λh=>(by omega:s<Q+2)) λ⟨z,m,c,e⟩=>by cases e;omega
 obtain⟨XY,i7,o0,_⟩:=Cz hG E kr ik hr
 have n3:=i7.rk.short
 have e0:=a9.own (b:=y+1) (jP n ls) rfl om
 refine⟨L.length-(Qx n G L K r).length,om,Qx n G L K r,pn,_,ls++ [(pn.1,pn.2.1)],rs++ [Qx n G L K r],aB rfl,?_,c0,by rw[Wd];exact e0,aN.append (aN.mono (λ_ _ x=>BM.go x b9 λs h1 J=>J.imp id λ⟨z,m,c,e⟩=>by cases e;omega) al) ⟨c0.ch,trivial⟩,cb.push hG E ik hr,i8,om,rfl⟩
 rw[a9.old y om (ap y λh=>j6 y h rfl),a4 y om]
 exact e3
section
variable {n:Nat} {G K:List Nat->Prop} {O O':List (List Nat)} {R R':List (List (List Nat))} {x:List Nat} {L:List (List Nat)} {r s:List Nat}
theorem QT (i:dO n G)(c:aV n G O R)(l:dO n K)(d:aV n K O' R')(le: ∀x,K x->G x)(o:G x)(y:List Nat):NC n (· ∈R'.flatten++ [x]) (· ∈R.flatten) y↔Mk n G K x y:=by
 have q: ∀a,a∈R'.flatten++ [x]->aY n a:=λa j=>(oD.1 j).elim (λh=>l.bF (Jt d a h)) λh=>by rw[List.mem_singleton.1 h];exact i.bF o
 have m: ∀b,b∈R.flatten->aY n b:=λb h=>i.bF (Jt c b h)
 constructor
 ·intro h
  exact NC.le h (Mk.cY i le o) (λa j=>(oD.1 j).elim (λh=>NC.of (.inl (Jt d a h))) λh=>NC.of (.inr (List.mem_singleton.1 h))) λy b f e=>NC.cj f (Jt c b e)
 ·intro h
  have k:=NC.cY q m;refine NC.le h k ?_ λy b f e=>Nu k m (λy b f e=>NC.cj f e) ((Jb i c b).2 e) y f
  rintro a (h|rfl)
  ·exact bM.le k (λg p=>NC.of (oD.2 (.inl p))) ((Jb l d a).2 h)
  ·exact NC.of (oD.2 (.inr (List.mem_singleton.2 rfl)))
theorem QS (h:dO n (RG L r))(i:dO n (RG L s))(c:aV n (RG L r) O R)(d:aV n (RG L s) O' R')(a:Rk L (RG L r) r)(b:Rk L (RG L s) s):decide ((O,R)=(O',R'))=decide (r=s):=by
 refine decide_eq_decide.2 ⟨λe=>?_,λe=>?_⟩
 ·simp only[Prod.mk.injEq] at e
  obtain⟨rfl,rfl⟩:=e;have e:RG L r=RG L s:=funext λx=>propext ((De h c x).symm.trans (De i d x))
  rw[←e] at b;exact a.uniq b
 ·subst e
  obtain⟨f,g⟩:=c.uniq d;rw[f,g]
end
theorem NS {W W':Nat->Prop}(vc vn:V)(n:Nat)(O O':List (List Nat))(R R':List (List (List Nat)))(G:List Nat->Prop)(L:List (List Nat))(K r:List Nat)(h:H)(gc:GC W h vc n O R G)(gn:GC W' h vn n O' R' (RG L r))(hL:dM O R n 0 (aX n)=L)(ik:Ab n G L K)(kr:yW n G L r):
  Ev T 61 [vc,vn] h (λv h'=> ∃ls,dH h' v 3 (Mj n ls) h.next/\aN (BM (λq=>q<h.next∨bY v q) n L h') ls (GZ n G L r K)/\Fr h h'):=by
 obtain⟨vO,vR,rfl,f8,g0⟩:=gc.shape
 obtain⟨P,J,rfl,c7,d4⟩:=gn.shape
 have n0:=gc.n0
 have n7:=gc.n7
 have hG:=gc.cY
 obtain⟨E,ll⟩:=dB gc.cY gc.isc
 have o9:=jE gc
 rw[hL] at E ll
 refine dW vU rfl ?_
 obtain⟨B,hB⟩: ∃B,h.next=B:=⟨_,rfl⟩
 obtain⟨h1,e1,n1,g1,o1,f1⟩:=dK hB [.int .i64 (n:Int),vO,vR]
 obtain⟨h2,e2,n2,g2,o2,f2⟩:=dK n1 [.int .i64 (n:Int),P,J]
 have bx:=bV h (v:= .int .i64 (n:Int)) (u:=vO) (w:=vR) rfl f8 g0
 have l0:=bV h1 (v:= .int .i64 (n:Int)) (u:=P) (w:=J) rfl c7 d4
 have F2:=f1.trans f2
 have a7:h2.get B=some (.cells false [.int .i64 (n:Int),vO,vR]):=by rw[f2.get _ om];exact g1
 simp(disch:=omega)only[go_sem,vU,aE,bx,hB,e1,l0,n1,e2,aJ a7]
 refine (FZ _ n O R G h2 (gc.mono F2) L hL).mono ?_
 rintro _ h3 ⟨vl,A,ks,rfl,m2,i2,al,f3⟩
 obtain rfl:=m2.uniq ik
 have lk:=aN.length al
 have kl:A.length<=L.length:=by
  have:=List.Nodup.length_le_of_subset (l₂:=List.range L.length) ik.nd λx hx=>Dj.2 (ik.lt hx)
  rwa [Xf] at this
 have f0:bL vl=some (.int .i64 (A.length:Int)):=by unfold bL;rw[SV.len i2 (n:=A.length) (by rw[tX,lk]) om];rfl
 obtain⟨b8,RP,c1,a1,b5⟩:=SV.shape i2 A.length (by rw[tX,lk]) om
 obtain⟨fs,c5⟩: ∃f:List (List Nat)->Nat->List (List Nat),(λl i=>if i∈r then l else uD l (Ai n G L r i))=f:=⟨_,rfl⟩
 have i7: ∀i,i<=A.length->((A.take i).foldl fs []).length<=i:=λi hi=>by
  have:=TS (n:=n) (G:=G) (L:=L) (r:=r) (A.take i) [];rw[c5,zO,Nat.min_eq_left hi] at this;simpa using this
 have F3:=F2.trans f3
 have l3:=f3.next
 simp(disch:=omega)only[go_sem]
 refine aI (λk' Z hh=> ∃(i:Nat) (Q:V) (ls:List (V×V)) (d:List (List Nat)),(∃g:Nat->V,Z= [g 0,g 1,.ptr B 0,.ptr (B+1) 0,g 4,vl,Q,.int .i64 (i:Int),g 8,g 9,g 10,g 11,g 12,g 13,g 14,g 15])/\i<=A.length/\dH hh Q 3 (Mj n ls) h3.next/\(A.take i).foldl fs []=d/\aN (BM (λq=>q<B∨bY Q q) n L hh) ls d/\(∀a∈d,yW n G L a)/\Fr h3 hh/\k'=A.length-i) A.length
  ⟨0,.aD, [], [],aB rfl,iB _,dH.aD _ _ _,rfl,trivial,λa ha=>(by cases ha),Fr.refl _,rfl⟩ ?_
 rintro k' Z h4 ⟨i,Q,ls,d,⟨g,rfl⟩,hi,ow,b7,j4,b4,f4,rfl⟩
 have l4:=f4.next
 have F4:=F3.trans f4
 have g5:=f3.trans f4
 by_cases i1:(i:Int)<(A.length:Int)
 case neg=>
  have d1:decide ((i:Int)<(A.length:Int))=false:=decide_eq_false i1;obtain rfl:i=A.length:=om
  rw[List.take_length,←c5] at b7;simp(disch:=omega)only[go_sem,f0,d1];refine⟨ls,ow.le (by have:=F3.next;omega),?_,F4⟩;rw[show GZ n G L r A=d from b7];exact j4
 have d1:decide ((i:Int)<(A.length:Int))=true:=decide_eq_true i1
 have c2:i<A.length:=om
 have step:(A.take (i+1)).foldl fs []=fs d A[i]:=by rw[List.take_succ_eq_append_getElem c2,List.foldl_append,List.foldl_cons,List.foldl_nil,b7]
 have i8:=i7 (i+1) om
 rw[step] at i8
 have fl:=i7 i hi
 rw[b7] at fl
 have n9:h4.get B=some (.cells false [.int .i64 (n:Int),vO,vR]):=by rw[g5.get _ om];exact a7
 have k2:h4.get (B+1)=some (.cells false [.int .i64 (n:Int),P,J]):=by rw[g5.get _ om];exact g2
 obtain⟨p1,_,_⟩:=Yi (ks:=ks) (i:=i) om
 have k1:=aN.get al i om c2
 obtain⟨a,ha⟩: ∃a,ks[i]'(show i<ks.length by omega)=a:=⟨_,rfl⟩
 rw[ha] at p1 k1
 have b6:=ik.lt (xG c2)
 obtain⟨k,hk⟩: ∃k,A[i]=k:=⟨_,rfl⟩
 rw[hk] at k1 b6 step i8
 have o8:=tX ks
 have cS:h4.cell b8 (RP+i*3)=some a.rep:=by
  rw[f4.cell (a1 om),b5 (i*3) om];exact p1
 have b2:G (L.getD k []):=pD E b6
 have X:=hG.bF b2
 have sx:SI h4 a.rep (zi (L.getD k [])):=k1.rep.si.mono f4
 obtain⟨x,hx⟩: ∃x,L.getD k []=x:=⟨_,rfl⟩
 have g6:RG L r x↔k∈r:=by
  rw[←hx];refine⟨λ⟨j,hj,e⟩=>?_,λh=>⟨k,h,rfl⟩⟩;rw[←wU E.nodup ((kr.rk.mem j).1 hj).1 b6 e];exact hj
 rw[hx] at b2 X sx
 have e1:fs d k=if k∈r then d else uD d (Ai n G L r k):=by rw[←c5]
 have fb:=(Fr.refl h4).bH (n:=h4.next+12) om
 simp(disch:=omega)only[go_sem,f0,d1,aJ k2,c1.ixa,cS]
 refine (QO _ a.rep n O' R' (RG L r) x _ (gn.mono (F4.trans fb)) (sx.mono fb) X).mono ?_
 rintro _ o ⟨bb,rfl,i0,f5⟩
 have a9:=fb.trans f5
 have F5:=f4.trans a9
 have a4:=f3.trans F5
 have l5:=a9.next
 have k6:o.get B=some (.cells false [.int .i64 (n:Int),vO,vR]):=by rw[a4.get _ om];exact a7
 have m1:o.get (B+1)=some (.cells false [.int .i64 (n:Int),P,J]):=by rw[a4.get _ om];exact g2
 have m9:o.cell b8 (RP+i*3)=some a.rep:=by
  rw[F5.cell (a1 om),b5 (i*3) om];exact p1
 have e4:=ow.fr a9
 have g9:aN (BM (λq=>q<B∨bY Q q) n L o) ls d:=aN.mono (λ_ _ x=>BM.go x (Fx.of a9) λ_ _ h=>h) j4
 cases bb with
 |true=>
  have c3:k∈r:=g6.1 (i0.1 rfl);rw[bJ c3] at e1;simp(disch:=omega)only[go_sem];rw[show (i:Int)+1=((i+1:Nat):Int) from om];exact⟨A.length-(i+1),om,i+1,Q,ls,d,aB rfl,om,e4,step.trans e1,g9,b4,F5,rfl⟩
 |false=>
 have c3:k∉r:=λh=>by have:=i0.2 (g6.2 h);cases this
 rw[bU c3] at e1
 have j5:=(Fr.refl o).bH (n:=o.next+17) om
 simp(disch:=omega)only[go_sem,aJ k6,aJ m1,c1.ixa,m9]
 refine (Dd _ n O' R' (RG L r) o _ (gn.mono (F2.trans a4)) j5).mono ?_
 rintro k7 h6 ⟨m4,b9,i9,f6⟩
 have e3:=j5.trans f6
 have l6:o.next+17<=h6.next:=f6.next
 have e6:=a4.trans e3
 have j6:=F5.trans e3
 have k4:h6.get B=some (.cells false [.int .i64 (n:Int),vO,vR]):=by rw[e6.get _ om];exact a7
 have m8:h6.get (B+1)=some (.cells false [.int .i64 (n:Int),P,J]):=by rw[e6.get _ om];exact g2
 have m7:h6.cell b8 (RP+i*3)=some a.rep:=by
  rw[j6.cell (a1 om),b5 (i*3) om];exact p1
 have d9:=sx.mono a9
 have wx:=SV.cT d9
 have ex:=SV.dI d9
 have ec:dI vO vO=true/\dI vR vR=true/\dI P P=true/\dI J J=true:=by
  obtain⟨_,_,_,_,e,sO,_,_,sR,_,_⟩:=gc.cw;cases e;obtain⟨_,_,_,_,e,m3,_,_,j8,_,_⟩:=gn.cw;cases e;exact⟨SV.dI sO,SV.dI sR,SV.dI m3,SV.dI j8⟩
 obtain⟨h7,e7,o3,g7,o7⟩:=KW h6 (o.next+8) h6.next [a.rep]
 have l2:Fr o h7:=⟨om,λq hq=>by rw[o7 q om,e3.get q hq]⟩
 have h0:=aN.length i9
 rw[iA] at h0
 have p2:=Xz gn
 have d8:dH h7 k7 1 m4 (o.next+17):=b9.tU om λid b0 m c e _=>o7 id (by have:=(b9.in _ _ _ _ e).2.1;have:o.next+17<=id:=this;omega)
 obtain⟨h8,a8,p8⟩:=d8.push (bytes:=24) (SV.one om g7 (.kn 1)) (n:=R'.flatten.length) (m:=1) om rfl om om om
 have l8:=p8.next
 have a5:Fr o h8:=⟨om,λq hq=>by rw[p8.old q om (λid b0 m c e e2=>by have:=(d8.in _ _ _ _ e).2.1;omega),l2.get q hq]⟩
 have c9:=a4.trans a5
 have j7:h8.get B=some (.cells false [.int .i64 (n:Int),vO,vR]):=by rw[c9.get _ om];exact a7
 have m5:h8.get (B+1)=some (.cells false [.int .i64 (n:Int),P,J]):=by rw[c9.get _ om];exact g2
 have k9:h8.cell b8 (RP+i*3)=some a.rep:=by
  rw[(F5.trans a5).cell (a1 om),b5 (i*3) om];exact p1
 simp(disch:=omega)only[go_sem,aJ k4,aJ m8,c1.ixa,m7,ex,ec.1,ec.2.1,ec.2.2.1,ec.2.2.2,cK (H.mk h6.tr (o.next+8)) (z:= .aD) wx.1 wx.2.1,e7,a8,aJ j7,aJ m5,k9]
 have i3:SP h8 (.sl h7.next 0 (R'.flatten.length+1) (.un 1)) (R'.flatten++ [x]):=dZ.LO (W:=λ_=>False) (p8.own (b:=0) om rfl (iB _)).sv (aN.append (aN.mono (λ_ _ p=>⟨p.mono a5,Ct _⟩) (sC i9)) ⟨⟨d9.mono a5,Ct _⟩,trivial⟩)
 refine (PG _ _ n O R G (R'.flatten++ [x]) h8 (gc.mono (F2.trans c9)) (λg hg=>(oD.1 hg).elim (λh=>gn.cY.bF (Jt gn.isc g h)) λh=>by rw[List.mem_singleton.1 h];exact X) (by rw[iV];show _+1<=4096;omega) i3).mono ?_
 rintro _ h9 ⟨vd,O2,R2,rfl,d5,f9⟩
 obtain⟨xO,xR,rfl,i5,j0⟩:=d5.shape
 have l9:=f9.next
 obtain⟨i4,j1,o6,j3,d6⟩:=KW h9 (o.next+14) h9.next [.int .i64 0,.aD,.aD]
 obtain⟨F,j2,n6,d3,c8⟩:=mV i4 (o.next+14) [.int .i64 (n:Int),xO,xR]
 have m6:=zH L (Mk n G (RG L r) x)
 have k5: ∀y,Mk n G (RG L r) x y->G y:=λy h=>Mk.le hG kr.le b2 h
 have eO:Ai n G L r k=Lf L (Mk n G (RG L r) x):=by unfold Ai;rw[hx]
 have eG: ∀y,NC n (· ∈R'.flatten++ [x]) (· ∈R.flatten) y↔RG L (Ai n G L r k) y:=λy=>by
  rw[eO];exact (QT hG gc.isc gn.cY gn.isc kr.le b2 y).trans (m6.iff E k5 y)
 have a3:Fr o F:=⟨om,λq hq=>by rw[c8 q om,d6 q om,f9.get q om,a5.get q hq]⟩
 have a6:Fx (· =o.next+14) h9 F:=⟨om,λq h1 h2=>by rw[c8 q h2,d6 q h2]⟩
 have kd:=Uc hG E kr b6
 obtain⟨U,k3⟩: ∃U,Ai n G L r k=U:=⟨_,rfl⟩
 rw[k3] at eG kd e1
 have gd:GC (λq=>q<h8.next/\q<o.next) F (.agg [.int .i64 (n:Int),xO,xR]) n O2 R2 (RG L U):=(d5.go (Fx.wide a6 λq (e:q=o.next+14)=>(by omega:q<h8.next)) λq _ h=>h.1).congr eG
 have e0:=F5.trans a3
 have o4:=a3.next
 have N:=e4.fr a3
 have a0:aN (BM (λq=>q<B∨bY Q q) n L F) ls d:=aN.mono (λ_ _ x=>BM.go x (Fx.of a3) λ_ _ h=>h) g9
 have b3:=aN.length a0
 simp(disch:=omega)only[go_sem,j1,cF i4 (o.next+14) 0 (v:= .int .i64 (n:Int)) (u:=xO) (w:=xR) rfl i5 j0,j3,cH,j2]
 have d0:o.next+14<F.next:=om
 obtain⟨D,hD⟩: ∃D,o.next+14=D:=⟨_,rfl⟩
 rw[hD] at d3 d0 ⊢
 clear i3 a8 p8 d8 e7 g7 o7 d5 a6 j1 j2 j3 d6 c8
 have c4:bL Q=some (.int .i64 (d.length:Int)):=by unfold bL;rw[SV.len N.sv (n:=d.length) (by rw[jP,b3]) om];rfl
 refine bQ (λvs hh=>(∃g:Nat->V,vs= [g 0,g 1,.ptr B 0,.ptr (B+1) 0,g 4,vl,Q,.int .i64 (i:Int),g 8,.ptr D 0,.bool (decide (U∈d)),g 11,g 12,g 13,g 14,g 15])/\Fr F hh) ?_ ?_
 ·refine aI (λk' vs hh=> ∃(j:Nat),(∃g:Nat->V,vs= [g 0,g 1,.ptr B 0,.ptr (B+1) 0,g 4,vl,Q,.int .i64 (i:Int),g 8,.ptr D 0,.bool (decide (U∈d.take j)),.int .i64 (j:Int),g 12,g 13,g 14,g 15])/\j<=d.length/\Fr F hh/\k'=d.length-j) d.length
   ⟨0,aB rfl,iB _,Fr.refl _,rfl⟩ ?_
  rintro k' Z hh ⟨j,⟨g,rfl⟩,hj,fh,rfl⟩
  by_cases f7:(j:Int)<(d.length:Int)
  case neg=>
   have d2:decide ((j:Int)<(d.length:Int))=false:=decide_eq_false f7;obtain rfl:j=d.length:=om
   rw[List.take_length];simp(disch:=omega)only[go_sem,c4,d2];exact⟨aB rfl,fh⟩
  have d2:decide ((j:Int)<(d.length:Int))=true:=decide_eq_true f7
  have c0:j<d.length:=om
  have l1:hh.get D=some (.cells false [.int .i64 (n:Int),xO,xR]):=by rw[fh.get _ d0];exact d3
  have em:decide (U∈d.take (j+1))=(decide (U∈d.take j)||decide (d[j]=U)):=by
   rw[List.take_succ_eq_append_getElem c0];simp only[oD,List.mem_singleton,eq_comm (a:=U),Bool.decide_or]
  cases hs:decide (U∈d.take j) with
  |true=>
   rw[hs,Bool.true_or] at em;simp(disch:=omega)only[go_sem,c4,d2];rw[show (j:Int)+1=((j+1:Nat):Int) from om];refine⟨d.length-(j+1),om,j+1,?_,om,fh.bH om,rfl⟩;rw[em];exact aB rfl
  |false=>
   rw[hs,Bool.false_or] at em;obtain⟨ri,ro,g8,rC⟩:=My (N.sv.mono fh) (i:=j) om;obtain⟨Oj,Rj,gj⟩:=aN.get a0 j om c0;have kj:=b4 _ (xG c0);rw[b3] at g8;generalize ls[j]'om=pj at rC gj;generalize d[j]=aj at gj kj em;have e5: ∀m,hh.next<=m->Fr hh (H.mk hh.tr m):=λm hm=>(Fr.refl hh).bH hm
   simp(disch:=omega)only[go_sem,c4,d2,g8.ixa,rC,aJ l1];refine (acO _ _ n (Oj,Rj) (O2,R2) _ _ _ (gj.mono (fh.trans (e5 _ om))) (gd.mono (fh.trans (e5 _ om)))).mono ?_;rintro _ p0 ⟨rfl,l7⟩;rw[QS kj.cY gd.cY gj.isc gd.isc kj.rk kd.rk];simp(disch:=omega)only[go_sem];rw[show (j:Int)+1=((j+1:Nat):Int) from om];refine⟨d.length-(j+1),om,j+1,?_,om,fh.trans ((e5 _ om).trans l7),rfl⟩;rw[em];exact aB rfl
 rintro Z d7 ⟨⟨g,rfl⟩,Y⟩
 have n8:=Y.next
 have e8: ∀b∈uD d U,yW n G L b:=λb hb=>(yI.1 hb).elim (b4 b) λe=>by rw[e];exact kd
 by_cases a2:U∈d
 ·have e2:uD d U=d:=by unfold uD;rw[bJ a2]
  rw[decide_eq_true a2]
  simp(disch:=omega)only[go_sem,Bool.not_true]
  rw[show (i:Int)+1=((i+1:Nat):Int) from om]
  exact⟨A.length-(i+1),om,i+1,Q,ls,d,aB rfl,om,N.fr Y,by rw[step,e1,e2],aN.mono (λ_ _ x=>BM.go x (Fx.of Y) λ_ _ h=>h) a0,b4,e0.trans Y,rfl⟩
 have e2:uD d U=d++ [U]:=by unfold uD;rw[bU a2]
 rw[decide_eq_false a2]
 have g4:d7.get D=some (.cells false [.int .i64 (n:Int),xO,xR]):=by rw[Y.get _ d0];exact d3
 obtain⟨C,hC⟩: ∃C,d7.next=C:=⟨_,rfl⟩
 obtain⟨i6,n4,o5,k8,p3,e9⟩:=dK hC [.int .i64 (n:Int),xO,xR]
 have g3:=N.fr (Y.trans e9)
 have n3: ∀t,bY Q t->h3.next<=t/\t<F.next:=λt ⟨b0,m,c,e⟩=>by
  have:=N.in _ _ _ _ e;omega
 obtain⟨j9,m0,c6⟩:=g3.push (bytes:=56) (SV.all (sz:=3) (len:=1) (vs:= [.int .i64 (n:Int),xO,xR]) rfl om k8 (.kn 1)) (n:=d.length) (m:=1) (by rw[jP,b3]) rfl om om om
 have n5:=c6.next
 have ap: ∀t,¬bY Q t->dR Q t:=λt h id b0 m c e e2=>h (by rw[e,e2];exact⟨_,_,_,rfl⟩)
 simp(disch:=omega)only[go_sem,Bool.not_false,aJ g4,Va d7 i5 j0,hC,n4,m0]
 rw[show (i:Int)+1=((i+1:Nat):Int) from om]
 have b1:Fx (bY Q) F j9:=⟨om,λt h1 h2=>by rw[c6.old t om (ap t h2),e9.get t om,Y.get t h1]⟩
 have hw: ∀t,t<F.next->(t<B∨bY (.sl i6.next 0 (d.length+1) (.un 3)) t)->t<B:=λt h1 h2=>h2.elim id λ⟨b0,m,c,e⟩=>by cases e;omega
 refine⟨A.length-(i+1),om,i+1,_,ls++ [(xO,xR)],d++ [U],aB rfl,om,by rw[Wd];exact c6.own (by rw[jP,b3]) rfl om,by rw[step,e1,e2],aN.append (aN.mono (λ_ _ x=>BM.go x (Fx.wide b1 λq h=> .inr h) λq h1 h2=> .inl (hw q h1 h2)) a0) ⟨⟨O2,R2,?_⟩,trivial⟩,λb hb=>e8 b (by rw[e2];exact hb),⟨om,λq hq=>?_⟩,rfl⟩
 ·have o0:=a4.next
  have k0: ∀t,bY Q t->t<o.next:=λt ⟨b0,m,c,e⟩=>(e4.in _ _ _ _ e).1
  refine gd.go (W':=λq=>q<B∨bY (.sl i6.next 0 (d.length+1) (.un 3)) q) (Fx.wide b1 λq h=>?_) λq h1 h2=>?_
  ·have:=k0 q h
   exact⟨om,this⟩
  ·have:=hw q h1 h2
   exact⟨om,om⟩
 ·rw[b1.get q (by have:=e0.next;omega) λh=>by have:=n3 q h;omega]
  exact e0.get q hq
end Go.Proofs.YtcdbmkidaecdiaaGreat
namespace Go.Proofs.YtcdbmkidaecdiaaGreat
open Go Go.Ay Go.Pm Go.Sort
set_option maxRecDepth 100000
theorem Pc: ∀a:List Nat,lexB a a=false
 | []=>rfl
 |a::l=>by unfold lexB;rw[bJ rfl];exact Pc l
theorem uH: ∀{a b c:List Nat},lexB a b=true->lexB b c=true->lexB a c=true
 | [], [],_,h,_=>by cases h
 | [],_::_, [],_,h=>by cases h
 | [],_::_,_::_,_,_=>rfl
 |_::_, [],_,h,_=>by cases h
 |_::_,_::_, [],_,h=>by cases h
 |x::a,y::b,z::c,h1,h2=>by
  unfold lexB at h1 h2 ⊢;split at h1
  ·rename_i e
   subst e;split at h2
   ·rename_i e;rw[bJ e];exact uH h1 h2
   ·rename_i e;rw[bU e];exact h2
  ·rename_i e
   have:=of_decide_eq_true h1;split at h2
   ·rename_i d
    subst d;rw[bU e];exact h1
   ·have f:=of_decide_eq_true h2
    rw[bU om];exact cI om
theorem Ho: ∀{a b:List Nat},lexB a b=false->lexB b a=false->a=b
 | [], [],_,_=>rfl
 | [],_::_,h,_=>by cases h
 |_::_, [],_,h=>by cases h
 |x::a,y::b,h1,h2=>by
  unfold lexB at h1 h2;split at h1
  ·rename_i e
   subst e;rw[bJ rfl] at h2;rw[Ho h1 h2]
  ·rename_i e
   rw[bU (Ne.symm e)] at h2;have c:=of_decide_eq_false h1;have d:=of_decide_eq_false h2;omega
def aeI (a b:List Nat):Int:=if (a.length:Int)≠b.length then (a.length:Int)-b.length else Ja a b
def OW (a b:List Nat):Bool:=decide (aeI a b<0)
theorem HE (a b:List Nat):OW a b=true↔a.length<b.length∨a.length=b.length/\lexB a b=true:=by
 unfold OW aeI;rw[Ak];split
 ·omega
 ·rw[Uj]
  constructor
  ·exact λh=> .inr ⟨om,h⟩
  ·rintro (h|h)
   ·omega
   ·exact h.2
theorem PT (a b:List Nat):OW a b=false↔ ¬(a.length<b.length∨a.length=b.length/\lexB a b=true):=by
 rw[←HE,Bool.not_eq_true]
theorem Dm:SWO OW where
 irrefl x:=by rw[PT,Pc];simp
 trans x y z b c:=by
  rw[HE] at*;rcases b with b|⟨b,d⟩<;>rcases c with c|⟨c,a⟩
  ·exact .inl om
  ·exact .inl om
  ·exact .inl om
  ·exact .inr ⟨om,uH d a⟩
 ntrans x y z b c:=by
  rw[PT] at*;rintro (h|⟨h,k⟩)
  ·omega
  ·have f:y.length=x.length:=om
   have g:z.length=y.length:=om
   have d:lexB x y=false:=by
    rw[←Bool.not_eq_true];exact λk=>b (.inr ⟨f.symm,k⟩)
   have a:lexB y z=false:=by
    rw[←Bool.not_eq_true];exact λk=>c (.inr ⟨g.symm,k⟩)
   by_cases e:lexB y x=true
   ·have:=uH e k
    rw[this] at a;cases a
   ·have:=Ho d (by simpa using e)
    rw[this] at k;rw[k] at a;cases a
theorem adB {a b:List Nat}(c:OW a b=false)(h2:OW b a=false):a=b:=by
 rw[PT] at c h2;have e:a.length=b.length:=om
 exact Ho (by rw[←Bool.not_eq_true];exact λk=>c (.inr ⟨e,k⟩)) (by rw[←Bool.not_eq_true];exact λk=>h2 (.inr ⟨e.symm,k⟩))
theorem QB {W W':Nat->Prop}{L:LN}{h:H}{p q:V×V×V}{a b:List Nat}(n:Nat)(P:L.length<=5040)(i:Nm W n L h p a)(k:Nm W' n L h q b):
  Ev T 84 [AY n p,AY n q] h (λv h'=>v= aC (aeI a b)/\Fr h h'):=by
 obtain⟨F,z,G⟩:=i.one
 obtain⟨w,J,x⟩:=k.one
 have R:=i.rk.short
 have lb:=k.rk.short
 have t:=i.si.lens
 rw[aS] at t
 have l:=k.si.lens
 rw[aS] at l
 refine dW oW rfl ?_
 obtain⟨B,s⟩:=exI h.next
 obtain⟨u,A,o,K,Z,g⟩:=dK s [aC n,p.1,p.2.1,p.2.2]
 obtain⟨N,y,Y,r,Q,j⟩:=dK o [aC n,q.1,q.2.1,q.2.2]
 have f:N.get B=aF (Bz n p):=by rw[Q B om];exact K
 unfold aeI
 by_cases e:(a.length:Int)≠(b.length:Int)
 ·have m:=cI e
  simp(disch:=omega)only[go_sem,oW,aE,gY h (a:= aC n) (b:=p.1) (c:=p.2.1) (d:=p.2.2) rfl F z G,s,A,gY u (a:= aC n) (b:=q.1) (c:=q.2.1) (d:=q.2.2) rfl w J x,o,y,H.cell_of f,H.cell_of r,t,l,m,bJ e]
  exact g.trans j
 ·have m:=bI e
  simp(disch:=omega)only[go_sem,oW,aE,gY h (a:= aC n) (b:=p.1) (c:=p.2.1) (d:=p.2.2) rfl F z G,s,A,gY u (a:= aC n) (b:=q.1) (c:=q.2.1) (d:=q.2.2) rfl w J x,o,y,H.cell_of f,H.cell_of r,t,l,m,iD f,iD r,bU e]
  refine (JD n P (i.mono (g.trans j)) (k.mono (g.trans j))).mono ?_
  rintro _ U ⟨rfl,O⟩
  simp(disch:=omega)only[go_sem]
  exact g.trans (j.trans O)
structure NE where
 n:Nat
 p:V×V×V
 r:List Nat
 one:p.1.one=true/\p.2.1.one=true/\p.2.2.one=true
 eq:dI p.1 p.1=true/\dI p.2.1 p.2.1=true/\dI p.2.2 p.2.2=true
instance:Inhabited NE:=⟨⟨0,(.aD,.aD,.aD), [],⟨rfl,rfl,rfl⟩,⟨rfl,rfl,rfl⟩⟩⟩
def NE.enc (a:NE):List V:=Bz a.n a.p
def NE.lt (a b:NE):Bool:=OW a.r b.r
def NE.Pp (n:Nat)(L:LN)(hB:H)(b0 S:Nat)(a:NE):Prop:=a.n=n/\Nm (λq=>b0<=q∨q=S) n L hB a.p a.r
theorem aiZ {c h:H}{a S:Nat}(f:c.next=a)(b:Cls.Bb c a S h):Fx (λq=>a<=q∨q=S) c h:=
 ⟨by rw[f];exact b.1,λq g d=>b.2 q om λe=>d (.inr e)⟩
def ahV (k:Nat):Nat:=if k=247 then 168 else if k=260 then 211 else if k=248 then 169 else if k=227 then 127 else if k=254 then 175 else if k=253 then 174 else if k=252 then 173 else if k=249 then 170 else if k=250 then 171 else if k=264 then 245 else if k=262 then 215 else if k=261 then 214 else if k=251 then 172 else if k=186 then 83 else k
theorem Gx {ρ:Nat->Nat}{k m:Nat}{c d:Ay.Fn}(h:T k=some c)(h':T m=some d)(e:d=Cls.Vt ρ c):T m=(T k).map (Cls.Vt ρ):=by
 rw[h,h',e]
 rfl
theorem acW: ∀k,k∈Cls.sK->T (ahV k)=(T k).map (Cls.Vt ahV):=by
 intro k a;simp only[Cls.sK,vI,List.not_mem_nil,or_false] at a;rcases a with rfl|rfl|rfl|rfl|rfl|rfl|rfl|rfl|rfl|rfl|rfl|rfl|rfl|rfl
 ·exact Gx dV.ok kA.ok (by kernel_rfl)
 ·exact Gx eS.ok mG.ok (by kernel_rfl)
 ·exact Gx eV.ok lY.ok (by kernel_rfl)
 ·exact Gx eZ.ok mT.ok (by kernel_rfl)
 ·exact Gx eH.ok lV.ok (by kernel_rfl)
 ·exact Gx dS.ok jV.ok (by kernel_rfl)
 ·exact Gx dF.ok iS.ok (by kernel_rfl)
 ·exact Gx dA.ok kB.ok (by kernel_rfl)
 ·exact Gx cQ.ok kX.ok (by kernel_rfl)
 ·exact Gx fF.ok mZ.ok (by kernel_rfl)
 ·exact Gx fE.ok nE.ok (by kernel_rfl)
 ·exact Gx dQ.ok jX.ok (by kernel_rfl)
 ·exact Gx dX.ok kG.ok (by kernel_rfl)
 ·exact Gx dN.ok jN.ok (by kernel_rfl)
@[reducible] def ajA (n:Nat)(L:LN)(hL:L.length<=5040)(hB:H)(b0 S:Nat)(hb:hB.next=b0):Cls.bN NE where
 lt:=NE.lt
 enc:=NE.enc
 P:=NE.Pp n L hB b0 S
 B:=Cls.Bb hB b0 S
 f:=84
 b0:=b0
 S:=S
 swo:=⟨λx=>Dm.irrefl x.r,λx y z=>Dm.trans x.r y.r z.r,λx y z=>Dm.ntrans x.r y.r z.r⟩
 len _:=rfl
 one a:=by simp [NE.enc,Bz,a.one,show (aC (a.n:Int)).one=true from rfl]
 eqv a:=by simp [NE.enc,Bz,dI,tG,a.eq]
 cmp h a b hb' pa pb:=by
  have fx:=aiZ hb hb';obtain⟨ea,na⟩:=pa;obtain⟨eb,nb⟩:=pb;have:=QB n hL (na.go fx (W':=λ_=>False) λ_ _ h=>h.elim) (nb.go fx (W':=λ_=>False) λ_ _ h=>h.elim);unfold NE.enc;rw[ea,eb]
  exact this.mono λv h' ⟨e,f⟩=>⟨_,e,rfl,f⟩
 bfr h h' b f:=⟨mY b.1 f.next,λq h1 h2=>by rw[f.get q (jM h1 b.1)];exact b.2 q h1 h2⟩
 bS h h' b f:=⟨mY b.1 f.next,λq h1 h2=>by rw[f.get q (jM h1 b.1) h2];exact b.2 q h1 h2⟩
 bR h h' R b hR f:=⟨mY b.1 f.next,λq h1 h2=>by rw[f.get q (jM h1 b.1) (λe=>by have:q=R:=e;omega)];exact b.2 q h1 h2⟩
 bn h b:=b.1
 ρ:=ahV
 hT:=acW
 s1:=rfl
 s2:=rfl
 s3:=rfl
theorem KZ {l:List NE}{N:Nat}(h:l.length=N){e:Array NE}(k:PermIn 0 N l.toArray e)(m:SortedIn NE.lt 0 N e):e.toList.Perm l/\e.toList.Pairwise (λa b=>NE.lt b a=false):=by
 obtain⟨o,t,s⟩:=k;have c:e.size=N:=by rw[o];simpa using h
 refine⟨?_,?_⟩
 ·have r:(e.extract 0 N).toList=e.toList:=by rw[←c];simp
  have p:(l.toArray.extract 0 N).toList=l:=by rw[←h];simp
  rwa [r,p] at s
 ·rw[GP]
  intro i j hi d g;have f:j<N:=by simpa [c] using d
  have:=m i j (iB _) g f;have n:e[i]! =e.toList[i]:=by simp at hi;simp [hi]
  have q:e[j]! =e.toList[j]:=by simp at d;simp [d]
  rw[n,q] at this;exact this
theorem QM (n:Nat)(L:LN)(k:L.length<=5040)(h:H)(S:Nat)(l:List NE)(d:pY)(o:l.length<60000)(g:h.get S=aF (l.flatMap NE.enc))(f:S<h.next)(q: ∀a∈l,a.Pp n L h h.next S):
  Ev T 83 [.sl S 0 l.length d,.fn 84 [] []] h (λ_ h'=> ∃l':List NE,h'.get S=aF (l'.flatMap NE.enc)/\l'.Perm l/\l'.Pairwise (λa b=>NE.lt b a=false)/\Fx (· =S) h h'):=by
 letI:=ajA n L k h h.next S rfl
 have A:Cls.dY h S l.length l.toArray:=⟨g,by simp,f,rfl,⟨dT _,λ_ _ _=>rfl⟩,λi hi=>by
  have c:i<l.length:=by simpa using hi
  have:l.toArray[i]! =l[i]:=by simp [c]
  rw[this]
  exact q _ (xG c)⟩
 refine (Cls.Ly h S l.length l.toArray d o A).mono ?_
 rintro _ h' ⟨e,j,p,s,F⟩
 obtain⟨r,m⟩:=KZ rfl p s
 exact⟨e.toList,j.get,r,m,F⟩
end Go.Proofs.YtcdbmkidaecdiaaGreat
namespace Go.Proofs.YtcdbmkidaecdiaaGreat
open Go Go.Ay Go.Pm
set_option maxRecDepth 100000
structure Aq (n:Nat)(G:List Nat->Prop)(L:LN)(rs:LN):Prop where
 mem: ∀r,r∈rs↔yW n G L r
 srt:rs.Pairwise λa b=>OW a b=true
theorem Aq.uniq {n:Nat}{G:List Nat->Prop}{L:LN}{rs c:LN}(a:Aq n G L rs)(b:Aq n G L c):rs=c:=by
 have nd: ∀{l:LN},(l.Pairwise λa b=>OW a b=true)->l.Nodup:=λh=>h.imp λ{a b} h e=>by
  rw[e,Dm.irrefl] at h;cases h
 have p:rs.Perm c:=(List.perm_ext_iff_of_nodup (nd a.srt) (nd b.srt)).2 λr=>(a.mem r).trans (b.mem r).symm
 exact p.eq_of_pairwise (λx y _ _ d f=>by have:=Dm.trans x y x d f;rw[Dm.irrefl] at this;cases this) a.srt b.srt
section
variable {n:Nat} {G:List Nat->Prop} {L:LN} {K:List Nat} {fs:LN} (hG:dO n G) (E:cZ G L)
include hG E
theorem Sh (F:K.Perm (kC G L L.length))(B:(Lf L λx=>x=aX n)∈fs)(all: ∀r∈fs,yW n G L r)(Y: ∀r∈fs,∀k∈K,k∈r∨Ai n G L r k∈fs)(M:List Nat)(c:yW n G L M):M∈fs:=by
 have w: ∀(d:Nat) (N:List Nat),N∈fs->(∀x∈N,x∈M)->L.length<=N.length+d->M∈fs:=by
  intro d
  induction d with
  |zero=>
   intro N l u R;have f:=all N l
   have:N=M:=pL f.rk.asc c.rk.asc λx=>⟨u x,λi=>Jj λm=>by
    have:=List.Nodup.length_le_of_subset (List.nodup_cons.2 ⟨m,f.rk.asc.imp λh=>Nat.ne_of_lt h⟩) (l₂:=List.range L.length) λy A=>by
     rcases vI.1 A with rfl|A
     ·exact Dj.2 ((c.rk.mem y).1 i).1
     ·exact Dj.2 ((f.rk.mem y).1 A).1
    rw[List.length_cons,Xf] at this
    omega⟩
   rw[←this];exact l
  |succ d ih=>
   intro N l u R;have f:=all N l
   by_cases h: ∃x,x∈M/\x∉N
   ·obtain⟨x,i,m⟩:=h
    have o:=((c.rk.mem x).1 i).1;obtain⟨k,hk,U,g,s,e⟩:=Px hG E o;have q:k∈K:=F.mem_iff.2 (jY.2 ⟨om,U⟩)
    have p:k∉N:=λh=>m (by
     obtain⟨t,v,Z⟩:=f.nm _ _ ⟨k,h,rfl⟩ s;have:t=x:=wU E.nodup ((f.rk.mem t).1 v).1 o (Z.trans e)
     rw[←this];exact v)
    have z:RG L M (L.getD k []):=by
     have P:=lE hG E (show k<L.length by omega);have:=c.nm _ _ ⟨x,i,rfl⟩ (hG.inv s);rwa [←e,←gW P (hG.bF s) (hG.bF s).inv,cG (hG.bF s),iZ P] at this
    rcases Y N l k q with h|h
    ·exact absurd h p
    ·have gr:=Dr f ((jY.1 (F.mem_iff.1 q)).1) p
     refine ih _ h (λt v=>?_) om;obtain⟨O,W⟩:=(xF t).1 v;exact (c.rk.mem t).2 ⟨O,NC.le W c.cY (λa h=>h.elim (λ⟨j,hj,e⟩=>⟨j,u j hj,e⟩) λe=>by rw[e];exact z) λa b ha hb=>c.nm a b ha hb⟩
   ·have:N=M:=pL f.rk.asc c.rk.asc λx=>⟨u x,λi=>Jj λm=>h ⟨x,i,m⟩⟩
    rw[←this];exact l
 refine w L.length _ B (λx i=>?_) om;obtain⟨J,Q⟩:=((zH L _).mem x).1 i;exact (c.rk.mem x).2 ⟨J,by rw[Q];exact c.cY.one⟩
end
theorem aeU {W:Nat->Prop}{n:Nat}{L:LN}{h:H}: ∀{ps:List (V×V×V)} {rs:LN},aN (Nm W n L h) ps rs-> ∃l:List NE,l.flatMap NE.enc=Ae n ps/\l.map NE.r=rs/\ ∀a∈l,a.n=n/\Nm W n L h a.p a.r
 | [], [],_=>⟨[],rfl,rfl,λa b=>by cases b⟩
 |p::ps,r::rs,⟨m,a⟩=>by
  obtain⟨l,d,e,c⟩:=aeU a;refine⟨⟨n,p,r,m.one,m.eq⟩::l,?_,by rw[List.map_cons,e],λa b=>?_⟩
  ·rw[List.flatMap_cons,d];rfl
  ·rcases vI.1 b with rfl|b
   ·exact⟨rfl,m⟩
   ·exact c a b
def aiK (n:Nat)(G:List Nat->Prop)(L:LN)(h:H)(v:V)(h':H):Prop:=
 ((∃vl ls rs,v= .tup [vl,aC 0]/\Aq n G L rs/\rs.length<=200/\SV h' vl 3 (Mj n ls)/\aN (BM (λ_=>False) n L h') ls rs)∨
  (v= .tup [.aD,aC 5]/\ ∃fs:LN,fs.Nodup/\(∀r∈fs,yW n G L r)/\200<fs.length))/\Fr h h'
structure NwJ (n:Nat)(G:List Nat->Prop)(L:LN)(K:List Nat)(b Q:Nat)(h0 hh:H)(fs:LN)(i j:Nat):Prop where
 ex: ∃vf,hh.get Q=aF [vf]/\NmL (λq=>q=Q) n L b hh vf fs/\ ¬bY vf Q
 fr:Fr h0 hh
 nx:Q<hh.next
 bn:b<=hh.next
 nd:fs.Nodup
 all: ∀r∈fs,yW n G L r
 bot:(Lf L λx=>x=aX n)∈fs
 il:i<fs.length∨(i=fs.length/\j=0)
 cl: ∀t k,(t<i∨t=i/\k∈K.take j)->t<fs.length->k∈K->k∈fs.getD t []∨Ai n G L (fs.getD t []) k∈fs
theorem YM {l:LN}{a:List Nat}(h:l.Nodup):(uD l a).Nodup:=by
 unfold uD;split
 ·exact h
 ·rename_i c
  rw[List.nodup_append];exact⟨h,List.pairwise_singleton _ _,λx b y d e=>c (by rw[←List.mem_singleton.1 d,←e];exact b)⟩
theorem KN {l:LN}{a:List Nat}{t:Nat}(h:t<l.length):(uD l a).getD t []=l.getD t []:=by
 unfold uD;split
 ·rfl
 ·rw[OU,OU,Dt h]
theorem VH (l:LN)(a:List Nat):l.length<=(uD l a).length/\(uD l a).length<=l.length+1:=by
 unfold uD;split
 ·omega
 ·rw[iV];exact⟨Nat.le_add_right _ _,dT _⟩
theorem Dp {W0:Nat->Prop}(vc:V)(n:Nat)(O:LN)(R:jJ)(G:List Nat->Prop)(h:H)(gc:GC W0 h vc n O R G):
  Ev T 26 [vc] h (λv h'=> ∃L,dM O R n 0 (aX n)=L/\aiK n G L h v h'):=by
 obtain⟨vO,vR,rfl,c8,c9⟩:=gc.shape
 refine dW zS rfl ?_
 obtain⟨A,hA⟩:=exI h.next
 obtain⟨o,e1,n1,g1,q1,f1⟩:=dK hA [aC n,vO,vR]
 simp(disch:=omega)only[go_sem,zS,aE,bV h (v:= aC n) (u:=vO) (w:=vR) rfl c8 c9,hA,e1,aJ g1]
 refine (IX _ n O R G o (gc.mono f1)).mono ?_
 rintro _ z ⟨T0,L,K,rfl,Ag,f2⟩
 obtain⟨ll,E,hG,k4,n0,n7⟩:=Ag.few
 have ik:=Ag.isK
 have eL:=Ag.hL
 have F2:=f1.trans f2
 simp(disch:=omega)only[go_sem]
 refine bA (λhc=>(hc rfl).elim) (λ_=>?_)
 simp(disch:=omega)only[go_sem]
 refine (HU T0 n O R G L K z Ag).mono ?_
 rintro _ h3 ⟨p0,rfl,c4,f3⟩
 obtain⟨o1,o2,o3⟩:=c4.one
 obtain⟨N,g0⟩:=exI h3.next
 obtain⟨h4,e4,n4,g4,q4,f4⟩:=dK g0 (Bz n p0)
 obtain⟨h5,e5,n5,g5,q5,f5⟩:=dK n4 [.sl N 0 1 (.kn 1)]
 have bx:Ce h4 (.agg [.sl N 0 1 (.kn 1)])=some (.ptr (N+1) 0,h5):=by rw[←e5,←n4];rfl
 simp(disch:=omega)only[go_sem,PW h3 (a:= aC n) (b:=p0.1) (c:=p0.2.1) (d:=p0.2.2) rfl o1 o2 o3,g0,e4,show qU [.aD] [(0,1,.sl N 0 1 (.kn 1))]=some (.agg [.sl N 0 1 (.kn 1)]) from rfl,bx]
 have k9:=f3.next
 have j6:Fr z h5:=⟨om,λq hq=>by rw[q5 q om,q4 q om,f3.get q hq]⟩
 have c2:h5.get N=aF (Bz n p0):=by rw[q5 _ om];exact g4
 have d7:Nm (λq=>q=N+1∨bY (.sl N 0 1 (.kn 1)) q) n L h5 p0 (Lf L λx=>x=aX n):=
  ((c4.go (Fx.refl _ _) (W':=λq=>q=N+1∨bY (.sl N 0 1 (.kn 1)) q) λq o z=>by
   rcases z with e|⟨_,_,_,e⟩
   ·omega
   ·cases e;omega).mono f4).mono f5
 have J0:NwJ n G L K N (N+1) z h5 [Lf L λx=>x=aX n] 0 0:=by
  refine⟨⟨_,g5,⟨[p0],.inr ⟨N,1,_, [],rfl,rfl,.inr ⟨rfl,rfl⟩,dT _,om,c2⟩,⟨d7,trivial⟩,λid b1 m c e=>by cases e;exact c2⟩,λ⟨_,_,_,e⟩=>by cases e⟩,j6,om,om,List.pairwise_singleton _ _,λr hr=>by rw[List.mem_singleton.1 hr];exact EB hG E,List.mem_singleton.2 rfl,.inl (by show 0<1;omega),λt k o=>?_⟩;rcases o with o|⟨_,o⟩
  ·omega
  ·cases o
 obtain⟨Q,hQ⟩:=exI (N+1)
 rw[hQ] at J0 ⊢
 clear d7 c4 c2 bx
 obtain⟨lO,lR,M,lr,gT,gM,_,i1,nM⟩:=Ag.ex
 have j0:=Ag.nx
 have i6: ∀h',Fr z h'->h'.get T0=aF [aC n,lO,lR,.mp M,lr]:=λh' f=>by rw[f.get T0 j0];exact gT
 have h6:=i1.lens
 simp only[iA] at h6
 have kl:K.length<=L.length:=by
  have:=List.Nodup.length_le_of_subset (l₂:=List.range L.length) ik.nd λx hx=>Dj.2 (ik.lt hx)
  rwa [Xf] at this
 refine aI (λU s hh=> ∃(i:Nat) (fs:LN),(∃g:Nat->V,s= [g 0,g 1,g 2,g 3,.ptr T0 0,g 5,.ptr Q 0,aC i,g 8,g 9,g 10,g 11,g 12,g 13,g 14,g 15,g 16,g 17,g 18,g 19,g 20,g 21,g 22])/\NwJ n G L K N Q z hh fs i 0/\fs.length<=200/\i<=fs.length/\U=201-i) 201
  ⟨0,_,aB rfl,J0,by show 1<=200;omega,iB _,rfl⟩ ?_
 clear J0
 rintro U s hh ⟨i,fs,⟨g,rfl⟩,J,l2,hi,rfl⟩
 obtain⟨vf,gQ,ml,nb⟩:=J.ex
 obtain⟨ps,ow,al,_⟩:=ml.ex
 have a6:=aN.length al
 have Y:=Bo ow.sv
 rw[a6] at Y
 have F:=J.fr
 by_cases f0:(i:Int)<(fs.length:Int)
 case neg=>
  have d1:=bI f0;obtain rfl:i=fs.length:=om
  obtain⟨f6,b8,a9,i4⟩:=ml.ex;have b2:=aN.length a9;have k1:=Rl J.bot
  have a2: ∀M,yW n G L M->M∈fs:=Sh hG E ik.perm J.bot J.all λr hr k hk=>by
   obtain⟨t,ht,rfl⟩:=Ad.1 hr;have:=J.cl t k (.inl ht) ht hk;rwa [List.getD,dD ht] at this
  rcases b8 with ⟨_,e⟩|⟨S,m,a4,k2,rfl,e1,_,e3,e4,_⟩
  ·have:=congrArg List.length e
   rw[mS] at this;have:f6.length*4=0:=this;omega
  have gS:=i4 _ _ _ _ rfl;have SQ:S≠Q:=λe=>nb (by rw[e];exact⟨_,_,_,rfl⟩)
  obtain⟨l,l1,l3,l4⟩:=aeU a9;have l8:l.length=fs.length:=by rw[←l3,iA]
  have em:m=l.length:=by rw[mS] at e1;omega
  subst em;simp(disch:=omega)only[go_sem,H.cell_of gQ,Y,d1];refine (QM n L ll hh S l a4 om (by rw[l1];exact gS) e4 λa ha=>⟨(l4 a ha).1,(l4 a ha).2.go (Fx.refl _ _) λq o z=>?_⟩).mono ?_
  ·rcases z with z|z
   ·omega
   ·exact .inr (by rw[z];exact⟨_,_,_,rfl⟩)
  rintro _ P ⟨l',j5,pm,srt,F3⟩;have l9:=F3.next;have jn:=J.nx;have k0:P.get Q=aF [.sl S 0 l.length a4]:=by rw[F3.get Q jn λe=>SQ e.symm];exact gQ
  have a0: ∀a∈l',a.n=n/\Nm (λ_=>False) n L P a.p a.r:=λa ha=>by
   obtain⟨x,y⟩:=l4 a (pm.mem_iff.1 ha);exact⟨x,y.go (Fx.wide F3 λq (e:q=S)=> .inr (by rw[e];exact⟨_,_,_,rfl⟩)) λ_ _ h=>h.elim⟩
  have b5:l'.length=l.length:=pm.length_eq
  have i7:Aq n G L (l'.map NE.r):=by
   have pr:(l'.map NE.r).Perm fs:=by rw[←l3];exact pm.map _
   refine⟨λr=>⟨λhr=>J.all r (pr.mem_iff.1 hr),λhr=>pr.mem_iff.2 (a2 r hr)⟩,?_⟩;have nd:(l'.map NE.r).Nodup:=pr.nodup_iff.2 J.nd;refine List.pairwise_map.2 ((List.pairwise_and_iff.2 ⟨srt,List.pairwise_map.1 nd⟩).imp λ{a b} h=>?_);obtain⟨o,z⟩:=h;have o:OW b.r a.r=false:=o
   cases h3:OW a.r b.r with
   |true=>rfl
   |false=>exact absurd (adB h3 o) z
  have i9:SV P (.sl S 0 l.length a4) 4 (l'.flatMap NE.enc):=SV.all (by rw[tS (k:=4) (f:=NE.enc) (λ_=>rfl),b5]) om j5 _
  have j8:Fr z P:=⟨by have:=F.next;omega,λq hq=>by rw[F3.get q (by have:=F.next;omega) om];exact F.get q hq⟩
  simp(disch:=omega)only[go_sem,H.cell_of k0,show bL (.sl S 0 l.length a4)=some (aC (l.length:Int)) from rfl];refine aI (λU s h'=> ∃(j:Nat) (w:V) (ls:List (V×V)),(∃g:Nat->V,s= [g 0,g 1,g 2,g 3,g 4,g 5,g 6,g 7,g 8,w,g 10,g 11,g 12,g 13,g 14,g 15,g 16,g 17,g 18,.sl S 0 l.length a4,aC (l.length:Int),aC j,g 22])/\j<=l.length/\dH h' w 3 (Mj n ls) P.next/\aN (BM (λ_=>False) n L P) ls ((l'.map NE.r).take j)/\Fr P h'/\U=l.length-j) l.length
   ⟨0,.aD, [],aB rfl,iB _,dH.aD _ _ _,trivial,Fr.refl _,rfl⟩ ?_
  rintro U s c1 ⟨j,w,ls,⟨g,rfl⟩,hj,c0,all,F4,rfl⟩;have j7:=aN.length all;rw[zO,iA,Nat.min_eq_left om] at j7
  by_cases e8:(j:Int)<(l.length:Int)
  case neg=>
   have d2:=bI e8;obtain rfl:j=l.length:=om
   rw[Ro (by rw[iA];omega)] at all;simp(disch:=omega)only[go_sem,d2];exact⟨L,eL,.inl ⟨w,ls,_,rfl,i7,by rw[iA];omega,c0.sv,aN.mono (λ_ _ x=>BM.go x (Fx.of F4) λ_ _ h=>h) all⟩,F2.trans (j8.trans F4)⟩
  have d2:=cI e8;have b7:j<l'.length:=om
  obtain⟨ij,oj,h0,rj,_⟩:=SV.rec (k:=4) (f:=NE.enc) om (λ_=>rfl) (i9.mono F4) b7;rw[b5] at h0;obtain⟨en,mj⟩:=a0 _ (xG b7);have ej:(l'.map NE.r).take (j+1)=(l'.map NE.r).take j++ [l'[j].r]:=by rw[List.take_succ_eq_append_getElem (by rw[iA];exact b7),List.getElem_map]
  generalize l'[j]=a at rj en mj ej;have rj:c1.row ij (oj+j*4) 4=some [aC n,a.p.1,a.p.2.1,a.p.2.2]:=by rw[rj,←en];rfl
  obtain⟨o1,o2,o3⟩:=a.one;obtain⟨C,hC⟩:=exI c1.next;obtain⟨k5,e5,n5,g5,q5,f5⟩:=dK hC [aC 0,.aD,.aD,.aD];obtain⟨k6,e6,n6,g6,q6⟩:=mV k5 C (Bz n a.p);obtain⟨k7,e7,l5,g7,q7,f7⟩:=dK (h:=k6) (n6.trans n5) [aC n,a.p.1,a.p.2.1]
  have i0:Fr c1 k7:=⟨om,λq hq=>by rw[q7 q om,q6 q om,q5 q om]⟩
  have l0:=F4.next;obtain⟨k8,a8,p8⟩:=((c0.fr i0).le (iB _)).push (bytes:=56) (SV.all (sz:=3) (len:=1) (vs:= [aC n,a.p.1,a.p.2.1]) rfl om g7 (.kn 1)) (n:=ls.length) (m:=1) (jP n ls) rfl om om om;have n8:=p8.next;have i5: ∀{hh:H} {id:Nat} {a b c d:V},hh.get id=aF [a,b,c,d]->hh.row id 0 3=some [a,b,c]:=λhg=>by simp [H.row,hg,sub]
  simp(disch:=omega)only[go_sem,d2,h0.ixa,rj,hC,e5,kV k5 C 0 (a:= aC n) (b:=a.p.1) (c:=a.p.2.1) (d:=a.p.2.2) rfl o1 o2 o3,g5,jS,e6,i5 g6,Va k6 (d:=(n:Int)) o1 o2,n6,n5,e7,a8];rw[fJ j];refine⟨l.length-(j+1),om,j+1,_,ls++ [(a.p.1,a.p.2.1)],aB rfl,om,by rw[Wd];exact p8.own (b:=P.next) (jP n ls) rfl om,by rw[ej];exact aN.append all ⟨mj.ch,trivial⟩,⟨om,λq hq=>?_⟩,rfl⟩;rw[p8.old q om λid b1 m c e e2=>by have:=(c0.in _ _ _ _ e).2.1;omega,i0.get q om];exact F4.get q hq
 have d1:=cI f0
 have j4:i<fs.length:=om
 simp(disch:=omega)only[go_sem,H.cell_of gQ,Y,d1,H.cell_of (i6 hh F),h6]
 refine aI (λU s h'=> ∃(j:Nat) (b9:LN),(∃g:Nat->V,s= [g 0,g 1,g 2,g 3,.ptr T0 0,g 5,.ptr Q 0,aC i,g 8,g 9,g 10,g 11,g 12,lr,aC (K.length:Int),aC j,g 16,g 17,g 18,g 19,g 20,g 21,g 22])/\j<=K.length/\NwJ n G L K N Q z h' b9 i j/\i<b9.length/\b9.length<=200/\U=K.length-j) K.length
  ⟨0,fs,aB rfl,iB _,J,j4,l2,rfl⟩ ?_
 rintro U s h7 ⟨j,W,⟨g,rfl⟩,l6,B,Z,d0,rfl⟩
 clear J al ow ml gQ a6 Y
 obtain⟨vf,gQ,ml,nb⟩:=B.ex
 obtain⟨ps,ow,al,_⟩:=ml.ex
 have a6:=aN.length al
 have F7:=B.fr
 by_cases g2:(j:Int)<(K.length:Int)
 case neg=>
  have d2:=bI g2;obtain rfl:j=K.length:=om
  simp(disch:=omega)only[go_sem,d2];rw[fJ i];refine⟨201-(i+1),om,i+1,W,aB rfl,⟨B.ex,B.fr,B.nx,B.bn,B.nd,B.all,B.bot,?_,λt k o z h3=>B.cl t k (o.elim (λh=>?_) λh=>?_) z h3⟩,d0,om,rfl⟩
  ·by_cases e:i+1<W.length
   ·exact .inl e
   ·exact .inr ⟨om,rfl⟩
  ·by_cases e:t=i
   ·exact .inr ⟨e,by rw[List.take_length];exact h3⟩
   ·exact .inl om
  ·cases h.2
 have d2:=cI g2
 have a3:j<K.length:=om
 obtain⟨ia,b1,ws,sh,e9,j9,hc,d5⟩:=i1.open
 simp only[iA] at sh e9 j9 hc
 have ci:h7.cell ia (b1+j)=some (ws.getD j .undef):=by rw[F7.cell (e9 om),hc j a3]
 have s0:=(xJ d5 (i:=j) (by rw[iA];exact a3)).mono F7
 have eK:(K.map λr=>L.getD r []).getD j []=L.getD K[j] []:=by rw[List.getD,Qy,dD a3];rfl
 rw[eK] at s0
 have i2:=xG a3
 have a7:=ik.lt i2
 have c3: ∀k,k∈K.take (j+1)->k∈K.take j∨k=K[j]:=λk hk=>by
  rw[List.take_succ_eq_append_getElem a3] at hk;exact (oD.1 hk).imp id List.mem_singleton.1
 generalize ws.getD j .undef=vx at ci s0
 generalize K[j]=k at s0 i2 a7 c3
 have d8:i<ps.length:=om
 obtain⟨is,os,c6,g8,j1⟩:=Mq ow.sv d8
 have mi:=aN.get al i d8 om
 have er:W.getD i []=W[i]:=by rw[List.getD,dD Z];rfl
 have kr:=B.all _ (xG Z)
 have b0:=B.cl
 generalize W[i]=r at mi er kr
 have Y:=Bo ow.sv
 rw[a6] at Y
 simp(disch:=omega)only[go_sem,d2,sh.ixa,ci,H.cell_of gQ,c6.ixa,g8]
 refine (IE T0 ps[i] vx n O R G L K r k h7 (Ag.mono F7) mi a7 s0).mono ?_
 rintro _ h8 ⟨rfl,f8⟩
 have F8:=F7.trans f8
 have a5:h8.get Q=aF [vf]:=by rw[f8.get Q B.nx];exact gQ
 have n8:=f8.next
 have jn:=B.nx
 have jb:=B.bn
 by_cases b6:k∈r
 ·have d3:=cI b6
  have d4:decide ((200:Int)<(W.length:Int))=false:=bI om
  simp(disch:=omega)only[go_sem,d3,Bool.not_true,H.cell_of a5,Y,d4]
  rw[fJ j]
  refine⟨K.length-(j+1),om,j+1,W,aB rfl,om,⟨⟨vf,a5,ml.mono f8,nb⟩,F8,om,om,B.nd,B.all,B.bot,.inl Z,λt U o z h3=>?_⟩,Z,d0,rfl⟩
  rcases o with o|⟨o,h4⟩
  ·exact b0 t U (.inl o) z h3
  ·rcases c3 U h4 with h4|rfl
   ·exact b0 t U (.inr ⟨o,h4⟩) z h3
   ·rw[o,er];exact .inl b6
 have d3:=bI b6
 have i3:h8.row is (os+i*4) 4=some [aC n,ps[i].1,ps[i].2.1,ps[i].2.2]:=by rw[DQ f8 j1];exact g8
 simp(disch:=omega)only[go_sem,d3,Bool.not_false,H.cell_of a5,c6.ixa,i3]
 refine (Zs T0 ps[i] vx n O R G L K r k h8 (Ag.mono F8) (mi.mono f8) a7 (s0.mono f8)).mono ?_
 rintro _ h9 ⟨q,rfl,nq,f9⟩
 have F9:=F8.trans f9
 have n9:=f9.next
 have j3:h9.get Q=aF [vf]:=by rw[f9.get Q om];exact a5
 have d9: ∀q',bY vf q'->q'<h7.next/\N<=q':=λq' ⟨b1,m,c,e⟩=>by have:=ow.in _ _ _ _ e;omega
 have j2:Nm (λq=>q=Q∨bY vf q) n L h9 q (Ai n G L r k):=nq.go (Fx.refl _ _) λq' _ h=>by
  rcases h with h|h
  ·show q'<h8.next
   omega
  ·have:=d9 q' h
   show q'<h8.next;omega
 simp(disch:=omega)only[go_sem]
 refine (HZ n L N Q vf W q _ h9 ((ml.mono f8).mono f9) om j2 j3 om nb rfl ll om).mono ?_
 rintro _ g9 ⟨rfl,i8,c5,g3,b4,c7⟩
 have l7:=b4.next
 obtain⟨f6,b8,a9,_⟩:=g3.ex
 have b2:=aN.length a9
 have a1:=Bo b8.sv
 rw[b2] at a1
 have ln:=VH W (Ai n G L r k)
 have k3:z.next<=N:=om
 have d6:Fr z g9:=⟨by have:=F9.next;omega,λq' hq=>by
  rw[b4.get q' (by have:=F9.next;omega) λh=>h.elim (λe=>om) λh=>by have:=d9 q' h;omega]
  exact F9.get q' hq⟩
 have a0: ∀r'∈uD W (Ai n G L r k),yW n G L r':=λr' hr=>(yI.1 hr).elim (B.all r') λe=>by rw[e];exact Uc hG E kr a7
 have e0:NwJ n G L K N Q z g9 (uD W (Ai n G L r k)) i (j+1):=by
  refine⟨⟨i8,c5,g3,λh=>(c7 Q h).elim nb λh=>om⟩,d6,om,om,YM B.nd,a0,yI.2 (.inl B.bot),.inl om,λt U o z h3=>?_⟩
  by_cases ht:t<W.length
  ·rw[KN ht]
   rcases o with o|⟨o,h4⟩
   ·exact (b0 t U (.inl o) ht h3).imp id λh=>yI.2 (.inl h)
   ·rcases c3 U h4 with h4|rfl
    ·exact (b0 t U (.inr ⟨o,h4⟩) ht h3).imp id λh=>yI.2 (.inl h)
    ·rw[o,er];exact .inr (yI.2 (.inr rfl))
  ·rcases o with o|⟨o,h4⟩<;>omega
 by_cases b3:(200:Int)<((uD W (Ai n G L r k)).length:Int)
 ·have d4:decide ((200:Int)<((uD W (Ai n G L r k)).length:Int))=true:=cI b3
  simp(disch:=omega)only[go_sem,H.cell_of c5,a1,d4]
  exact⟨L,eL,.inr ⟨rfl,_,e0.nd,a0,om⟩,F2.trans d6⟩
 ·have d4:decide ((200:Int)<((uD W (Ai n G L r k)).length:Int))=false:=bI b3
  simp(disch:=omega)only[go_sem,H.cell_of c5,a1,d4]
  rw[fJ j]
  exact⟨K.length-(j+1),om,j+1,_,aB rfl,om,e0,om,om,rfl⟩
section
variable {n:Nat} {G:List Nat->Prop} {L:List (List Nat)} {K r:List Nat} {a b:List Nat} {fd:List (List Nat)}
theorem Rk.ne (g:dO n (RG L a)):0<a.length:=by
 obtain⟨j,c,_⟩:=g.one;exact Rl c
theorem zC.uniq {rs g:List (List Nat)}(x:zC n G L K rs)(y:zC n G L K g):rs=g:=by
 obtain⟨r,c,p⟩:=x.ex;obtain⟨s,d,t⟩:=y.ex
 have f: ∀(k:Nat) (a b:List Nat),rs[k]? =some a->g[k]? =some b->a=b:=by
  intro k
  induction k with
  |zero=>
   intro a b j m;rw[c.hd] at j;rw[d.hd] at m;cases j;cases m;rfl
  |succ k ih=>
   intro a b j m;have z:=(vJ.1 j).1;have A:=(vJ.1 m).1;have q:=dD (l:=rs) (i:=k) om;have o:=dD (l:=g) (i:=k) om;have e:=ih _ _ q o;rw[(c.st k _ _ q j).2,(d.st k _ _ o m).2,e]
 have len: ∀{rs g:List (List Nat)} {r s:List Nat},Ec n G L K rs r->Ec n G L K g s->r.length=L.length->(∀(k:Nat) (a b:List Nat),rs[k]? =some a->g[k]? =some b->a=b)->g.length<=rs.length:=by
  intro rs g r s c d p f;refine Nat.le_of_not_lt λh=>?_
  have w:=(vJ.1 c.hd).1;have o:=dD (l:=g) (i:=rs.length- 1) om;have u:=dD (l:=g) (i:=rs.length- 1+1) om;have:=(d.st _ _ _ o u).1;rw[←f _ _ _ c.la o] at this;omega
 have B:=len c d p f;have v:=len d c t λk a b j m=>(f k b a m j).symm
 refine List.ext_getElem om λk j m=>f k _ _ (dD j) (dD m)
end
def tI (n:Nat):List Nat:=if n>9 then tI (n/10)++ [48+n%10] else [48+n]
theorem AH (n:Nat):(tI n).length<=n+1:=by
 induction n using Nat.strongRecOn with
 |_ n ih=>
  unfold tI;split
  ·have:=ih (n/10) om
   rw[iV];show _+1<=_;omega
  ·show 1<=_
   omega
def agU (h:H):V->Option (V×H)
 | .int _ n=>if 0<=n/\n<128 then some (.str [n.toNat],h) else none
 |_=>none
theorem HP (ρ:X->V)(h:H)(x:X):fC ρ h (.cir x)=agU h (ρ x):=by
 simp only[fC,agU]
 rfl
def adQ (h:H)(x y:V):Option (V×H):=match x,y with
 | .str a,.str b=>if a.length+b.length<2^62 then some (.str (a++b),h) else none
 |_,_=>none
theorem IK (ρ:X->V)(h:H)(x y:X):fC ρ h (.sad x y)=adQ h (ρ x) (ρ y):=by
 simp only[fC,adQ]
 rfl
theorem IF {k:Nat}(a:k<10)(h:H):agU h (.int .i32 (IntKind.i32.wrap ((48+k:Nat):Int)))=some (.str [48+k],h):=by
 have: ∀k,k<10->IntKind.i32.wrap ((48+k:Nat):Int)=((48+k:Nat):Int):=by decide
 rw[this k a];show (if _ then _ else none)=_;rw[bJ ⟨om,om⟩,DK]
theorem QU (h:H){a b:List Nat}(c:a.length+b.length<10000000):adQ h (.str a) (.str b)=some (.str (a++b),h):=by
 show (if _ then _ else none)=_;rw[bJ om]
theorem abK (n:Nat): ∀(h:H),n<1000000->Ev T 66 [aC n] h (λv h'=>v= .str (tI n)/\Fr h h'):=by
 induction n using Nat.strongRecOn with
 |_ n ih=>
  intro h l;refine dW qW rfl ?_
  by_cases f:(9:Int)<(n:Int)
  ·have e:=cI f
   have j:Int.tdiv (n:Int) 10=((n/10:Nat):Int):=rfl;have k:Int.tmod (n:Int) 10=((n%10:Nat):Int):=rfl;simp(disch:=omega)only[go_sem,qW,aE,e,j];refine (ih (n/10) om h om).mono ?_;rintro _ i ⟨rfl,g⟩;have c:(48:Int)+((n%10:Nat):Int)=((48+n%10:Nat):Int):=om
   have m:=AH (n/10)
   have d:tI n=tI (n/10)++ [48+n%10]:=by
                               conv=>lhs;unfold tI
                               rw[bJ om]
   simp(disch:=omega)only[go_sem,k,c,HP,IF (Nat.mod_lt n (by omega:10>0)),IK,QU i (a:=tI (n/10)) (b:= [48+n%10]) (by show _+1<_;omega),d];exact g
  ·have e:=bI f
   have c:(48:Int)+(n:Int)=((48+n:Nat):Int):=om
   have d:tI n= [48+n]:=by unfold tI;rw[bU om]
   simp(disch:=omega)only[go_sem,qW,aE,e,c,HP,IF (show n<10 by omega),d];exact Fr.refl _
abbrev Kp (x:Nat×List Nat):List V:= [aC (x.1:Int),.str x.2]
def Dw (l:List (Nat×List Nat)):List V:=l.flatMap Kp
theorem Hm (l:List (Nat×List Nat)):(Dw l).length=l.length*2:=tS (k:=2) (f:=Kp) (λ_=>rfl) l
theorem aeH (a b:List (Nat×List Nat)):Dw (a++b)=Dw a++Dw b:=by unfold Dw;rw[List.flatMap_append]
theorem Wq {h:H}{v:V}{l:List (Nat×List Nat)}(s:SV h v 2 (Dw l)){i:Nat}(hi:i<l.length): ∃id off,Sl v 2 l.length id off/\h.row id (off+i*2) 2=some (Kp l[i])/\id<h.next:=SV.rec (k:=2) (f:=Kp) om (λ_=>rfl) s hi
theorem Zi {h:H}{v:V}{l:List (Nat×List Nat)}(s:SV h v 2 (Dw l)):bL v=some (aC (l.length:Int)):=by
 unfold bL;rw[SV.len s (n:=l.length) (Hm l) om];rfl
theorem qP (h:H){a b:V}(c:a.one=true)(d:b.one=true):Ce h (.agg [a,b])=some (.ptr h.next 0,h.new (.cells false [a,b])):=lG h _ (by simp [c,d])
def Gm:List (Nat×List Nat):= [(60, [65,53]),(168, [76,50,40,55,41]),(360, [65,54]),(504, [76,50,40,56,41]),(660, [76,50,40,49,49,41]),(1092, [76,50,40,49,51,41]),(2448, [76,50,40,49,55,41]),(2520, [65,55]),(3420, [76,50,40,49,57,41]),(4080, [76,50,40,49,54,41])]
theorem Xi (z:Int)(s:List Nat):qU [aC 0,.str []] [(0,1,aC z),(1,1,.str s)]=some (.agg [aC z,.str s]):=rfl
theorem PO (h:H):Ev T 67 [] h (λv h'=>SV h' v 2 (Dw Gm)/\Fr h h'):=by
 refine dW Bn rfl ?_;have e:mH h 2 [aC 0,.str []] 10 [(0,2,.agg [aC 60,.str [65,53]]),(2,2,.agg [aC 168,.str [76,50,40,55,41]]),(4,2,.agg [aC 360,.str [65,54]]),(6,2,.agg [aC 504,.str [76,50,40,56,41]]),(8,2,.agg [aC 660,.str [76,50,40,49,49,41]]),(10,2,.agg [aC 1092,.str [76,50,40,49,51,41]]),(12,2,.agg [aC 2448,.str [76,50,40,49,55,41]]),(14,2,.agg [aC 2520,.str [65,55]]),(16,2,.agg [aC 3420,.str [76,50,40,49,57,41]]),(18,2,.agg [aC 4080,.str [76,50,40,49,54,41]])]=some (.sl h.next 0 10 (.kn 10),h.new (.cells false (Dw Gm))):=rfl;simp(disch:=omega)only[go_sem,Bn,aE,Xi,e];exact⟨SV.all rfl (by rw[H.aW];omega) (H.aL _ _) _,(Fr.refl h).new _⟩
theorem HX (x:Nat×List Nat)(n:Nat)(h:H)(d:x.1<1000000)(h2:n<1000000):Ev T 69 [.agg (Kp x),aC n] h (λv h'=>v= aC ((x.1:Int)-n)/\Fr h h'):=by
 refine dW uE rfl ?_;obtain⟨B,c⟩:=exI h.next;obtain⟨d,g,i,f,j,e⟩:=dK c (Kp x);simp(disch:=omega)only[go_sem,uE,aE,qP h (a:= aC (x.1:Int)) (b:= .str x.2) rfl rfl,c,g,H.cell_of f];exact e
theorem aaI (x y:Nat×List Nat)(h:H)(d:x.1<1000000)(h2:y.1<1000000):Ev T 71 [.agg (Kp x),.agg (Kp y)] h (λv h'=>v= aC ((x.1:Int)-y.1)/\Fr h h'):=by
 refine dW uY rfl ?_;obtain⟨B,f⟩:=exI h.next;obtain⟨d,l,e,j,p,g⟩:=dK f (Kp x);obtain⟨h2,n,o,k,m,i⟩:=dK e (Kp y);have c:h2.get B=aF (Kp x):=by rw[m B om];exact j
 simp(disch:=omega)only[go_sem,uY,aE,qP h (a:= aC (x.1:Int)) (b:= .str x.2) rfl rfl,f,l,qP d (a:= aC (y.1:Int)) (b:= .str y.2) rfl rfl,e,n,H.cell_of c,H.cell_of k];exact g.trans i
theorem QN (u:V)(a:List (Nat×List Nat))(p:Nat)(h:H)(hn:a.length<1000000)(W:p<1000000)(Y: ∀x∈a,x.1<1000000)(N:a.Pairwise λx y=>x.1<y.1)(R:SV h u 2 (Dw a)):
  Ev T 68 [u,aC p,.fn 69 [] []] h (λv h'=> ∃(k:Nat) (f:Bool),v= .tup [aC k,.bool f]/\(f=true-> ∃hk:k<a.length,a[k].1=p)/\(f=false-> ∀x∈a,x.1≠p)/\Fr h h'):=by
 refine dW dU rfl ?_
 have lv:=Zi R
 simp(disch:=omega)only[go_sem,dU,aE,lv]
 have mono: ∀i j (hi:i<a.length) (J:j<a.length),i<j->a[i].1<a[j].1:=λi j hi J h=>GP.1 N i j hi J h
 refine aI (λk' l G=> ∃(i j:Nat),(∃g:Nat->V,l= [u,aC p,.fn 69 [] [],g 3,g 4,aC (a.length:Int),aC i,aC j,g 8,g 9,g 10])/\i<=j/\j<=a.length/\(∀m (d:m<a.length),m<i->a[m].1<p)/\(∀m (d:m<a.length),j<=m->p<=a[m].1)/\Fr h G/\k'=j-i) a.length
  ⟨0,a.length,aB rfl,om,om,λm d h=>om,λm h1 h2=>om,Fr.refl h,rfl⟩ ?_
 rintro k' l G ⟨i,j,⟨g,rfl⟩,a0,J,o,t,F,rfl⟩
 by_cases w:(i:Int)<(j:Int)
 ·have K:=cI w
  have ea:(i:Int)+(j:Int)=((i+j:Nat):Int):=om
  obtain⟨m,d⟩:=exI ((i+j)/2)
  have sr:=IC (x:=i+j)
  rw[d] at sr
  have c:m<a.length:=om
  obtain⟨id,P,U,r,_⟩:=Wq (R.mono F) c
  have sm:=Y _ (xG c)
  simp(disch:=omega)only[go_sem,K,ea,Hj,Cd,fS (n:=((i+j:Nat):Int)) om om,sr,U.ixa,r]
  refine (HX a[m] p G sm W).mono ?_
  rintro _ h3 ⟨rfl,A⟩
  by_cases Z:((a[m].1:Nat):Int)-(p:Int)<0
  ·have s:=cI Z
   simp(disch:=omega)only[go_sem,s]
   rw[fJ m]
   refine⟨j-(m+1),om,m+1,j,aB rfl,om,J,λq Q h=>?_,t,F.trans A,rfl⟩
   by_cases e:q=m
   ·subst e;omega
   ·have:=mono q m Q c om;omega
  ·have s:=bI Z
   simp(disch:=omega)only[go_sem,s]
   refine⟨m-i,om,i,m,aB rfl,om,om,o,λq Q h=>?_,F.trans A,rfl⟩
   by_cases e:q=m
   ·subst e;omega
   ·have:=mono m q c Q om;omega
 have K:=bI w
 obtain rfl:i=j:=om
 by_cases z:(i:Int)<(a.length:Int)
 ·have s:=cI z
  have b:i<a.length:=om
  obtain⟨id,P,U,r,_⟩:=Wq (R.mono F) b
  simp(disch:=omega)only[go_sem,K,s,U.ixa,r]
  refine (HX a[i] p G (Y _ (xG b)) W).mono ?_
  rintro _ h3 ⟨rfl,A⟩
  by_cases B:((a[i].1:Nat):Int)-(p:Int)=0
  ·have O:=cI B
   simp(disch:=omega)only[go_sem,O]
   exact⟨i,true,rfl,λ_=>⟨b,om⟩,λh=>(by cases h),F.trans A⟩
  ·have O:=bI B
   simp(disch:=omega)only[go_sem,O]
   refine⟨i,false,rfl,λh=>(by cases h),λ_ x L e=>?_,F.trans A⟩
   obtain⟨m,d,rfl⟩:=Ad.1 L
   rcases Nat.lt_trichotomy m i with h|h|h
   ·have:=o m d h;omega
   ·subst h;omega
   ·have h1:=mono i m b d h
    have h2:=t i b (dT _)
    omega
 ·have s:=bI z
  simp(disch:=omega)only[go_sem,K,s]
  refine⟨i,false,rfl,λh=>(by cases h),λ_ x L e=>?_,F⟩
  obtain⟨m,d,rfl⟩:=Ad.1 L
  have:=o m d om
  omega
section
variable {x:Nat×List Nat} {l:List (Nat×List Nat)}
def yX (x:Nat×List Nat):List (Nat×List Nat)->List (Nat×List Nat)
 | []=> [x]
 |y::r=>if y.1<=x.1 then y::yX x r else x::y::r
def Ke (l:List (Nat×List Nat)):List (Nat×List Nat):=l.foldl (λa x=>yX x a) []
def agF (l:List (Nat×List Nat)):Prop:=l.Pairwise λx y=>x.1<=y.1
theorem Qs {x:Nat×List Nat}: ∀{A B:List (Nat×List Nat)},(∀y∈A,y.1<=x.1)->(∀y∈B,x.1<y.1)->yX x (A++B)=A++x::B
 | [], [],_,_=>rfl
 | [],y::r,_,h=>by
  show (if y.1<=x.1 then _ else _)=_;rw[bU (by have:=h y tQ;omega)];rfl
 |y::A,B,h,h2=>by
  show (if y.1<=x.1 then _ else _)=_;rw[bJ (h y tQ)];have:=Qs (λz a=>h z (wI _ a)) h2;rw[List.cons_append,←this]
  rfl
theorem Zl (x:Nat×List Nat): ∀l,(yX x l).length=l.length+1
 | []=>rfl
 |y::r=>by
  unfold yX;split
  ·rw[List.length_cons,Zl x r];rfl
  ·rfl
theorem Qb {x z:Nat×List Nat}: ∀{l},z∈yX x l↔z=x∨z∈l
 | []=>by simp [yX]
 |y::r=>by
  unfold yX;split
  ·rw[vI,Qb,vI]
   constructor
   ·rintro (h|h|h)<;>simp [h]
   ·rintro (h|h|h)<;>simp [h]
  ·rw[vI]
theorem AX {x:Nat×List Nat}: ∀{l},agF l->agF (yX x l)
 | [],_=>List.pairwise_singleton _ _
 |y::r,h=>by
  obtain⟨b,d⟩:=List.pairwise_cons.1 h;unfold yX;split
  ·rename_i c
   refine List.pairwise_cons.2 ⟨λz a=>?_,AX d⟩;rcases Qb.1 a with rfl|a
   ·exact c
   ·exact b z a
  ·rename_i c
   refine List.pairwise_cons.2 ⟨λz a=>?_,h⟩;rcases vI.1 a with rfl|a
   ·omega
   ·have:=b z a;omega
theorem AO {i:Nat}(hi:i<l.length):Ke (l.take (i+1))=yX l[i] (Ke (l.take i)):=by
 unfold Ke;rw[List.take_succ_eq_append_getElem hi,List.foldl_append]
 rfl
theorem Vs (l:List (Nat×List Nat)): ∀i,i<=l.length->agF (Ke (l.take i))/\(Ke (l.take i)).length=i/\ ∀x∈Ke (l.take i),x∈l:=by
 intro i
 induction i with
 |zero=>exact λ_=>⟨List.Pairwise.nil,rfl,λx a=>by cases a⟩
 |succ i ih=>
  intro hi;obtain⟨b,d,c⟩:=ih om;rw[AO om];refine⟨AX b,by rw[Zl,d],λx a=>?_⟩;rcases Qb.1 a with rfl|a
  ·exact xG _
  ·exact c x a
theorem GR {i:Nat}(hi:i<l.length):sub (Dw l) (i*2) 2=some (Kp l[i]):=by
 have:=FX (s:=2) (f:=Kp) (λ_=>rfl) (ps:=l) (rest:= []) hi;rwa [tZ] at this
theorem GX {k:Nat}(a:k<l.length)(x:Nat×List Nat):putAt (Dw l) (k*2) (Kp x)=some (Dw (l.set k x)):=by
 have:=GG (s:=2) (f:=Kp) (λ_=>rfl) (ps:=l) (rest:= []) a x;rwa [tZ,tZ] at this
theorem vB (h:H)(id off:Nat){a b:V}(c:a.one=true)(d:b.one=true):Wz h 2 (.ptr id off) (.agg [a,b])=eU (h.get id) h id off [a,b]:=Di h id off 2 _ rfl (by simp [c,d])
theorem ZX (S N:Nat)(v:V)(l:List (Nat×List Nat))(h:H)(hl:l.length=N)(hN:N<1000000)(ix: ∀j:Nat,j<N->Gr 2 v (aC j)=some (.ptr S (j*2)))(hS:0<N->S<h.next)(gS:0<N->h.get S=aF (Dw l))(hs: ∀x∈l,x.1<1000000):
  Ev T 155 [v,aC 0,aC N,.fn 71 [] []] h (λ_ h'=>(0<N->h'.get S=aF (Dw (Ke l)))/\Fx (· =S) h h'):=by
 refine dW fW rfl ?_
 simp(disch:=omega)only[go_sem,fW,aE,Int.zero_add]
 by_cases a4:N=0
 ·subst a4
  have e0:l= []:=List.length_eq_zero_iff.1 hl
  subst e0
  refine aI (λJ f U=>(∃g:Nat->V,f= [g 0,g 1,aC 0,g 3,aC 1,g 5,g 6,g 7])/\h=U/\J=0) 0 ⟨aB rfl,rfl,rfl⟩ ?_
  rintro J f U ⟨⟨g,rfl⟩,rfl,rfl⟩
  simp(disch:=omega)only[go_sem,show decide ((1:Int)<0)=false from rfl]
  exact⟨λh=>om,Fx.refl _ _⟩
 have gS:=gS om
 have hS:=hS om
 have f1:Ke (l.take 1)++l.drop 1=l:=by
  cases l with
  |nil=>exact absurd hl.symm a4
  |cons a r=>rfl
 refine aI (λJ f U=> ∃(i:Nat),(∃g:Nat->V,f= [v,aC 0,aC N,.fn 71 [] [],aC i,g 5,g 6,g 7])/\1<=i/\i<=N/\U.get S=aF (Dw (Ke (l.take i)++l.drop i))/\Fx (· =S) h U/\J=N-i) (N- 1)
  ⟨1,aB rfl,om,om,by rw[f1];exact gS,Fx.refl _ h,rfl⟩ ?_
 rintro J f U ⟨i,⟨g,rfl⟩,a9,hi,Z,F,rfl⟩
 by_cases a3:(i:Int)<(N:Int)
 case neg=>
  have d1:=bI a3;obtain rfl:i=N:=om
  rw[←hl,List.take_length,List.drop_length,tZ] at Z;simp(disch:=omega)only[go_sem,d1];exact⟨λ_=>Z,F⟩
 have d1:=cI a3
 have L:i<l.length:=om
 obtain⟨a5,len,mem⟩:=Vs l i om
 have st:=AO L
 rw[Zh L] at Z
 have hx:=hs _ (xG L)
 generalize l[i]=x at Z st hx
 simp(disch:=omega)only[go_sem,d1]
 refine uJ (λvs h'=>(∃g:Nat->V,vs= [v,aC 0,aC N,.fn 71 [] [],aC i,g 5,g 6,g 7])/\h'.get S=aF (Dw (yX x (Ke (l.take i))++l.drop (i+1)))/\Fx (· =S) h h') ?_ ?_
 ·refine aI (λJ f h'=> ∃(j:Nat),(∃g:Nat->V,f= [v,aC 0,aC N,.fn 71 [] [],aC i,aC j,g 6,g 7])/\j<=i/\(∀y∈(Ke (l.take i)).drop j,x.1<y.1)/\h'.get S=aF (Dw ((Ke (l.take i)).take j++x::(Ke (l.take i)).drop j++l.drop (i+1)))/\Fx (· =S) h h'/\j=J) i
   ⟨i,aB rfl,dT _,λy s=>(by rw[List.drop_eq_nil_of_le om] at s;cases s),by rw[Ro om,List.drop_eq_nil_of_le om,Lz];exact Z,F,rfl⟩ ?_
  obtain⟨c,G⟩:=exI (Ke (l.take i))
  rw[G] at a5 len mem
  rw[G]
  obtain⟨R,a2⟩:=exI (l.drop (i+1))
  rw[a2]
  rintro J f n ⟨j,⟨g,rfl⟩,hj,hB,Q,F2,rfl⟩
  by_cases a7:(0:Int)<(j:Int)
  case neg=>
   have d2:=bI a7;obtain rfl:j=0:=om
   rw[List.take_zero,List.drop_zero,List.nil_append] at Q;have im:=Qs (x:=x) (A:= []) (B:=c) (λy s=>by cases s) hB;rw[List.nil_append,List.nil_append] at im;simp(disch:=omega)only[go_sem,d2];exact⟨aB rfl,by rw[im];exact Q,⟨by have:=F2.next;show _<=n.next+17;omega,λq Y n=>F2.get q Y n⟩⟩
  have d2:=cI a7
  have a8:1<=j:=om
  have ja:j- 1<c.length:=om
  obtain⟨d,o⟩:=exI (c.take j++x::c.drop j++R)
  rw[o] at Q
  have et:c.take j=c.take (j- 1)++ [c[j- 1]]:=by
   have:=List.take_succ_eq_append_getElem ja;rwa [show j- 1+1=j by omega] at this
  have t:(c.take (j- 1)).length=j- 1:=by rw[zO,Nat.min_eq_left om]
  have lj:j<d.length:=by
   rw[←o,iV,iV,zO,Nat.min_eq_left om,List.length_cons];omega
  have P:j- 1<d.length:=om
  have u:c.take (j- 1)++c[j- 1]::x::(c.drop j++R)=d:=by rw[←o,et];simp only[Lz,List.cons_append,List.nil_append]
  have cj:d[j]=x:=by
   have:d[j]? =some x:=by
    rw[←u,Jg om,t,show j-(j- 1)=1 by omega];rfl
   rw[dD lj] at this;exact Option.some.inj this
  have a0:d[j- 1]=c[j- 1]:=by
   have:d[j- 1]? =some c[j- 1]:=by
    rw[←u,Jg om,t,Nat.sub_self];rfl
   rw[dD P] at this;exact Option.some.inj this
  obtain⟨y,s⟩:=exI (c[j- 1])
  have ys:y.1<1000000:=hs _ (mem y (by rw[←s];exact xG _))
  rw[s] at a0 u
  have a6: ∀h':H,h'.get S=aF (Dw d)->h'.row S (j*2) 2=some (Kp x)/\h'.row S ((j- 1)*2) 2=some (Kp y):=λh' hg=>by
   have s1:=GR lj;have s2:=GR P;rw[cj] at s1;rw[a0] at s2;unfold H.row;rw[hg];exact⟨s1,s2⟩
  have a1:=ix j om
  have w:=ix (j- 1) om
  have ej:(j:Int)- 1=((j- 1:Nat):Int):=om
  have n2:=F2.next
  have fb: ∀k,n.next<=k->Fr n (H.mk n.tr k):=λk hk=>(Fr.refl n).bH hk
  obtain⟨r1,r2⟩:=a6 n Q
  simp(disch:=omega)only[go_sem,d2,ej,a1,w,r1,r2]
  refine (aaI x y _ hx ys).mono ?_
  rintro _ h3 ⟨rfl,f3⟩
  have p:=(fb _ om).trans f3
  have g3:h3.get S=aF (Dw d):=by rw[p.get S om];exact Q
  obtain⟨r3,r4⟩:=a6 h3 g3
  have es: ∀l,dI (.str l) (.str l)=true:=λl=>by simp [dI]
  by_cases K:(x.1:Int)-(y.1:Int)<0
  case neg=>
   have d3:=bI K
   have hA: ∀z∈c.take j,z.1<=x.1:=λz W=>by
    obtain⟨m,hm,rfl⟩:=Ad.1 W;rw[zO,Nat.min_eq_left om] at hm;rw[List.getElem_take]
    by_cases e:m=j- 1
    ·subst e;rw[s];omega
    ·have:=GP.1 a5 m (j- 1) om ja om
     rw[s] at this;omega
   have im:=Qs hA hB;rw[List.take_append_drop] at im;simp(disch:=omega)only[go_sem,r3,r4,es,d3];exact⟨aB rfl,by rw[im,o];exact g3,⟨by have:=p.next;omega,λq Y n=>by rw[p.get q om];exact F2.get q Y n⟩⟩
  have d3:=cI K
  have p1: ∀O:H,eU (aF (Dw d)) O S (j*2) (Kp y)=some (O.set S (aF (Dw (d.set j y)))):=λO=>by simp only[eU,GX lj,Option.map_some]
  have p2: ∀O:H,eU (aF (Dw (d.set j y))) O S ((j- 1)*2) (Kp x)=some (O.set S (aF (Dw ((d.set j y).set (j- 1) x)))):=λO=>by simp only[eU,GX (show j- 1<(d.set j y).length by rw[List.length_set];exact P),Option.map_some]
  simp(disch:=omega)only[go_sem,r3,r4,es,d3,ej,a1,w,vB _ S (j*2) (a:= aC (y.1:Int)) (b:= .str y.2) rfl rfl,vB _ S ((j- 1)*2) (a:= aC (x.1:Int)) (b:= .str x.2) rfl rfl,g3,p1,p2]
  have ed:c.drop (j- 1)=y::c.drop j:=by rw[Zh ja,s,show j- 1+1=j by omega]
  have el:(d.set j y).set (j- 1) x=c.take (j- 1)++x::c.drop (j- 1)++R:=by
   rw[←u,List.set_append_right _ _ om,t,show j-(j- 1)=1 by omega,List.set_append_right _ _ om,t,Nat.sub_self,ed];simp
  have nf:=p.next
  refine⟨j- 1,om,j- 1,aB rfl,om,λz W=>?_,by rw[el],⟨by simp only[H.cV];show _<=h3.next+18;omega,λq Y n=>?_⟩,rfl⟩
  ·rw[ed] at W
   rcases vI.1 W with rfl|W
   ·omega
   ·exact hB z W
  ·rw[H.aH _ n,H.aH _ n]
   show h3.get q=_
   rw[p.get q om]
   exact F2.get q Y n
 rintro f n ⟨⟨g,rfl⟩,Q,F2⟩
 simp(disch:=omega)only[go_sem]
 rw[fJ i]
 exact⟨N-(i+1),om,i+1,aB rfl,om,om,by rw[st];exact Q,F2,rfl⟩
theorem Ya (S N:Nat)(v:V)(l:List (Nat×List Nat))(h:H)(o:l.length=N)(r:N<20)(q:bL v=some (aC N))(n: ∀j:Nat,j<N->Gr 2 v (aC j)=some (.ptr S (j*2)))(m:0<N->S<h.next)(p:0<N->h.get S=aF (Dw l))(f: ∀x∈l,x.1<1000000):
  Ev T 70 [v,.fn 71 [] []] h (λ_ h'=>(0<N->h'.get S=aF (Dw (Ke l)))/\Fx (· =S) h h'):=by
 refine dW eJ rfl ?_
 simp(disch:=omega)only[go_sem,eJ,aE,q]
 refine Ev.mono (Q:=λ_ h'=>(0<N->h'.get S=aF (Dw (Ke l)))/\Fx (· =S) h h') ?_ ?_
 ·refine dW iI rfl ?_
  simp(disch:=omega)only[go_sem,iI,aE]
  have k:decide ((20:Int)<=(N:Int))=false:=bI om
  have i:decide ((20:Int)<(N:Int))=false:=bI om
  refine aI (λc a b=>(∃g:Nat->V,a= [v,aC N,.fn 71 [] [],aC 20,aC 0,aC 20,g 6,g 7,g 8,g 9,g 10])/\h=b/\c=0) 0 ⟨aB rfl,rfl,rfl⟩ ?_
  rintro c a b ⟨⟨g,rfl⟩,rfl,rfl⟩
  simp(disch:=omega)only[go_sem,k]
  refine (ZX S N v l h o om n m p f).mono ?_
  rintro _ e ⟨d,F2⟩
  simp(disch:=omega)only[go_sem]
  refine aI (λc a b=>(∃g:Nat->V,a= [g 0,aC N,g 2,aC 20,g 4,g 5,g 6,g 7,g 8,g 9,g 10])/\e=b/\c=0) 0 ⟨aB rfl,rfl,rfl⟩ ?_
  rintro c a b ⟨⟨g,rfl⟩,rfl,rfl⟩
  simp(disch:=omega)only[go_sem,i]
  exact⟨d,F2⟩
 rintro _ e ⟨d,F2⟩
 simp(disch:=omega)only[go_sem]
 exact⟨d,F2⟩
end
def BO:Nat->Nat->Nat->Nat
 |0,_,p=>p
 |f+1,q,p=>if q%p=0 then p else BO f q (p+1)
def FE:Nat->Nat->Nat->Nat->Nat×Nat
 |0,_,k,r=>(k,r)
 |f+1,p,k,r=>if r%p=0 then FE f p (k+1) (r/p) else (k,r)
def Du (p k q r:Nat):List (Nat×List Nat):=if r=1 then List.replicate k (p,67::tI p) else match Gm.find? (λx=>x.1==q) with|some x=> [(q,x.2)]|none=> []
def fY (q:Nat):List (Nat×List Nat):=Du (BO (q- 2) q 2) (FE q (BO (q- 2) q 2) 0 q).1 q (FE q (BO (q- 2) q 2) 0 q).2
def kY:List Nat->List (Nat×List Nat)
 |a::b::r=>fY (b/a)++kY (b::r)
 |_=> []
theorem Dg: ∀(l:List Nat) (i:Nat) (hi:i+1<l.length),kY (l.take (i+2))=kY (l.take (i+1))++fY (l[i+1]/l[i])
 |a::b::r,0,_=>by simp [kY]
 |a::b::r,i+1,hi=>by
  have c:i+1<(b::r).length:=by simpa using hi
  have:=Dg (b::r) i c;have e: ∀k,kY (a::b::r.take k)=fY (b/a)++kY (b::r.take k):=λk=>rfl
  show kY (a::b::r.take (i+1))=kY (a::b::r.take i)++_;rw[e,e];have d:kY (b::r.take (i+1))=kY (b::r.take i)++fY ((b::r)[i+1]/(b::r)[i]):=this;rw[d,Lz]
  rfl
theorem VD {p k q r:Nat}(b:2<=p)(a:2<=q)(h:q=p^k*r)(c:1<=r):2^(Du p k q r).length<=q:=by
 unfold Du;split
 ·rename_i e
  rw[List.length_replicate,h,e,tW];exact Nat.pow_le_pow_left b k
 ·split
  ·exact a
  ·show 1<=q;omega
section
variable {n:Nat} {G:List Nat->Prop} {L:LN} {K r:List Nat} {rs:LN} (hG:dO n G) (E:cZ G L)
theorem Pq (E:cZ G L)(k:yW n G L r):cZ (RG L r) (r.map λi=>L.getD i []):=by
 refine⟨List.pairwise_map.2 (List.Pairwise.imp_of_mem (λ{i j} hi c (h:i<j)=>?_) k.rk.asc),λx=>?_⟩
 ·have a:=((k.rk.mem i).1 hi).1
  have b:=((k.rk.mem j).1 c).1;rw[List.getD,dD a,List.getD,dD b];exact GP.1 E.asc i j a b h
 ·rw[pH]
  exact Iff.rfl
include hG E
theorem acN (c:Ec n G L K rs r)(b:Ab n G L K){i:Nat}(hi:i+1<rs.length):2*rs[i].length<=rs[i+1].length:=by
 have a:=c.all _ (xG (show i<rs.length by omega));have h:=c.all _ (xG hi);obtain⟨k,l⟩:=c.st i _ _ (dD om) (dD hi);obtain⟨⟨j,f,d,e⟩,_⟩:=Cz hG E a b k;rw[←l] at e;have g:=Dr a (b.lt f) d;rw[←e] at g;have:=dbl (x:=L.getD j []) a.cY h.cY (Pq E a) (Pq E h) (λy ⟨t,ht,e⟩=>⟨t,g.1 t ht,e⟩) ⟨j,g.2.1,rfl⟩ λ⟨t,ht,e⟩=>d (by rw[←wU E.nodup ((a.rk.mem t).1 ht).1 (b.lt f) e];exact ht)
 simpa using this
end
section
variable {b n:Nat} {h:H} {v:V} {l:List (Nat×List Nat)}
def FO (b:Nat)(h:H)(v:V)(l:List (Nat×List Nat)):Prop:=(l= []/\v= .aD)∨ ∃S,v= .sl S 0 l.length (.un 2)/\h.get S=aF (Dw l)/\S<h.next/\b<=S/\0<l.length
theorem FO.mono {h':H}(r:FO b h v l)(f:Fr h h'):FO b h' v l:=by
 rcases r with r|⟨S,e,g,a,d,c⟩
 ·exact .inl r
 ·exact .inr ⟨S,e,by rw[f.get S a];exact g,jM a f.next,d,c⟩
theorem FO.own (r:FO b h v l):dH h v 2 (Dw l) b:=by
 rcases r with ⟨rfl,rfl⟩|⟨S,rfl,g,a,c,d⟩
 ·exact dH.aD _ _ _
 ·exact .inr ⟨S,l.length,_, [],rfl,Hm l,.inl rfl,c,a,by rw[tZ];exact g⟩
theorem FM {D:Nat}{x:Nat×List Nat}(r:FO b h v l)(i:b<=h.next)(s:l.length<1000000)(d:D<h.next)(g:h.get D=aF (Kp x)):
  ∃v' h',zK h 2 24 v (.sl D 0 1 (.kn 1))=some (v',h')/\FO b h' v' (l++ [x])/\h.next<=h'.next/\ ∀q,q<b->h'.get q=h.get q:=by
 have o:=r.own
 obtain⟨h',a,p⟩:=(o.le (iB _)).push (bytes:=24) (SV.all (sz:=2) (len:=1) (vs:=Kp x) rfl d g (.kn 1)) (n:=l.length) (m:=1) (Hm l) rfl om om om
 have t:=p.next
 refine⟨_,h',a,.inr ⟨h.next,by rw[iV];rfl,by rw[aeH];exact p.get,om,i,by rw[iV];exact Nat.succ_pos _⟩,om,λq j=>p.old q om λid f m c e k=>by have:=(o.in _ _ _ _ e).2.1;omega⟩
theorem VV (h:H)(z:Int)(s:List Nat):mH h 2 [aC 0,.str []] 1 [(0,2,.agg [aC z,.str s])]=some (.sl h.next 0 1 (.kn 1),h.new (.cells false [aC z,.str s])):=rfl
theorem BM.sz {W:Nat->Prop}{G:List Nat->Prop}{L:LN}{p:V×V}{r:List Nat}(g:BM W n L h p r)(E:cZ G L)(k:yW n G L r):
  Ev T 65 [.agg [aC n,p.1,p.2]] h (λv h'=>v= aC (r.length:Nat)/\Fr h h'):=by
 obtain⟨O,R,a⟩:=g
 refine (yB _ n O R _ h a).mono ?_
 rintro _ h' ⟨rfl,f⟩
 rw[k.rk.len k.cY a.isc E k.le]
 exact⟨rfl,f⟩
theorem BM.eq {W:Nat->Prop}{L:LN}{p:V×V}{r:List Nat}(g:BM W n L h p r):dI p.1 p.1=true/\dI p.2 p.2=true:=by
 obtain⟨O,R,g⟩:=g;obtain⟨_,_,_,_,e,c,_,_,a,_,_⟩:=g.cw;simp only[V.agg.injEq,List.cons.injEq,and_true,true_and] at e;rw[e.1,e.2];exact⟨SV.dI c,SV.dI a⟩
theorem aeC {sz i o j q:Nat}(a:Sl v sz n i o)(b:Sl v sz n j q)(h:0<n):i=j/\o=q:=by
 have e:=(a.ixa .i64 0 om om).symm.trans (b.ixa .i64 0 om om);simpa using e
theorem RB: ∀{l:List (Nat×List Nat)} {i:Nat} (hi:i<l.length),(Dw l)[i*2+1]? =some (V.str l[i].2)
 |x::l,0,_=>rfl
 |x::l,i+1,hi=>by
  show (Kp x++Dw l)[(i+1)*2+1]? =_;rw[Jg (by show 2<=(i+1)*2+1;omega)];show (Dw l)[(i+1)*2+1- 2]? =_;rw[show (i+1)*2+1- 2=i*2+1 by omega];exact RB (by simpa using hi)
theorem QG: ∀k (hk:k<Gm.length),Gm.find? (λx=>x.1==Gm[k].1)=some Gm[k]:=by decide
theorem acU:Gm.Pairwise λx y=>x.1<y.1:=by decide
theorem ND: ∀x∈Gm,x.1<1000000:=by decide
theorem RL (l:List Nat):kY (l.take 1)= []:=by cases l<;>rfl
theorem Uq (l:List (Nat×List Nat)):(Ke l).length=l.length:=by
 have:=(Vs l l.length (dT _)).2.1;rwa [List.take_length] at this
theorem FO.sort (r:FO b h v l)(p:b<=h.next)(o:l.length<20)(a: ∀x∈l,x.1<1000000):
  Ev T 70 [v,.fn 71 [] []] h (λ_ h'=>FO b h' v (Ke l)/\h.next<=h'.next/\ ∀q,q<b->h'.get q=h.get q):=by
 rcases r with ⟨rfl,rfl⟩|⟨S,rfl,g,e,f,d⟩
 ·refine (Ya h.next 0 .aD [] h rfl om rfl (λj c=>om) (λh=>om) (λh=>om) a).mono ?_
  rintro k h' ⟨_,F⟩
  exact⟨.inl ⟨rfl,rfl⟩,F.next,λq m=>F.get q om om⟩
 ·refine (Ya S l.length _ l h rfl o rfl (λj c=>by simp [Gr,c]) (λ_=>e) (λ_=>g) a).mono ?_
  rintro k h' ⟨i,F⟩
  have s:=F.next
  exact⟨.inr ⟨S,by rw[Uq],i d,om,f,by rw[Uq];exact d⟩,F.next,λq m=>F.get q om om⟩
def Dv (rs:LN):LN:=(Ke (kY (rs.map List.length))).map Prod.snd
theorem Fw {W0:Nat->Prop}(vc:V)(n:Nat)(O:LN)(R:jJ)(G:List Nat->Prop)(h:H)(gc:GC W0 h vc n O R G):
  Ev T 14 [vc] h (λv h'=> ∃vl L K rs,v= .tup [vl,aC 0]/\dM O R n 0 (aX n)=L/\Ab n G L K/\zC n G L K rs/\SV h' vl 1 ((Dv rs).map V.str)/\(Dv rs).length<20/\Fr h h'):=by
 obtain⟨vO,vR,rfl,b7,b9⟩:=gc.shape
 refine dW xT rfl ?_
 obtain⟨A,hA⟩:=exI h.next
 obtain⟨h1,e1,n1,g1,q1,f1⟩:=dK hA [aC n,vO,vR]
 simp(disch:=omega)only[go_sem,xT,aE,bV h (v:= aC n) (u:=vO) (w:=vR) rfl b7 b9,hA,e1,aJ g1]
 refine (Po _ n O R G h1 (gc.mono f1)).mono ?_
 rintro _ h2 ⟨vl,ls,L,K,rs,rfl,eL,ik,cl,sv,al,f2⟩
 have hG:=gc.cY
 obtain⟨E,eE⟩:=dB gc.cY gc.isc
 rw[eL] at E eE
 have ll:=jE gc
 obtain⟨rl,cb,g0⟩:=cl.ex
 have e0:=aN.length al
 have f9:=cb.len
 have lv:bL vl=some (aC (rs.length:Int)):=by unfold bL;rw[SV.len sv (n:=rs.length) (by rw[jP,e0]) om];rfl
 have r0:0<rs.length:=(vJ.1 cb.hd).1
 have sb: ∀i (hi:i<rs.length),1<=rs[i].length/\rs[i].length<=5040:=λi hi=>by
  have k:=cb.all _ (xG hi);have:=k.rk.short;refine⟨?_,om⟩;obtain⟨j,hj,_⟩:=k.cY.one;exact Rl hj
 obtain⟨sz,a6⟩:=exI (rs.map List.length)
 have d4:sz.length=rs.length:=by rw[←a6,iA]
 have N: ∀i (hi:i<rs.length),sz[i]'om=rs[i].length:=λi hi=>by subst a6;rw[List.getElem_map]
 have b5: ∀j,sz.getD j 0<=5040:=λj=>by
  by_cases hj:j<rs.length
  ·rw[List.getD,dD om,Option.getD_some,N j hj]
   exact (sb j hj).2
  ·rw[List.getD,List.getElem?_eq_none om];exact iB _
 simp(disch:=omega)only[go_sem]
 refine bA (λhc=>(hc rfl).elim) (λ_=>?_)
 obtain⟨b,hb⟩:=exI h2.next
 simp(disch:=omega)only[go_sem]
 refine bQ (λvs Q=> ∃z,(∃g:Nat->V,vs= [g 0,g 1,g 2,g 3,g 4,g 5,z,g 7,g 8,g 9,g 10,g 11,g 12,g 13,g 14,g 15,g 16,g 17,g 18,g 19,g 20,g 21,g 22,g 23,g 24,g 25,g 26,g 27,g 28,g 29])/\FO b Q z (kY sz)/\2^(kY sz).length<=5040/\(∀x∈kY sz,x.1<1000000)/\Fr h2 Q) ?_ ?_
 ·refine aI (λB d Q=> ∃(i:Nat) (z:V),(∃g:Nat->V,d= [g 0,g 1,g 2,g 3,vl,g 5,z,aC i,g 8,g 9,g 10,g 11,g 12,g 13,g 14,g 15,g 16,g 17,g 18,g 19,g 20,g 21,g 22,g 23,g 24,g 25,g 26,g 27,g 28,g 29])/\1<=i/\i<=rs.length/\FO b Q z (kY (sz.take i))/\2^(kY (sz.take i)).length<=sz.getD (i- 1) 0/\(∀x∈kY (sz.take i),x.1<1000000)/\Fr h2 Q/\B=rs.length-i) (rs.length- 1)
   ⟨1,.aD,aB rfl,om,om,?_,?_,?_,Fr.refl _,rfl⟩ ?_
  ·rw[RL];exact .inl ⟨rfl,rfl⟩
  ·rw[RL,List.getD,dD om,Option.getD_some,N 0 r0]
   exact (sb 0 r0).1
  ·rw[RL];exact λx P=>by cases P
  rintro B d Q ⟨i,z,⟨g,rfl⟩,g3,hi,fr,bd,sm,F,rfl⟩
  by_cases W:(i:Int)<(rs.length:Int)
  case neg=>
   have d1:=bI W;obtain rfl:i=rs.length:=om
   rw[←d4,List.take_length] at fr bd sm;simp(disch:=omega)only[go_sem,lv,d1];exact⟨z,aB rfl,fr,mY bd (b5 _),sm,F⟩
  have d1:=cI W
  have Y:i<rs.length:=om
  have U:i- 1<rs.length:=om
  obtain⟨ia,oa,a7,ra,na⟩:=SV.rec (k:=3) (f:=λp:V×V=> [aC n,p.1,p.2]) om (λ_=>rfl) (sv.mono F) (i:=i) om
  obtain⟨ib,ob,b1,rb,nb⟩:=SV.rec (k:=3) (f:=λp:V×V=> [aC n,p.1,p.2]) om (λ_=>rfl) (sv.mono F) (i:=i- 1) om
  obtain⟨rfl,rfl⟩:=aeC a7 b1 om
  have ga:=(aN.get al i om Y).go (Fx.of F) (W':=λ_=>False) λ_ _ h=>h
  have gb:=(aN.get al (i- 1) om U).go (Fx.of F) (W':=λ_=>False) λ_ _ h=>h
  have ei:(i:Int)- 1=((i- 1:Nat):Int):=om
  have fb: ∀m,Q.next<=m->Fr Q (H.mk Q.tr m):=λm hm=>(Fr.refl Q).bH hm
  simp(disch:=omega)only[go_sem,lv,d1,a7.ixa,ra,ei,b1.ixa,rb]
  refine ((ga.go (Fx.of (fb (Q.next+13) om)) (W':=λ_=>False) λ_ _ h=>h).sz E (cb.all _ (xG Y))).mono ?_
  rintro _ h3 ⟨rfl,f3⟩
  have a1:=(fb _ om).trans f3
  have c3:h3.row ia (oa+(i- 1)*3) 3=some [aC n,ls[i- 1].1,ls[i- 1].2]:=by rw[DQ a1 nb];exact rb
  have eb:=gb.eq
  simp(disch:=omega)only[go_sem,c3,eb.1,eb.2]
  refine ((gb.go (Fx.of a1) (W':=λ_=>False) λ_ _ h=>h).sz E (cb.all _ (xG U))).mono ?_
  rintro _ h4 ⟨rfl,f4⟩
  have F4:=F.trans (a1.trans f4)
  obtain⟨q,o⟩:=exI (rs[i].length/rs[i- 1].length)
  have s1:=sb (i- 1) U
  have s2:=sb i Y
  have db:=acN hG E cb ik (i:=i- 1) om
  simp only[show i- 1+1=i by omega] at db
  have q2:2<=q:=by rw[←o];exact (Nat.le_div_iff_mul_le om).2 db
  have q3:rs[i- 1].length*q<=rs[i].length:=by rw[←o];exact Nat.mul_div_le _ _
  have q4:q<=5040:=mY (by rw[←o];exact Nat.div_le_self _ _) s2.2
  have c5:Int.tdiv ((rs[i].length:Nat):Int) ((rs[i- 1].length:Nat):Int)=(q:Int):=by rw[←o];rfl
  have z0:decide (((rs[i- 1].length:Nat):Int)=0)=false:=bI om
  simp(disch:=omega)only[go_sem,c5,z0]
  clear c5 z0 c3 ra rb a7 b1
  refine bQ (λvs h'=>h'=h4/\ ∃p:Nat,(∃g:Nat->V,vs= [g 0,g 1,g 2,g 3,vl,g 5,z,aC i,aC q,aC p,g 10,g 11,g 12,g 13,g 14,g 15,g 16,g 17,g 18,g 19,g 20,g 21,g 22,g 23,g 24,g 25,g 26,g 27,g 28,g 29])/\2<=p/\p<=q/\q%p=0/\p=BO (q- 2) q 2) ?_ ?_
  ·refine aI (λB d h'=> ∃(p:Nat),(∃g:Nat->V,d= [g 0,g 1,g 2,g 3,vl,g 5,z,aC i,aC q,aC p,g 10,g 11,g 12,g 13,g 14,g 15,g 16,g 17,g 18,g 19,g 20,g 21,g 22,g 23,g 24,g 25,g 26,g 27,g 28,g 29])/\2<=p/\p<=q/\BO (q-p) q p=BO (q- 2) q 2/\h4=h'/\B=q-p) (q- 2)
    ⟨2,aB rfl,dT _,q2,rfl,rfl,rfl⟩ ?_
   rintro B d h' ⟨p,⟨g,rfl⟩,p2,pq,lp,rfl,rfl⟩
   have em:Int.tmod (q:Int) (p:Int)=((q%p:Nat):Int):=rfl
   have z0:decide ((p:Int)=0)=false:=bI om
   by_cases hz:q%p=0
   ·have dz:decide (((q%p:Nat):Int)≠0)=false:=bI om
    have e:p=BO (q- 2) q 2:=by
     rw[←lp]
     cases q-p with
     |zero=>rfl
     |succ f=>show p=if q%p=0 then p else _;rw[bJ hz]
    simp(disch:=omega)only[go_sem,em,z0,dz]
    exact⟨p,aB rfl,p2,pq,hz,e⟩
   ·have dz:decide (((q%p:Nat):Int)≠0)=true:=cI om
    have pl:p<q:=Nat.lt_of_le_of_ne pq λe=>hz (by rw[e];exact Nat.mod_self q)
    have e:BO (q-(p+1)) q (p+1)=BO (q- 2) q 2:=by
     rw[←lp,show q-p=(q-(p+1))+1 by omega];show _=if q%p=0 then p else _
     rw[bU hz]
    simp(disch:=omega)only[go_sem,em,z0,dz]
    rw[fJ p]
    exact⟨q-(p+1),om,p+1,aB rfl,om,pl,e,rfl⟩
  rintro d h' ⟨rfl,p,⟨g,rfl⟩,p2,pq,hz,ep⟩
  simp(disch:=omega)only[go_sem]
  refine bQ (λvs h5=>Fr h' h5/\ ∃k r:Nat,(∃g:Nat->V,vs= [g 0,g 1,g 2,g 3,vl,g 5,z,aC i,aC q,aC p,aC k,aC r,g 12,g 13,g 14,g 15,g 16,g 17,g 18,g 19,g 20,g 21,g 22,g 23,g 24,g 25,g 26,g 27,g 28,g 29])/\q=p^k*r/\1<=r/\(k,r)=FE q p 0 q) ?_ ?_
  ·refine aI (λB d h5=> ∃(k r f:Nat),(∃g:Nat->V,d= [g 0,g 1,g 2,g 3,vl,g 5,z,aC i,aC q,aC p,aC k,aC r,g 12,g 13,g 14,g 15,g 16,g 17,g 18,g 19,g 20,g 21,g 22,g 23,g 24,g 25,g 26,g 27,g 28,g 29])/\q=p^k*r/\1<=r/\r<=f/\FE f p k r=FE q p 0 q/\k<1000000-r/\Fr h' h5/\r=B) q
    ⟨0,q,q,aB rfl,by simp,om,dT _,rfl,om,Fr.refl _,rfl⟩ ?_
   rintro B d h5 ⟨k,r,f,⟨g,rfl⟩,eq,r1,rf,sf,kb,f5,rfl⟩
   have em:Int.tmod (r:Int) (p:Int)=((r%p:Nat):Int):=rfl
   have z0:decide ((p:Int)=0)=false:=bI om
   have rq:r<=q:=by rw[eq];exact Nat.le_mul_of_pos_left _ (Nat.pow_pos om)
   by_cases hz:r%p=0
   ·have dz:decide (((r%p:Nat):Int)=0)=true:=cI om
    have ed:Int.tdiv (r:Int) (p:Int)=((r/p:Nat):Int):=rfl
    obtain⟨f',rfl⟩: ∃f',f=f'+1:=⟨f- 1,om⟩
    have e:FE f' p (k+1) (r/p)=FE q p 0 q:=by
     rw[←sf];show _=if r%p=0 then _ else _
     rw[bJ hz]
    have rd:r/p<r:=Nat.div_lt_self om om
    have rm:p*(r/p)=r:=Nat.mul_div_cancel' (Nat.dvd_of_mod_eq_zero hz)
    have rp:1<=r/p:=Nat.pos_of_ne_zero λe=>by rw[e,Nat.mul_zero] at rm;omega
    have e2:q=p^(k+1)*(r/p):=by rw[Nat.pow_succ,Nat.mul_assoc,rm];exact eq
    simp(disch:=omega)only[go_sem,em,z0,dz,ed]
    rw[fJ k]
    exact⟨r/p,rd,k+1,r/p,f',aB rfl,e2,rp,om,e,om,f5.trans ((Fr.refl _).bH om),rfl⟩
   ·have dz:decide (((r%p:Nat):Int)=0)=false:=bI om
    have e:(k,r)=FE q p 0 q:=by
     rw[←sf]
     cases f with
     |zero=>omega
     |succ f=>show _=if r%p=0 then _ else _;rw[bU hz]
    simp(disch:=omega)only[go_sem,em,z0,dz]
    exact⟨f5,k,r,aB rfl,eq,r1,e⟩
  rintro d h5 ⟨f5,k,r,⟨g,rfl⟩,d5,r1,d8⟩
  have F5:=F4.trans f5
  have c2:=fr.mono ((a1.trans f4).trans f5)
  have c7:fY q=Du p k q r:=by
   unfold fY;rw[←ep,←d8]
  have J:kY (sz.take (i+1))=kY (sz.take i)++Du p k q r:=by
   have:=Dg sz (i- 1) om;simp only[show i- 1+2=i+1 by omega,show i- 1+1=i by omega] at this;rw[N i Y,N (i- 1) U,o,c7] at this;exact this
  have a2:2^(kY (sz.take (i+1))).length<=sz.getD (i+1- 1) 0:=by
   rw[J,iV,Nat.pow_add,Nat.add_sub_cancel,List.getD,dD om,Option.getD_some,N i Y];rw[List.getD,dD om,Option.getD_some,N (i- 1) U] at bd;exact mY (Nat.mul_le_mul bd (VD p2 q2 d5 r1)) q3
  have h0:b<=h5.next:=by have:=F5.next;omega
  have f0: ∀{m s:Nat},2^m<=s->s<=5040->m<20:=λ{m s} h1 h2=>Jj λh=>by
   have:=Nat.pow_le_pow_right (show 0<2 by omega) (show 20<=m by omega);have e:2^20=1048576:=rfl;omega
  have a0:=f0 a2 (b5 _)
  have a5:(∀x∈Du p k q r,x.1<1000000)-> ∀x∈kY (sz.take (i+1)),x.1<1000000:=λh x P=>by
   rw[J] at P;exact (oD.1 P).elim (sm x) (h x)
  rw[J,iV] at a0
  by_cases a4:r=1
  ·have d2:decide ((r:Int)=1)=true:=cI om
   have ef:Du p k q r=List.replicate k (p,67::tI p):=by unfold Du;rw[bJ a4]
   rw[ef,List.length_replicate] at a0
   have e9:=a5 (by rw[ef];exact λx P=>by rw[(List.mem_replicate.1 P).2];show p<_;omega)
   simp(disch:=omega)only[go_sem,d2]
   refine bQ (λvs h'=> ∃t,(∃g:Nat->V,vs= [g 0,g 1,g 2,g 3,vl,g 5,t,aC i,g 8,g 9,g 10,g 11,g 12,g 13,g 14,g 15,g 16,g 17,g 18,g 19,g 20,g 21,g 22,g 23,g 24,g 25,g 26,g 27,g 28,g 29])/\FO b h' t (kY (sz.take i)++List.replicate k (p,67::tI p))/\Fr h2 h') ?_ ?_
   ·refine aI (λB d h'=> ∃(j:Nat) (t:V),(∃g:Nat->V,d= [g 0,g 1,g 2,g 3,vl,g 5,t,aC i,g 8,aC p,g 10,g 11,g 12,g 13,g 14,g 15,g 16,g 17,g 18,g 19,g 20,g 21,aC k,aC j,g 24,g 25,g 26,g 27,g 28,g 29])/\j<=k/\FO b h' t (kY (sz.take i)++List.replicate j (p,67::tI p))/\Fr h2 h'/\B=k-j) k
     ⟨0,z,aB rfl,iB _,by rw[List.replicate_zero,tZ];exact c2,F5,rfl⟩ ?_
    rintro B d h6 ⟨j,w6,⟨g,rfl⟩,g2,Z,F6,rfl⟩
    by_cases b2:(j:Int)<(k:Int)
    case neg=>
     have d3:=bI b2;obtain rfl:j=k:=om
     simp(disch:=omega)only[go_sem,d3];exact⟨w6,aB rfl,Z,F6⟩
    have d3:=cI b2
    simp(disch:=omega)only[go_sem,d3]
    refine (abK p h6 om).mono ?_
    rintro _ h7 ⟨rfl,f7⟩
    have dl:=AH p
    obtain⟨D,hD⟩:=exI h7.next
    obtain⟨h8,e8,n8,g8,q8,f8⟩:=dK hD (Kp (p,67::tI p))
    have n7:=F6.next
    have g4:=f7.next
    obtain⟨t,h9,a9,b0,n9,o9⟩:=FM (x:=(p,67::tI p)) ((Z.mono f7).mono f8) om (by rw[iV,List.length_replicate];omega) om g8
    have c8:adQ h7 (.str [67]) (.str (tI p))=some (.str (67::tI p),h7):=QU h7 (a:= [67]) (b:=tI p) (by show 1+_<_;omega)
    simp(disch:=omega)only[go_sem,IK,c8,Xi,VV,hD,e8,a9]
    rw[fJ j]
    exact⟨k-(j+1),om,j+1,t,aB rfl,om,by rw[List.replicate_succ',←Lz];exact b0,⟨om,λq' a3=>by rw[o9 q' om,q8 q' om,f7.get q' om];exact F6.get q' a3⟩,rfl⟩
   rintro d h6 ⟨w6,⟨g,rfl⟩,Z,F6⟩
   simp(disch:=omega)only[go_sem]
   rw[fJ i]
   exact⟨rs.length-(i+1),om,i+1,w6,aB rfl,om,om,by rw[J,ef];exact Z,a2,e9,F6,rfl⟩
  have d2:decide ((r:Int)=1)=false:=bI om
  simp(disch:=omega)only[go_sem,d2]
  refine (PO h5).mono ?_
  rintro vt h6 ⟨c4,f6⟩
  simp(disch:=omega)only[go_sem]
  refine (QN vt Gm q h6 (by decide) om ND acU c4).mono ?_
  rintro _ h7 ⟨kk,bb,rfl,e3,e4,f7⟩
  have F7:=F5.trans (f6.trans f7)
  have b8:=c2.mono (f6.trans f7)
  cases bb with
  |false=>
   have ef:Du p k q r= []:=by
    unfold Du;rw[bU a4,List.find?_eq_none.2 λx P=>by simpa using e4 rfl x P]
   simp(disch:=omega)only[go_sem];rw[fJ i];exact⟨rs.length-(i+1),om,i+1,z,aB rfl,om,om,by rw[J,ef,tZ];exact b8,a2,a5 (by rw[ef];exact λx P=>by cases P),F7,rfl⟩
  |true=>
   obtain⟨hk,ek⟩:=e3 rfl
   have ef:Du p k q r= [(q,Gm[kk].2)]:=by
    have:=QG kk hk;rw[ek] at this;unfold Du;rw[bU a4,this]
   obtain⟨it,ot,d9,_,ct⟩:=(c4.mono f7).shape Gm.length (Hm _) om;have ck:=(ct (kk*2+1) (by rw[Hm];omega)).trans (RB hk);rw[←Nat.add_assoc] at ck;obtain⟨D,hD⟩:=exI h7.next;obtain⟨h8,e8,n8,g8,q8,f8⟩:=dK hD (Kp (q,Gm[kk].2));have n7:=F7.next;obtain⟨t,h9,a9,b0,n9,o9⟩:=FM (x:=(q,Gm[kk].2)) (b8.mono f8) om om om g8;simp(disch:=omega)only[go_sem,d9.ixa,ck,Xi,VV,hD,e8,a9];rw[fJ i];exact⟨rs.length-(i+1),om,i+1,t,aB rfl,om,om,by rw[J,ef];exact b0,a2,a5 (by rw[ef];exact λx P=>by rw[List.mem_singleton.1 P];show q<_;omega),⟨om,λq' a3=>by rw[o9 q' om,q8 q' om];exact F7.get q' a3⟩,rfl⟩
 rintro d Q ⟨z,⟨g,rfl⟩,fr,bd,sm,F⟩
 have nF:=F.next
 have a0:(kY sz).length<20:=Jj λh=>by
  have:=Nat.pow_le_pow_right (show 0<2 by omega) (show 20<=(kY sz).length by omega);have e:2^20=1048576:=rfl;omega
 simp(disch:=omega)only[go_sem]
 refine (fr.sort om a0 sm).mono ?_
 rintro w3 h3 ⟨b3,n3,o3⟩
 have F3:Fr h2 h3:=⟨om,λq o=>by rw[o3 q om,F.get q o]⟩
 obtain⟨y,b4⟩:=exI (Ke (kY sz))
 have d6:=Uq (kY sz)
 rw[b4] at b3 d6
 have en:Dv rs=y.map Prod.snd:=by unfold Dv;rw[a6,b4]
 have c1:SV h3 z 2 (Dw y):=b3.own.sv
 have d0:=Zi c1
 simp(disch:=omega)only[go_sem,d0]
 refine aI (λB d h'=> ∃(j:Nat) (w:V),(∃g:Nat->V,d= [g 0,g 1,g 2,g 3,g 4,g 5,g 6,g 7,g 8,g 9,g 10,g 11,g 12,g 13,g 14,w,g 16,g 17,g 18,g 19,g 20,g 21,g 22,g 23,g 24,g 25,z,aC (y.length:Int),aC j,g 29])/\j<=y.length/\dH h' w 1 ((y.take j).map λx=>V.str x.2) h3.next/\Fr h3 h'/\B=y.length-j) y.length
  ⟨0,.aD,aB rfl,iB _,dH.aD _ _ _,Fr.refl _,rfl⟩ ?_
 rintro B d h4 ⟨j,w,⟨g,rfl⟩,hj,ow,F4,rfl⟩
 by_cases W:(j:Int)<(y.length:Int)
 case neg=>
  have d1:=bI W;obtain rfl:j=y.length:=om
  rw[List.take_length] at ow;simp(disch:=omega)only[go_sem,d1];refine⟨w,L,K,rs,rfl,eL,ik,cl,by rw[en,List.map_map];exact ow.sv,by rw[en,iA];omega,f1.trans (f2.trans (F3.trans F4))⟩
 have d1:=cI W
 have b6:j<y.length:=om
 obtain⟨ij,oj,c9,rj,_⟩:=Wq (c1.mono F4) b6
 obtain⟨C,hC⟩:=exI h4.next
 obtain⟨h5,e5,n5,g5,q5,f5⟩:=dK hC [aC 0,.str []]
 obtain⟨h6,e6,n6,g6,q6⟩:=mV h5 C (Kp y[j])
 obtain⟨h7,e7,n7,g7,q7,f7⟩:=dK (h:=h6) (n6.trans n5) [.str y[j].2]
 have c0:Fr h4 h7:=⟨om,λq o=>by rw[q7 q om,q6 q om,q5 q om]⟩
 have n4:=F4.next
 have lt:((y.take j).map λx=>V.str x.2).length=j:=by rw[iA,zO,Nat.min_eq_left hj]
 obtain⟨h8,a8,p8⟩:=((ow.fr c0).le (iB _)).push (bytes:=16) (SV.one om g7 (.kn 1)) (n:=j) (m:=1) om rfl om om om
 have n8:=p8.next
 have c6: ∀(o:H) (id:Nat),eU (aF [aC 0,.str []]) o id 0 (Kp y[j])=some (o.set id (aF (Kp y[j]))):=λo id=>by simp [eU,putAt]
 have d7: ∀(o:H) (s:List Nat),mH o 1 [.str []] 1 [(0,1,.str s)]=some (.sl o.next 0 1 (.kn 1),o.new (.cells false [.str s])):=λo s=>cK o rfl rfl
 simp(disch:=omega)only[go_sem,d1,c9.ixa,rj,hC,e5,vB _ C 0 (a:= aC (y[j].1:Int)) (b:= .str y[j].2) rfl rfl,g5,c6,e6,H.cell_of g6,d7,n6,n5,e7,a8]
 rw[fJ j]
 refine⟨y.length-(j+1),om,j+1,_,aB rfl,om,?_,⟨om,λq o=>?_⟩,rfl⟩
 ·rw[List.take_succ_eq_append_getElem b6,List.map_append]
  exact p8.own om rfl om
 ·rw[p8.old q om λid g9 m c e e2=>by have:=(ow.in _ _ _ _ e).2.1;omega,c0.get q om]
  exact F4.get q o
end
structure BsJ (n:Nat)(D:Nat)(lf:List (V×V))(fd ls:List (List Nat))(vb:V)(hh:H):Prop where
 cl: ∃a b c,hh.get D=some (.cells false [a,b,c])
 ex:(ls= []/\vb= .aD)∨(ls≠ []/\ ∃j,∃hj:j<lf.length,fd.getD j []=JE ls/\SI hh vb (zi (JE ls))/\(∃id off m c,vb= .sl id off m c/\id≠D)/\hh.get D=some (.cells false [.int .i64 (n:Int),lf[j].1,lf[j].2]))
theorem BsJ.mono {n D:Nat}{lf:List (V×V)}{d ls:List (List Nat)}{g:V}{hh h':H}(b:BsJ n D lf d ls g hh)(f:Fr hh h')(a:D<hh.next):BsJ n D lf d ls g h':=by
 obtain⟨⟨x,y,z,c⟩,e⟩:=b;refine⟨⟨x,y,z,by rw[f.get D a];exact c⟩,e.imp id λ⟨h,j,hj,h2,h3,h4,h5⟩=>⟨h,j,hj,h2,h3.mono f,h4,by rw[f.get D a];exact h5⟩⟩
set_option maxHeartbeats 16000000
theorem OD (i:V)(d:Int)(O:List (List Int))(R:List (List (List Int)))(h:H)(l:YD h i d O R)(o:d<=7∨64<d)(y:Bf O)(sr:Pw R)(j:Wa d O R≠0):
  Ev T 46 [i] h (λv h'=>v= .tup [.nilp,.int .i64 (Wa d O R)]/\Fr h h'):=by
 have f:=l
 obtain⟨e,c,rfl,s,x⟩:=l
 refine dW tA rfl ?_
 have a:e.one=true:=by obtain⟨_,t,_⟩:=s;exact t.cT.2.1
 have b:c.one=true:=by obtain⟨_,t,_⟩:=x;exact t.cT.2.1
 obtain⟨B,k⟩: ∃B,h.next=B:=⟨_,rfl⟩
 obtain⟨m,r,A,n,F,g⟩:=dK k [.int .i64 d,e,c]
 simp(disch:=omega)only[go_sem,tA,aE,bV h (v:= .int .i64 d) (u:=e) (w:=c) rfl a b,k,r,aJ n]
 refine (MN _ d O R m (f.mono g) o y sr j).mono ?_
 rintro _ z ⟨rfl,q⟩
 have p:decide (Wa d O R≠0)=true:=decide_eq_true j
 simp(disch:=omega)only[go_sem,p]
 exact g.trans q
theorem Yj (i:V)(d:Int)(O:List (List Int))(R:List (List (List Int)))(h:H)(l:YD h i d O R)(o:d<=7∨64<d)(y:Bf O)(sr:Pw R)(j:Wa d O R≠0):
  Ev T 26 [i] h (λv h'=>v= .tup [.aD,.int .i64 (Wa d O R)]/\Fr h h'):=by
 have f:=l
 obtain⟨e,c,rfl,s,x⟩:=l
 refine dW zS rfl ?_
 have a:e.one=true:=by obtain⟨_,t,_⟩:=s;exact t.cT.2.1
 have b:c.one=true:=by obtain⟨_,t,_⟩:=x;exact t.cT.2.1
 obtain⟨B,k⟩: ∃B,h.next=B:=⟨_,rfl⟩
 obtain⟨m,r,A,n,F,g⟩:=dK k [.int .i64 d,e,c]
 simp(disch:=omega)only[go_sem,zS,aE,bV h (v:= .int .i64 d) (u:=e) (w:=c) rfl a b,k,r,aJ n]
 refine (OD _ d O R m (f.mono g) o y sr j).mono ?_
 rintro _ z ⟨rfl,q⟩
 have p:decide (Wa d O R≠0)=true:=decide_eq_true j
 simp(disch:=omega)only[go_sem,p]
 exact g.trans q
theorem Py (i:V)(d:Int)(O:List (List Int))(R:List (List (List Int)))(h:H)(l:YD h i d O R)(o:d<=7∨64<d)(y:Bf O)(sr:Pw R)(j:Wa d O R≠0):
  Ev T 27 [i] h (λv h'=>v= .tup [.aD,.int .i64 (Wa d O R)]/\Fr h h'):=by
 have f:=l
 obtain⟨e,c,rfl,s,x⟩:=l
 refine dW iP rfl ?_
 have a:e.one=true:=by obtain⟨_,t,_⟩:=s;exact t.cT.2.1
 have b:c.one=true:=by obtain⟨_,t,_⟩:=x;exact t.cT.2.1
 obtain⟨B,k⟩: ∃B,h.next=B:=⟨_,rfl⟩
 obtain⟨m,r,A,n,F,g⟩:=dK k [.int .i64 d,e,c]
 simp(disch:=omega)only[go_sem,iP,aE,bV h (v:= .int .i64 d) (u:=e) (w:=c) rfl a b,k,r,aJ n]
 refine (IG _ d O R m (f.mono g) o y sr j).mono ?_
 rintro _ z ⟨rfl,q⟩
 have p:decide (Wa d O R≠0)=true:=decide_eq_true j
 simp(disch:=omega)only[go_sem,p]
 exact g.trans q
theorem EH {h:H}{v:V}{sz b n k:Nat}{ws:List V}(o:dH h v sz ws b)(l:ws.length=n*sz)(x:0<sz)(f:k<=n):
  ∃v1 v2,rY sz v none (some (.int .i64 (k:Int))) none=some v1/\rY sz v (some (.int .i64 (k:Int))) none none=some v2/\SV h v1 sz (ws.take (k*sz))/\SV h v2 sz (ws.drop (k*sz)):=by
 rcases o with ⟨rfl,rfl⟩|⟨id,c,w,e,rfl,g,s,y,r,p⟩
 ·have t:n*sz=0:=l.symm
  have:n=0:=by
   rcases Nat.mul_eq_zero.1 t with h|h
   ·exact h
   ·omega
  obtain rfl:k=0:=om
  exact⟨.aD,.aD,by simp [rY,nP],by simp [rY,nP],by rw[List.take_nil];exact SV.aD _ _,by rw[List.drop_nil];exact SV.aD _ _⟩
 ·have:c=n:=Nat.eq_of_mul_eq_mul_right x (g.symm.trans l)
  subst this
  have z:k*sz<=c*sz:=Nat.mul_le_mul_right _ f
  have j: ∀a,SV h (.sl id 0 k a) sz (ws.take (k*sz)):=λa=> .inr ⟨id,0,k,a,false,ws++e,rfl,by rw[zO];omega,r,p,by rw[iV];omega,by rw[List.drop_zero,List.take_append_of_le_length om]⟩
  have i: ∀a d,(k<c->d=k*sz)->(c<=k->d=0)->SV h (.sl id d (c-k) a) sz (ws.drop (k*sz)):=λa d q u=>by
   have m:(c-k)*sz=c*sz-k*sz:=Nat.sub_mul _ _ _;refine .inr ⟨id,d,c-k,a,false,ws++e,rfl,by rw[Gb,m,g],r,p,?_,?_⟩
   ·rw[iV,m]
    rcases Nat.lt_or_ge k c with h|h
    ·rw[q h];omega
    ·rw[u h];omega
   ·rcases Nat.lt_or_ge k c with h|h
    ·rw[q h,List.drop_append_of_le_length om,List.take_append_of_le_length (by rw[Gb];omega),Ro (by rw[Gb];omega)]
    ·obtain rfl:k=c:=om
     rw[Nat.sub_self,Nat.zero_mul,List.take_zero,List.drop_eq_nil_of_le om]
  rcases s with rfl|⟨rfl,rfl⟩
  ·refine⟨_,_,?_,?_,j (.un sz),i (.un sz) (if k<c then k*sz else 0) (λh=>bJ h) (λh=>bU om)⟩
   ·by_cases h:0<c
    ·simp [rY,nP,f,h]
    ·simp [rY,nP,f,h];omega
   ·by_cases h:k<c
    ·simp [rY,nP,f,h]
    ·simp [rY,nP,f,h];omega
  ·refine⟨_,_,?_,?_,j (.kn c),i (.kn (c-k)) (if k<c then k*sz else 0) (λh=>bJ h) (λh=>bU om)⟩
   ·by_cases h:c=0
    ·obtain rfl:k=0:=om
     simp [rY,nP,h]
    ·simp [rY,nP,f,h]
   ·by_cases h:k<c
    ·simp [rY,nP,f,h,show c≠k by omega]
    ·obtain rfl:k=c:=om
     simp [rY,nP]
theorem abF {d:H}{p P:V}{xs A B:List V}{bytes sz o u a b:Nat}(k:0<sz)(R:SV d p sz A)(Y:SV d P sz B)(g:A.length=a*sz)(lb:B.length=b*sz)(t:xs.length=1*sz)(ha:a<1000000)(a0:b<1000000)(w:bytes<=56)(ho:0<o)(ht:o<u):
  ∃v1 h1 h2 v2 h3 v3 h4,zK (H.mk ((H.mk d.tr d.next).new (.cells false [])).tr (d.next+u)) sz bytes (.sl d.next 0 0 (.kn 0)) p=some (v1,h1)/\Fr d h1/\H.mk ((H.mk h1.tr (d.next+o)).new (.cells false xs)).tr h1.next=h2/\
   zK h2 sz bytes v1 (.sl (d.next+o) 0 1 (.kn 1))=some (v2,h3)/\zK h3 sz bytes v2 P=some (v3,h4)/\dH h4 v3 sz (A++xs++B) 0/\Fr d h4:=by
 have G: ∀l:Nat,l<=4000000->(2*l+1000)*bytes<=2^48/\l<2^62:=λl hl=>by
  have:=Nat.mul_le_mul (show 2*l+1000<=8001000 by omega) w
  have e:2^48=281474976710656:=rfl;omega
 have h:0*sz=0:=Nat.zero_mul _
 obtain⟨j,e0,n0,W,o0⟩:=KW d d.next (d.next+u) []
 have r:Fr d j:=⟨om,λq i=>o0 q om⟩
 have v:dH j (.sl d.next 0 0 (.kn 0)) sz [] d.next:= .inr ⟨d.next,0,_, [],rfl,h.symm,.inr ⟨rfl,rfl⟩,dT _,om,W⟩
 have first: ∃v1 h1,zK j sz bytes (.sl d.next 0 0 (.kn 0)) p=some (v1,h1)/\dH h1 v1 sz A d.next/\Fr d h1/\d.next+u<=h1.next/\ ∀id f m c,v1= .sl id f m c->id≠d.next+o:=by
  by_cases Z:a=0
  ·subst Z
   rw[h] at g;have y:A= []:=ON g;subst y;have N:=R.mono r
   have a2:zK j sz bytes (.sl d.next 0 0 (.kn 0)) p=some (.sl d.next 0 0 (.kn 0),j):=by
    simp only[zK,N.len (n:=0) h.symm k,N.slice];unfold Ay.Fj;simp only[v.sv.len (n:=0) h.symm k,v.sv.slice];rw[bJ trivial]
   exact⟨_,_,a2,v,r,om,λid f m c e=>by cases e;omega⟩
  ·obtain⟨h1,L,x⟩:=v.push (bytes:=bytes) (R.mono r) (n:=0) (m:=a) h.symm g k om (G _ om)
   have n1:=x.next;refine⟨_,h1,L,x.own h.symm g om,⟨om,λq i=>?_⟩,om,λid f m c e=>by cases e;omega⟩;rw[x.old q om (λid f m c e J=>by cases e;omega)];exact r.get q i
 obtain⟨v1,h1,L,w1,z,n1,ne⟩:=first
 obtain⟨h2,J,n2,g2,U⟩:=KW h1 (d.next+o) h1.next xs
 have Q:dH h2 v1 sz A d.next:=w1.tU om λid f m c e _=>U id (ne id f m c e)
 have s:Fr d h2:=⟨by have:=z.next;omega,λq i=>by rw[U q om];exact z.get q i⟩
 obtain⟨h3,a3,K⟩:=Q.push (bytes:=bytes) (SV.all (sz:=sz) (len:=1) t om g2 (.kn 1)) (n:=a) (m:=1) g t k om (G _ om)
 have n3:=K.next
 have F:Fr d h3:=⟨by have:=s.next;omega,λq i=>by rw[K.old q (by have:=s.next;omega) (λid f m c e J=>by have:=(Q.in _ _ _ _ e).2.1;omega)];exact s.get q i⟩
 have w3:dH h3 (.sl h2.next 0 (a+1) (.un sz)) sz (A++xs) d.next:=K.own g t (by have:=s.next;omega)
 obtain⟨v3,h4,a4,O⟩:=w3.app (bytes:=bytes) (by have:=F.next;omega) (Y.mono F) (n:=a+1) (m:=b) (by rw[iV,g,t,Nat.add_mul]) lb k (G _ om)
 exact⟨v1,h1,h2,_,h3,v3,h4,by rw[e0];exact L,z,J,a3,a4,O.own.le (iB _),O.fr d F (dT _)⟩
theorem WI {c:List (List Nat)}{r:List Nat}{k:Nat}(h:c.Pairwise λa b=>OW a b=true)(i: ∀y∈c.take k,OW y r=true)(h2: ∀(hk:k<c.length),OW c[k] r=false/\c[k]≠r):(c.take k++ [r]++c.drop k).Pairwise λa b=>OW a b=true:=by
 have j: ∀y∈c.drop k,OW r y=true:=λy d=>by
  have hk:k<c.length:=by
   rcases Nat.lt_or_ge k c.length with h|h
   ·exact h
   ·rw[List.drop_eq_nil_of_le h] at d;cases d
  obtain⟨n,m⟩:=h2 hk
  have l:OW r c[k]=true:=by
   cases h3:OW r c[k] with
   |true=>rfl
   |false=>exact absurd (adB n h3) m
  have pw:=h.sublist (List.drop_sublist k c);rw[Zh hk] at d pw;rcases vI.1 d with e|d
  ·rw[e];exact l
  ·exact Dm.trans _ _ _ l ((List.pairwise_cons.1 pw).1 y d)
 rw[Lz];refine List.pairwise_append.2 ⟨h.sublist (List.take_sublist k c),List.pairwise_cons.2 ⟨j,h.sublist (List.drop_sublist k c)⟩,λa g b f=>?_⟩;rcases vI.1 f with e|f
 ·rw[e];exact i a g
 ·exact Dm.trans _ _ _ (i a g) (j b f)
theorem Tp {α β:Type}{P:α->β->Prop}{xs:List α}{c:List β}{a:α}{b:β}(h:aN P xs c)(g:P a b)(k:Nat):aN P (xs.take k++ [a]++xs.drop k) (c.take k++ [b]++c.drop k):=by
 have j:=aN.length h
 have t:aN P (xs.take k) (c.take k):=aN.eM (by rw[zO,zO,j]) λi e f=>by
  rw[List.getElem_take,List.getElem_take];rw[zO] at e f;exact aN.get h i om om
 have d:aN P (xs.drop k) (c.drop k):=aN.eM (by rw[Gb,Gb,j]) λi e f=>by
  rw[List.getElem_drop,List.getElem_drop];rw[Gb] at e f;exact aN.get h _ om om
 exact aN.append (aN.append t ⟨g,trivial⟩) d
structure RnJ (n:Nat)(G:List Nat->Prop)(L:List (List Nat))(bot:List Nat)(b:Nat)(v8:V)(lf:List (V×V))(fd fs0:List (List Nat))(hx:H)(v6:V)(ls:List (V×V))(fs:List (List Nat)):Prop where
 ow:dH hx v6 3 (Mj n ls) b
 al:aN (BM (bY v6) n L hx) ls fs
 nd:fs.Nodup
 all: ∀a∈fs,yW n G L a
 hb:bot∈fs
 pre: ∀t,t<fs0.length->fs.getD t []=fs0.getD t []
 len:fs0.length<=fs.length
 sub: ∀a∈fs0,a∈fs
 s8:SV hx v8 3 (Mj n lf)
 o8:Ej (bY v6) v8
 a8:aN (BM (bY v6) n L hx) lf fd
theorem RnJ.mono {n:Nat}{G:List Nat->Prop}{L:List (List Nat)}{a:List Nat}{b:Nat}{e g:V}{lf ls:List (V×V)}{i c d:List (List Nat)}{h h':H}(j:RnJ n G L a b e lf i c h g ls d)(f:Fr h h'):RnJ n G L a b e lf i c h' g ls d:=
 ⟨j.ow.fr f,aN.mono (λ_ _ x=>BM.go x (Fx.of f) λ_ _ h=>h) j.al,j.nd,j.all,j.hb,j.pre,j.len,j.sub,j.s8.mono f,j.o8,aN.mono (λ_ _ x=>BM.go x (Fx.of f) λ_ _ h=>h) j.a8⟩
theorem Zn {W0:Nat->Prop}(vc:V)(n:Nat)(O:List (List Nat))(R:List (List (List Nat)))(G:List Nat->Prop)(L:List (List Nat))(K:List Nat)(h:H)(gc:GC W0 h vc n O R G)(hL:dM O R n 0 (aX n)=L)(ik:Ab n G L K):
  Ev T 27 [vc] h (aiK n G L h):=by
 obtain⟨vO,vR,rfl,j3,j5⟩:=gc.shape
 have n0:=gc.n0
 have n7:=gc.n7
 have hG:=gc.cY
 obtain⟨E,ll⟩:=dB gc.cY gc.isc
 have t2:=jE gc
 rw[hL] at E ll
 have kl:K.length<=L.length:=by
  have:=List.Nodup.length_le_of_subset (l₂:=List.range L.length) ik.nd λx Y=>Dj.2 (ik.lt Y)
  rwa [Xf] at this
 refine dW iP rfl ?_
 obtain⟨B,hB⟩: ∃B,h.next=B:=⟨_,rfl⟩
 obtain⟨h1,e1,n1,g1,o1,f1⟩:=dK hB [.int .i64 (n:Int),vO,vR]
 have bx:=bV h (v:= .int .i64 (n:Int)) (u:=vO) (w:=vR) rfl j3 j5
 simp(disch:=omega)only[go_sem,iP,aE,bx,hB,e1,aJ g1]
 refine (Wj _ n O R G h1 (gc.mono f1)).mono ?_
 rintro _ h2 ⟨rfl,f2⟩
 have F2:=f1.trans f2
 have g2:h2.get B=some (.cells false [.int .i64 (n:Int),vO,vR]):=by rw[f2.get _ om];exact g1
 have d0:decide ((0:Int)≠0)=false:=rfl
 simp(disch:=omega)only[go_sem,d0,H.cell_of g2]
 refine (rL .aD n [] h2 n0 n7 (by show 0<=4096;omega) ⟨[],SV.aD h2 1,trivial⟩ (λg hg=>by cases hg)).mono ?_
 rintro _ h3 ⟨vm,Om,Rm,rfl,gm,f3⟩
 obtain⟨mO,mR,rfl,j4,i9⟩:=gm.shape
 have eg: ∀x,bM n (· ∈([]:List (List Nat))) x↔RG L (Lf L λx=>x=aX n) x:=λx=>Iff.trans ⟨λh=>by
  have e: ∀g,g∈([]:List (List Nat))->g=aX n:=λg hg=>by cases hg
  have r:=bM.le (Um n) e h
  exact r,λh=>by rw[h];exact .one⟩ ((zH L λx=>x=aX n).iff E (λx Y=>by rw[Y];exact hG.one) x)
 obtain⟨A,hA⟩: ∃A,h3.next=A:=⟨_,rfl⟩
 obtain⟨h4,e4,n4,g4,o4,f4⟩:=dK hA [.int .i64 0,.aD,.aD]
 obtain⟨h5,e5,n5,g5,o5⟩:=mV h4 A [.int .i64 (n:Int),mO,mR]
 obtain⟨h6,e6,n6,g6,o6,f6⟩:=dK (h:=h5) (ID:=A+1) om [.int .i64 (n:Int),mO,mR]
 have l2:=f2.next
 have l3:=f3.next
 have i8:Fr h3 h6:=⟨om,λq hq=>by rw[o6 q om,o5 q om,o4 q om]⟩
 have F6:Fr h h6:=F2.trans (f3.trans i8)
 have j0:h6.get (A+1)=some (.cells false [.int .i64 (n:Int),mO,mR]):=g6
 simp(disch:=omega)only[go_sem,hA,e4,cF h4 A 0 (v:= .int .i64 (n:Int)) (u:=mO) (w:=mR) rfl j4 i9,g4,cH,e5,aJ g5,Va h5 j4 i9,show h5.next=A+1 by omega,e6]
 have i3:BM (bY (.sl (A+1) 0 1 (.kn 1))) n L h6 (mO,mR) (Lf L λx=>x=aX n):=⟨Om,Rm,((gm.kO (W':=bY (.sl (A+1) 0 1 (.kn 1))) λq h1 h2=>by
  obtain⟨_,_,_,e⟩:=h2
  cases e;omega).mono i8).congr eg⟩
 clear gm g5 o4 o5 o6 g6 e4 e5 e6
 obtain⟨f0,g0⟩: ∃b,(Lf L λx=>x=aX n)=b:=⟨_,rfl⟩
 have g3:=EB hG E
 rw[g0] at i3 g3
 refine aI (λk' Q hh=> ∃(i:Nat) (v6:V) (ls:List (V×V)) (N:List (List Nat)),(∃g:Nat->V,Q= [g 0,.ptr B 0,g 2,g 3,g 4,g 5,v6,.int .i64 (i:Int),g 8,g 9,g 10,g 11,g 12,g 13,g 14,g 15,g 16,g 17,g 18,g 19,g 20,g 21,g 22,g 23,g 24])/\i<=N.length/\dH hh v6 3 (Mj n ls) (A+1)/\aN (BM (bY v6) n L hh) ls N/\N.Nodup/\(∀a∈N,yW n G L a)/\f0∈N/\(∀t,t<i-> ∀a∈GZ n G L (N.getD t []) K,a∈N)/\Fr h3 hh/\N.length<=200/\k'=201-i) 201
  ⟨0,_, [(mO,mR)], [f0],aB rfl,iB _,.inr ⟨A+1,1,_, [],rfl,rfl,.inr ⟨rfl,rfl⟩,om,om,j0⟩,⟨i3,trivial⟩,List.pairwise_singleton _ _,λa ha=>by rw[List.mem_singleton.1 ha];exact g3,List.mem_singleton.2 rfl,λt ht=>om,i8,by show 1<=200;omega,rfl⟩ ?_
 clear i3 j0
 rintro k' Q hh ⟨i,v6,ls,N,⟨g,rfl⟩,hi,ow,al,nd,all,hb,cl,F,l7,rfl⟩
 have c7:=aN.length al
 have Z:bL v6=some (.int .i64 (N.length:Int)):=by unfold bL;rw[SV.len ow.sv (n:=N.length) (by rw[jP,c7]) om];rfl
 by_cases k7:(i:Int)<(N.length:Int)
 case neg=>
  have d1:decide ((i:Int)<(N.length:Int))=false:=decide_eq_false k7;obtain rfl:i=N.length:=om
  simp(disch:=omega)only[go_sem,Z,d1]
  have r1: ∀t∈N,∀a∈GZ n G L t K,a∈N:=λt ht=>by
   obtain⟨j,hj,rfl⟩:=Ad.1 ht;have:=cl j hj;rwa [List.getD,dD hj] at this
  have p0:aN (BM (λ_=>False) n L hh) ls N:=aN.mono (λ_ _ x=>BM.go x (Fx.refl _ _) λ_ _ h=>h.elim) al;have i6:=ow.sv;clear al ow cl;have FF:Fr h hh:=F2.trans (f3.trans F);have gB:hh.get B=some (.cells false [.int .i64 (n:Int),vO,vR]):=by rw[F.get B om,f3.get B om];exact g2
  have b5: ∀M,yW n G L M->M∈N:=Sh hG E ik.perm (by rw[g0];exact hb) all λr hr k hk=>by
   by_cases h:k∈r
   ·exact .inl h
   ·exact .inr (r1 r hr _ (Gu.2 ⟨k,hk,h,rfl⟩))
  obtain⟨r6,o6,c8,c6⟩: ∃r6 o6,Sl v6 3 N.length r6 o6/\ ∀i (hi:i<N.length),hh.row r6 (o6+i*3) 3=some [.int .i64 (n:Int),(ls[i]'om).1,(ls[i]'om).2]/\r6<hh.next:=by
   obtain⟨id,a5,sh,q2,hc⟩:=SV.shape i6 N.length (by rw[jP,c7]) om;refine⟨id,a5,sh,λi hi=>?_⟩;obtain⟨ri,ro,b7,rC⟩:=My i6 (i:=i) om;rw[c7] at b7;obtain⟨rfl,rfl⟩:=aeC sh b7 om;exact⟨rC,q2 om⟩
  refine aI (λk' Q Y=> ∃(i:Nat) (vo vq:V) (lo:List (V×V)) (wq:List V) (s:List (List Nat)),(∃g:Nat->V,Q= [g 0,.ptr B 0,g 2,g 3,g 4,g 5,v6,g 7,g 8,g 9,g 10,g 11,vo,vq,.int .i64 (i:Int),g 15,g 16,g 17,g 18,g 19,g 20,g 21,g 22,g 23,g 24])/\i<=N.length/\dH Y vo 3 (Mj n lo) 0/\dH Y vq 1 wq 0/\aN (λv r=>SI Y v (zi r)) wq s/\aN (BM (λ_=>False) n L Y) lo s/\(s.Pairwise λa b=>OW a b=true)/\(∀r,r∈s↔r∈N.take i)/\s.length=i/\Fr hh Y/\k'=N.length-i) N.length
   ⟨0,.aD,.aD, [], [], [],aB rfl,iB _,dH.aD _ _ _,dH.aD _ _ _,trivial,trivial,List.Pairwise.nil,λr=>by simp,rfl,Fr.refl _,rfl⟩ ?_
  rintro k' Q Y ⟨i,vo,vq,lo,wq,s,⟨g,rfl⟩,hi,k6,q8,aq,ao,pw,mem,j6,fx,rfl⟩;have s6:=aN.length aq;have i5:=aN.length ao;have Z:bL v6=some (.int .i64 (N.length:Int)):=by unfold bL;rw[SV.len i6 (n:=N.length) (by rw[jP,c7]) om];rfl
  by_cases l5:(i:Int)<(N.length:Int)
  case neg=>
   have d2:decide ((i:Int)<(N.length:Int))=false:=decide_eq_false l5;obtain rfl:i=N.length:=om
   simp(disch:=omega)only[go_sem,Z,d2];refine⟨.inl ⟨vo,lo,s,rfl,⟨λr=>?_,pw⟩,om,k6.sv,ao⟩,FF.trans fx⟩;rw[mem,List.take_length];exact⟨all r,b5 r⟩
  have d2:decide ((i:Int)<(N.length:Int))=true:=decide_eq_true l5;have a0:i<N.length:=om
  obtain⟨rC,n6⟩:=c6 i a0;obtain⟨Oi,Ri,gi⟩:=aN.get p0 i om a0;have ki:=all _ (xG a0);have s4:=fx.next;have i1:Y.row r6 (o6+i*3) 3=some [.int .i64 (n:Int),(ls[i]'om).1,(ls[i]'om).2]:=by rw[DQ fx n6];exact rC
  have q6:Y.get B=some (.cells false [.int .i64 (n:Int),vO,vR]):=by rw[fx.get B (by have:=F.next;omega)];exact gB
  have i2:=(Fr.refl Y).bH (n:=Y.next+7) om
  have fi:N[i]∉N.take i:=λh=>by
   obtain⟨j,hj,e⟩:=Ad.1 h;rw[List.getElem_take] at e;rw[zO] at hj;have:=(List.getElem_inj nd).1 e;omega
  have a4: ∀y,y∈N.take (i+1)↔y∈N.take i∨y=N[i]:=λy=>by rw[List.take_succ_eq_append_getElem a0,oD,List.mem_singleton]
  generalize N[i]=r at gi ki fi a4;generalize ls[i]'(show i<ls.length by omega)=pi at gi i1;simp(disch:=omega)only[go_sem,Z,d2,aJ q6,c8.ixa,i1];refine (FN _ _ n O Oi R Ri G _ L _ (gc.mono (FF.trans (fx.trans i2))) (gi.mono (fx.trans i2)) E ki.le).mono ?_;rintro b0 P ⟨U,o0,e7,fy⟩;obtain rfl:=o0.uniq ki.rk;have b2:=i2.trans fy;have o9:U.length<=5040:=by have:=ki.rk.short;omega
  have b6:bL b0=some (.int .i64 (U.length:Int)):=by
   have:=SI.lens e7.sv;rwa [aS] at this
  have f8:=k6.fr b2;have f9:=q8.fr b2;have j9:aN (λv r=>SI P v (zi r)) wq s:=aq.mono λ_ _ x=>x.mono b2
  have e8:bL vo=some (.int .i64 (s.length:Int)):=by unfold bL;rw[SV.len f8.sv (n:=s.length) (by rw[jP,i5]) om];rfl
  obtain⟨iq,oq,i0,m6,m7⟩:=SV.shape f9.sv s.length om om
  have short: ∀y∈s,y.length<=5040:=λy P=>by
   have:=(all y (List.mem_of_mem_take ((mem y).1 P))).rk.short;omega
  have p9: ∀y∈s,y≠U:=λy P e=>fi (by rw[←e];exact (mem y).1 P)
  simp(disch:=omega)only[go_sem];refine bQ (λvs hz=> ∃k:Nat,(∃g:Nat->V,vs= [g 0,.ptr B 0,g 2,g 3,g 4,g 5,v6,g 7,g 8,g 9,g 10,g 11,vo,vq,.int .i64 (i:Int),b0,.int .i64 (k:Int),g 17,g 18,g 19,g 20,g 21,g 22,g 23,g 24])/\k<=s.length/\(∀y∈s.take k,OW y U=true)/\(∀(hk:k<s.length),OW s[k] U=false)/\Fr P hz) ?_ ?_
  ·refine aI (λk' vs hz=> ∃(k:Nat),(∃g:Nat->V,vs= [g 0,.ptr B 0,g 2,g 3,g 4,g 5,v6,g 7,g 8,g 9,g 10,g 11,vo,vq,.int .i64 (i:Int),b0,.int .i64 (k:Int),g 17,g 18,g 19,g 20,g 21,g 22,g 23,g 24])/\k<=s.length/\(∀y∈s.take k,OW y U=true)/\Fr P hz/\k'=s.length-k) s.length
    ⟨0,aB rfl,iB _,λy P=>by simp at P,Fr.refl _,rfl⟩ ?_
   rintro k' Q hz ⟨k,⟨g,rfl⟩,hk,a9,fz,rfl⟩
   by_cases l8:(k:Int)<(s.length:Int)
   case neg=>
    have d5:decide ((k:Int)<(s.length:Int))=false:=decide_eq_false l8;obtain rfl:k=s.length:=om
    simp(disch:=omega)only[go_sem,e8,d5,xX];exact⟨s.length,aB rfl,dT _,a9,λh=>absurd h (Nat.lt_irrefl _),fz⟩
   have d5:decide ((k:Int)<(s.length:Int))=true:=decide_eq_true l8;have i7:k<s.length:=om
   have ck:hz.cell iq (oq+k)=some (wq.getD k .undef):=by
    rw[fz.cell (m6 om),m7 k om,List.getD,dD om];rfl
   have sk:SI hz (wq.getD k .undef) (zi s[k]):=by
    have:=(aN.get j9 k om i7).mono fz;rwa [List.getD,dD om,Option.getD_some]
   have o2:=short _ (xG i7);have c4:=sk.lens;rw[aS] at c4
   have tk: ∀y∈s.take (k+1),OW s[k] U=true->OW y U=true:=λy P e=>by
    rw[List.take_succ_eq_append_getElem i7] at P;rcases oD.1 P with h|h
    ·exact a9 y h
    ·rw[List.mem_singleton.1 h];exact e
   generalize wq.getD k .undef=vk at ck sk c4
   by_cases c1:s[k].length<U.length
   ·have d6:decide ((s[k].length:Int)<(U.length:Int))=true:=decide_eq_true om
    simp(disch:=omega)only[go_sem,e8,d5,xX,i0.ixa,ck,c4,b6,d6];rw[show (k:Int)+1=((k+1:Nat):Int) from om];exact⟨s.length-(k+1),om,k+1,aB rfl,om,λy P=>tk y P ((HE _ _).2 (.inl c1)),fz,rfl⟩
   have d6:decide ((s[k].length:Int)<(U.length:Int))=false:=decide_eq_false om
   by_cases c2:s[k].length=U.length
   case neg=>
    have d7:decide ((s[k].length:Int)=(U.length:Int))=false:=decide_eq_false om;simp(disch:=omega)only[go_sem,e8,d5,xX,i0.ixa,ck,c4,b6,d6,d7];exact⟨k,aB rfl,hk,a9,λ_=>(PT _ _).2 λh=>h.elim c1 λh=>c2 h.1,fz⟩
   have d7:decide ((s[k].length:Int)=(U.length:Int))=true:=decide_eq_true om;simp(disch:=omega)only[go_sem,e8,d5,xX,i0.ixa,ck,c4,b6,d6,d7];refine (TO vk b0 s[k] U hz sk (e7.sv.mono fz) o2 o9).mono ?_;rintro _ hw ⟨rfl,fw⟩
   cases c3:lexB s[k] U with
   |true=>
    simp(disch:=omega)only[go_sem,xX];rw[show (k:Int)+1=((k+1:Nat):Int) from om];exact⟨s.length-(k+1),om,k+1,aB rfl,om,λy P=>tk y P ((HE _ _).2 (.inr ⟨c2,c3⟩)),fz.trans fw,rfl⟩
   |false=>
    simp(disch:=omega)only[go_sem,xX];exact⟨k,aB rfl,hk,a9,λ_=>(PT _ _).2 λh=>h.elim c1 λh=>(by have:=h.2;rw[c3] at this;cases this),fz.trans fw⟩
  rintro Q hz ⟨k,⟨g,rfl⟩,hk,a9,q9,fz⟩;have k9:Fr hh hz:=fx.trans (b2.trans fz);obtain⟨va,s7,ea,r9,sa,n8⟩:=EH (f8.fr fz) (n:=s.length) (k:=k) (by rw[jP,i5]) om hk;obtain⟨vb,s1,o7,q5,r5,m8⟩:=EH (f9.fr fz) (n:=s.length) (k:=k) om om hk;obtain⟨_,b8,b3⟩:=gi.one;have l1: ∀hw,Fr hz hw->hw.row r6 (o6+i*3) 3=some [.int .i64 (n:Int),pi.1,pi.2]:=λhw f=>by rw[DQ ((b2.trans fz).trans f) om];exact i1
  have m0:(Mj n lo).length=s.length*3:=by rw[jP,i5]
  obtain⟨v1,k1,k2,v2,k3,v3,k4,p1,i4,n3,p3,p4,r0,c9⟩:=abF (xs:= [.int .i64 (n:Int),pi.1,pi.2]) (bytes:=56) (o:=9) (u:=16) (a:=k) (b:=s.length-k) om sa n8 (by rw[zO,m0];omega) (by rw[Gb,m0];omega) rfl om om om om om;obtain⟨u1,m1,m2,u2,m3,u3,m4,p5,_,p6,p7,p8,o3,j8⟩:=abF (xs:= [b0]) (bytes:=24) (o:=6) (u:=13) (a:=k) (b:=s.length-k) om (r5.mono c9) (m8.mono c9) (by rw[zO];omega) (by rw[Gb];omega) rfl om om om om om;have b1:=Va (H.mk k1.tr (hz.next+9)) (d:=(n:Int)) b8 b3;have k8:=SV.cT e7.sv;simp(disch:=omega)only[go_sem,ea,r9,c8.ixa,l1 hz (Fr.refl _),p1,l1 k1 i4,dI,b1,n3,p3,p4,o7,q5,p5,cK (H.mk m1.tr (k4.next+6)) (z:= .aD) k8.1 k8.2.1,p6,p7,p8];have j7:=BM.eq (show BM (λ_=>False) n L hh pi U from ⟨Oi,Ri,gi⟩);have s5:hz.next<=k4.next:=c9.next;have b9:=c9.trans j8
  have e3:Mj n (lo.take k++ [pi]++lo.drop k)=(Mj n lo).take (k*3)++ [.int .i64 (n:Int),pi.1,pi.2]++(Mj n lo).drop (k*3):=by
   have e:Mj n lo=Mj n (lo.take k)++Mj n (lo.drop k):=by rw[←Wd,List.take_append_drop]
   have l:(Mj n (lo.take k)).length=k*3:=by rw[jP,zO];congr 1;omega
   rw[Wd,Wd,e,←l,List.take_left,List.drop_left]
   rfl
  have pm:(s.take k++ [U]++s.drop k).Perm (U::s):=by
   have:(s.take k++ [U]++s.drop k).Perm (U::(s.take k++s.drop k)):=by
    rw[Lz];exact List.perm_middle
   rwa [List.take_append_drop] at this
  refine⟨by simp [j7.1,j7.2],N.length-(i+1),om,i+1,v3,u3,lo.take k++ [pi]++lo.drop k,wq.take k++ [b0]++wq.drop k,s.take k++ [U]++s.drop k,by rw[show (i:Int)+1=((i+1:Nat):Int) from om];exact aB rfl,om,by rw[e3];exact r0.fr j8,by simpa using o3,Tp (j9.mono λ_ _ x=>x.mono (fz.trans b9)) (e7.sv.mono (fz.trans b9)) k,Tp (aN.mono (λ_ _ x=>BM.go x (Fx.of (b2.trans (fz.trans b9))) λ_ _ h=>h) ao) ⟨Oi,Ri,gi.mono (k9.trans b9)⟩ k,WI pw a9 λhk=>⟨q9 hk,p9 _ (xG hk)⟩,λy=>?_,by rw[pm.length_eq,List.length_cons,j6],k9.trans b9,rfl⟩;rw[pm.mem_iff,vI,a4,mem,or_comm]
 have d1:decide ((i:Int)<(N.length:Int))=true:=decide_eq_true k7
 have a0:i<N.length:=om
 have FF:Fr h hh:=F2.trans (f3.trans F)
 have nF:=F.next
 have gB:hh.get B=some (.cells false [.int .i64 (n:Int),vO,vR]):=by rw[F.get B om,f3.get B om];exact g2
 obtain⟨ri,ro,b7,rC⟩:=My ow.sv (i:=i) om
 rw[c7] at b7
 obtain⟨Oi,Ri,gi⟩:=aN.get al i om a0
 have ki:=all _ (xG a0)
 have fb:=(Fr.refl hh).bH (n:=hh.next+7) om
 simp(disch:=omega)only[go_sem,Z,d1,aJ gB,b7.ixa,rC]
 refine (NS _ _ n O Oi R Ri G L K N[i] _ (gc.mono (FF.trans fb)) (gi.mono fb) hL ik ki).mono ?_
 rintro v8 ha ⟨lf,h9,h0,fa⟩
 have d8:=fb.trans fa
 have la:=d8.next
 obtain⟨W,e0⟩: ∃W,GZ n G L N[i] K=W:=⟨_,rfl⟩
 rw[e0] at h0
 have e9:=aN.length h0
 have q0: ∀a∈W,yW n G L a:=λa ha=>by
  rw[←e0] at ha;obtain⟨i',q4,_,e⟩:=Gu.1 ha;rw[e];exact Uc hG E ki (ik.lt q4)
 have t3:W.length<=K.length:=by
  have:=TS (n:=n) (G:=G) (L:=L) (r:=N[i]) K [];rw[←e0];simpa [GZ] using this
 have q1:N.getD i []=N[i]:=by rw[List.getD,dD a0];rfl
 have k5:bL v8=some (.int .i64 (W.length:Int)):=by unfold bL;rw[SV.len h9.sv (n:=W.length) (by rw[jP,e9]) om];rfl
 have g8: ∀q,bY v6 q->A+1<=q/\q<hh.next:=λq ⟨a5,m,c,e⟩=>by
  have:=ow.in _ _ _ _ e;omega
 have l4: ∀q,bY v8 q->hh.next+7<=q/\q<ha.next:=λq ⟨a5,m,c,e⟩=>by
  have:=h9.in _ _ _ _ e;exact⟨this.2.1,this.1⟩
 have J0:RnJ n G L f0 (A+1) v8 lf W N ha v6 ls N:=by
  refine⟨ow.fr d8,aN.mono (λ_ _ x=>BM.go x (Fx.of d8) λ_ _ h=>h) al,nd,all,hb,λt ht=>rfl,dT _,λa h=>h,h9.sv,?_,aN.mono (λ_ _ x=>BM.go x (Fx.refl _ _) λq h1 h2=> .inl (by have:=g8 q h2;show q<hh.next+7;omega)) h0⟩
  cases v8 with
  |sl id a5 m c=>exact λh=>by have:=g8 id h;have:=l4 id ⟨_,_,_,rfl⟩;omega
  |_=>trivial
 simp(disch:=omega)only[go_sem]
 refine aI (λk' vs Y=> ∃(j:Nat) (v6:V) (ls:List (V×V)) (p:List (List Nat)),(∃g:Nat->V,vs= [g 0,.ptr B 0,g 2,g 3,g 4,g 5,v6,.int .i64 (i:Int),v8,.int .i64 (j:Int),g 10,g 11,g 12,g 13,g 14,g 15,g 16,g 17,g 18,g 19,g 20,g 21,g 22,g 23,g 24])/\j<=W.length/\RnJ n G L f0 (A+1) v8 lf W N Y v6 ls p/\(∀a∈W.take j,a∈p)/\p.length<=200/\Fr h3 Y/\ha.next<=Y.next/\k'=W.length-j) W.length
  ⟨0,v6,ls,N,aB rfl,iB _,J0,λa ha=>by simp at ha,l7,F.trans d8,dT _,rfl⟩ ?_
 clear J0 g8
 rintro k' Q Y ⟨j,w6,ms,p,⟨g,rfl⟩,hj,J,a6,k0,f5,t0,rfl⟩
 have s9:=f5.next
 by_cases j2:(j:Int)<(W.length:Int)
 case neg=>
  have d2:decide ((j:Int)<(W.length:Int))=false:=decide_eq_false j2;obtain rfl:j=W.length:=om
  rw[List.take_length] at a6;simp(disch:=omega)only[go_sem,k5,d2];rw[show (i:Int)+1=((i+1:Nat):Int) from om];have jl:=J.len;refine⟨201-(i+1),om,i+1,w6,ms,p,aB rfl,om,J.ow,J.al,J.nd,J.all,J.hb,λt ht a ha=>?_,f5,k0,rfl⟩;rcases Nat.lt_succ_iff_lt_or_eq.1 ht with h|rfl
  ·rw[J.pre t om] at ha
   exact J.sub a (cl t h a ha)
  ·rw[J.pre t a0,q1,e0] at ha
   exact a6 a ha
 have d2:decide ((j:Int)<(W.length:Int))=true:=decide_eq_true j2
 have g7:j<W.length:=om
 obtain⟨a,j1⟩: ∃a,W[j]=a:=⟨_,rfl⟩
 have ka:=q0 _ (xG g7)
 obtain⟨Oa,Ra,ga⟩:=aN.get J.a8 j om g7
 rw[j1] at ka ga
 have h8:=aN.length J.al
 have Z:bL w6=some (.int .i64 (p.length:Int)):=by unfold bL;rw[SV.len J.ow.sv (n:=p.length) (by rw[jP,h8]) om];rfl
 have a4: ∀y,y∈W.take (j+1)↔y∈W.take j∨y=a:=λy=>by rw[List.take_succ_eq_append_getElem g7,oD,List.mem_singleton,j1]
 obtain⟨r8,o8,a7,t4⟩:=My J.s8 (i:=j) om
 rw[e9] at a7
 simp(disch:=omega)only[go_sem,k5,d2]
 refine bQ (λvs P=>(∃g:Nat->V,vs= [g 0,.ptr B 0,g 2,g 3,g 4,g 5,w6,.int .i64 (i:Int),v8,.int .i64 (j:Int),.bool (decide (a∈p)),g 11,g 12,g 13,g 14,g 15,g 16,g 17,g 18,g 19,g 20,g 21,g 22,g 23,g 24])/\Fr Y P) ?_ ?_
 ·refine aI (λk' vs P=> ∃(m:Nat),(∃g:Nat->V,vs= [g 0,.ptr B 0,g 2,g 3,g 4,g 5,w6,.int .i64 (i:Int),v8,.int .i64 (j:Int),.bool (decide (a∈p.take m)),.int .i64 (m:Int),g 12,g 13,g 14,g 15,g 16,g 17,g 18,g 19,g 20,g 21,g 22,g 23,g 24])/\m<=p.length/\Fr Y P/\k'=p.length-m) p.length
   ⟨0,aB rfl,iB _,Fr.refl _,rfl⟩ ?_
  rintro k' Q P ⟨m,⟨g,rfl⟩,hm,fy,rfl⟩
  cases hs:decide (a∈p.take m) with
  |true=>
   have h1:a∈p:=List.mem_of_mem_take (of_decide_eq_true hs);simp(disch:=omega)only[go_sem,Bool.not_true,xX];rw[decide_eq_true h1];exact⟨aB rfl,fy⟩
  |false=>
  by_cases l0:(m:Int)<(p.length:Int)
  case neg=>
   have d3:decide ((m:Int)<(p.length:Int))=false:=decide_eq_false l0;obtain rfl:m=p.length:=om
   rw[List.take_length] at hs;simp(disch:=omega)only[go_sem,Bool.not_false,Z,d3,xX];rw[hs];exact⟨aB rfl,fy⟩
  have d3:decide ((m:Int)<(p.length:Int))=true:=decide_eq_true l0
  have h7:m<p.length:=om
  obtain⟨r6,o6,c8,r3⟩:=My (J.ow.sv.mono fy) (i:=m) om
  rw[h8] at c8
  obtain⟨n2,m9,gm⟩:=aN.get J.al m om h7
  have km:=J.all _ (xG h7)
  have a3:P.row r8 (o8+j*3) 3=some [.int .i64 (n:Int),(lf[j]'om).1,(lf[j]'om).2]:=by
   obtain⟨n9,q3,a1,b4⟩:=My (J.s8.mono fy) (i:=j) om;rw[e9] at a1;obtain⟨rfl,rfl⟩:=aeC a7 a1 om;exact b4
  have em:decide (a∈p.take (m+1))=(decide (a∈p.take m)||decide (p[m]=a)):=by
   rw[List.take_succ_eq_append_getElem h7];simp only[oD,List.mem_singleton,eq_comm (a:=a),Bool.decide_or]
  rw[hs,Bool.false_or] at em
  have g9: ∀q,P.next<=q->Fr P (H.mk P.tr q):=λq hq=>(Fr.refl P).bH hq
  simp(disch:=omega)only[go_sem,Bool.not_false,Z,d3,xX,c8.ixa,r3,a7.ixa,a3]
  refine (acO _ _ n (n2,m9) (Oa,Ra) _ _ _ (gm.mono (fy.trans (g9 _ om))) (ga.mono (fy.trans (g9 _ om)))).mono ?_
  rintro _ hz ⟨rfl,fz⟩
  rw[QS km.cY ka.cY gm.isc ga.isc km.rk ka.rk]
  simp(disch:=omega)only[go_sem]
  rw[show (m:Int)+1=((m+1:Nat):Int) from om]
  refine⟨p.length-(m+1),om,m+1,?_,om,fy.trans ((g9 _ om).trans fz),rfl⟩
  rw[em]
  exact aB rfl
 rintro Q P ⟨⟨g,rfl⟩,fy⟩
 have Jy:=J.mono fy
 have ny:=fy.next
 by_cases d9:a∈p
 ·rw[decide_eq_true d9]
  have d4:decide ((200:Int)<(p.length:Int))=false:=decide_eq_false om
  simp(disch:=omega)only[go_sem,Bool.not_true,Z,d4]
  rw[show (j:Int)+1=((j+1:Nat):Int) from om]
  exact⟨W.length-(j+1),om,j+1,w6,ms,p,aB rfl,om,Jy,λy P=>((a4 y).1 P).elim (a6 y) λe=>by rw[e];exact d9,k0,f5.trans fy,om,rfl⟩
 rw[decide_eq_false d9]
 obtain⟨_,b8,b3⟩:=ga.one
 have a3:P.row r8 (o8+j*3) 3=some [.int .i64 (n:Int),(lf[j]'om).1,(lf[j]'om).2]:=by
  obtain⟨n9,q3,a1,b4⟩:=My (J.s8.mono fy) (i:=j) om;rw[e9] at a1;obtain⟨rfl,rfl⟩:=aeC a7 a1 om;exact b4
 obtain⟨pa,q7⟩: ∃pa,lf[j]'(show j<lf.length by omega)=pa:=⟨_,rfl⟩
 rw[q7] at a3 ga b8 b3
 obtain⟨C,hC⟩: ∃C,P.next=C:=⟨_,rfl⟩
 obtain⟨k1,l9,t1,r2,r7,i4⟩:=dK hC [.int .i64 (n:Int),pa.1,pa.2]
 obtain⟨k2,a2,p2⟩:=(Jy.ow.fr i4).push (bytes:=56) (SV.all (sz:=3) (len:=1) (vs:= [.int .i64 (n:Int),pa.1,pa.2]) rfl om r2 (.kn 1)) (n:=ms.length) (m:=1) (jP n ms) rfl om om om
 have s2:=p2.next
 have ap: ∀q',¬bY w6 q'->dR w6 q':=λq' h id a5 m c e e2=>h (by rw[e,e2];exact⟨_,_,_,rfl⟩)
 have c5:Fx (bY w6) P k2:=⟨om,λq h1 h2=>by rw[p2.old q om (ap q h2),r7 q om]⟩
 have hw: ∀q,q<P.next->bY (.sl k1.next 0 (ms.length+1) (.un 3)) q->bY w6 q:=λq h1 ⟨a5,m,c,e⟩=>by cases e;omega
 have r4:aN (BM (bY (.sl k1.next 0 (ms.length+1) (.un 3))) n L k2) (ms++ [pa]) (p++ [a]):=aN.append (aN.mono (λ_ _ x=>BM.go x c5 hw) Jy.al) ⟨BM.go (⟨Oa,Ra,ga.mono fy⟩:BM (bY w6) n L P pa a) c5 hw,trivial⟩
 have l6:(p++ [a]).Nodup:=by
  have:=YM (a:=a) Jy.nd;unfold uD at this;rwa [bU d9] at this
 have c0: ∀b∈p++ [a],yW n G L b:=λb hb=>(oD.1 hb).elim (Jy.all b) λe=>by rw[List.mem_singleton.1 e];exact ka
 have m5:Fr h3 k2:=⟨om,λq hq=>by rw[c5.get q om λ⟨a5,m,c,e⟩=>by have:=(J.ow.in _ _ _ _ e).2.1;omega,fy.get q om];exact f5.get q hq⟩
 have s0:(p++ [a]).length=p.length+1:=by rw[iV];rfl
 have f7:bL (.sl k1.next 0 (ms.length+1) (.un 3))=some (.int .i64 ((p.length+1:Nat):Int)):=by rw[h8];rfl
 by_cases s3:p.length+1<=200
 case neg=>
  have d4:decide ((200:Int)<((p.length+1:Nat):Int))=true:=decide_eq_true om;simp(disch:=omega)only[go_sem,Bool.not_false,a7.ixa,a3,Va P b8 b3,hC,l9,a2,f7,d4];exact⟨.inr ⟨rfl,_,l6,c0,om⟩,F2.trans (f3.trans m5)⟩
 have d4:decide ((200:Int)<((p.length+1:Nat):Int))=false:=decide_eq_false om
 simp(disch:=omega)only[go_sem,Bool.not_false,a7.ixa,a3,Va P b8 b3,hC,l9,a2,f7,d4]
 rw[show (j:Int)+1=((j+1:Nat):Int) from om]
 refine⟨W.length-(j+1),om,j+1,_,ms++ [pa],p++ [a],aB rfl,om,⟨by rw[Wd];exact p2.own (jP n ms) rfl om,r4,l6,c0,oD.2 (.inl Jy.hb),λt ht=>?_,by have:=Jy.len;omega,λb hb=>oD.2 (.inl (Jy.sub b hb)),SV.fx Jy.s8 Jy.o8 c5,?_,aN.mono (λ_ _ x=>BM.go x c5 hw) Jy.a8⟩,λy P=>oD.2 (((a4 y).1 P).imp (a6 y) λe=>List.mem_singleton.2 e),om,m5,om,rfl⟩
 ·have:=Jy.len
  rw[OU,Dt om,←OU]
  exact Jy.pre t ht
 ·cases v8 with
  |sl id a5 m c=>exact λ⟨_,_,_,e⟩=>by cases e;have:=l4 _ ⟨_,_,_,rfl⟩;omega
  |_=>trivial
theorem aaW {h:H}{j:V}{d:Int}{O:List (List Int)}{R:List (List (List Int))}(z:YD h j d O R)(G:d<=7∨64<d)(c:Wa d O R=0):
  ∃(n:Nat) (O':LN) (R':jJ),d=(n:Int)/\O=O'.map zi/\R=R'.map (List.map zi)/\GC (λ_=>False) h j n O' R' (BZ n R'):=by
 unfold Wa at c
 split at c
 ·cases c
 ·split at c
  ·rename_i J o
   obtain⟨n,O',R',rfl,m,F,rfl,rfl,v⟩:=o
   obtain⟨q,p,rfl,x,y⟩:=z
   obtain⟨r,B,u⟩:=x
   obtain⟨t,A,k,w⟩:=y
   have b: ∀v:V,Ej (λ_=>False) v:=λv=>by cases v<;>first|exact id|trivial
   have all: ∀{f:List V} {l:LN},aN (SI h) f (l.map zi)->dZ (λ_=>False) h f l:=λ{f l} a=>by
    have e:=aN.length a;rw[iA] at e
    refine aN.eM e λi hi g=>⟨?_,b _⟩
    have:=aN.get a i hi (by rw[iA];exact g);rwa [List.getElem_map] at this
   refine⟨n,O',R',rfl,rfl,rfl,⟨q,p,r,t,rfl,B,b _,all u,A,b _,?_⟩,v.2,v.cY,m,om⟩
   have e:=aN.length k
   rw[iA] at e
   refine aN.eM e λi hi g=>?_
   have:=aN.get k i hi (by rw[iA];exact g)
   rw[List.getElem_map] at this
   obtain⟨f,s,a⟩:=this
   exact⟨f,s,b _,all a,w _ (xG _)⟩
  ·cases c
structure Sml (d:Int)(O:List (List Int))(R:List (List (List Int))):Prop where
 deg:d<=6∨64<d
 lo:O.length<=12
 lr:R.length<=12
 ro: ∀i,i<O.length->(O.getD i []).length<=12
 rr: ∀i,i<R.length->(R.getD i []).length<=12/\ ∀k,k<(R.getD i []).length->((R.getD i []).getD k []).length<=12
theorem Sml.small {d:Int}{O:List (List Int)}{R:List (List (List Int))}(s:Sml d O R):Bf O/\Pw R:=
 ⟨⟨by have:=s.lo;omega,λi hi=>by have:=s.ro i hi;omega⟩,⟨by have:=s.lr;omega,λi hi=>by have:=(s.rr i hi).1;omega⟩⟩
theorem VW (vc:V)(d:Int)(O:List (List Int))(R:List (List (List Int)))(h:H)(hc:YD h vc d O R):
  Ev T 10 [vc] h (λv h'=>(v= .bool true∨v= .bool false/\Sml d O R)/\Fr h h'):=by
 obtain⟨vO,vR,rfl,sO,sR⟩:=hc
 refine dW gK rfl ?_
 obtain⟨J,b6,_,a6,b4,a0,a8,a3,cO⟩:=fV sO
 obtain⟨lR,b5,_,a7,b0,Q,a1,n,cR⟩:=kZ sR
 obtain⟨B,hB⟩:=exI h.next
 obtain⟨c,e1,n1,g1,o1,o⟩:=dK hB [aC d,vO,vR]
 have c0: ∀b,Fr c b->b.cell B 0=some (aC d):=λb f=>by rw[f.cell om,H.cell_of g1];rfl
 have N: ∀b,Fr c b->b.cell B 1=some vO:=λb f=>by rw[f.cell om,H.cell_of g1];rfl
 have r: ∀b,Fr c b->b.cell B 2=some vR:=λb f=>by rw[f.cell om,H.cell_of g1];rfl
 have bx:=bV h (v:= aC d) (u:=vO) (w:=vR) rfl a6 a7
 have q:=Fr.refl c
 by_cases qA:6<d/\d<=64
 ·have L:decide ((6:Int)<d)=true:=cI qA.1
  have K:decide (d<=64)=true:=cI qA.2
  simp(disch:=omega)only[go_sem,gK,aE,bx,hB,e1,c0 c q,L,K]
  exact⟨.inl trivial,o⟩
 obtain⟨b2,L⟩:=exI (decide ((6:Int)<d))
 obtain⟨b3,K⟩:=exI (decide (d<=64))
 have hb:(b2&&b3)=false:=by
  rw[←L,←K,←Bool.not_eq_true,sE,Ak,Ak];exact qA
 have a9:d<=6∨64<d:=om
 by_cases q1:(12:Int)<(O.length:Int)
 ·have y1:=cI q1
  cases b2<;>cases b3<;>first|cases hb|skip
  all_goals
   simp(disch:=omega)only[go_sem,gK,aE,bx,hB,e1,c0 c q,N c q,J,L,K,y1]
   exact⟨.inl trivial,o⟩
 have y1:=bI q1
 by_cases q4:(12:Int)<(R.length:Int)
 ·have y4:=cI q4
  cases b2<;>cases b3<;>first|cases hb|skip
  all_goals
   simp(disch:=omega)only[go_sem,gK,aE,bx,hB,e1,c0 c q,N c q,J,r c q,lR,L,K,y1,y4]
   exact⟨.inl trivial,o⟩
 have y4:=bI q4
 have a4:O.length<=12:=om
 have W:R.length<=12:=om
 cases b2<;>cases b3<;>first|cases hb|skip
 all_goals
  simp(disch:=omega)only[go_sem,gK,aE,bx,hB,e1,c0 c q,N c q,J,r c q,lR,L,K,y1,y4]
  refine aI (λp a b=> ∃(i:Nat),(∃g:Nat->V,a= [g 0,.ptr B 0,g 2,aC i,g 4,g 5,g 6,g 7,g 8,g 9,g 10,g 11,g 12])/\i<=O.length/\(∀j,j<i->(O.getD j []).length<=12)/\Fr c b/\p=O.length-i) O.length
   ⟨0,aB rfl,iB _,λj A=>om,Fr.refl _,rfl⟩ ?_
  rintro p a h2 ⟨i,⟨g,rfl⟩,hi,ho,F,rfl⟩
  by_cases Y:(i:Int)<(O.length:Int)
  case pos=>
   have l:=cI Y;obtain⟨i1,ci,si⟩:=cO i om;have z:h2.cell b4 (a0+i)=some (a8.getD i V.undef):=by rw[(o.trans F).cell i1];exact ci
   have lo:=si.lens;generalize a8.getD i V.undef=vo at z lo
   by_cases q5:(12:Int)<((O.getD i []).length:Int)
   ·have G:=cI q5
    simp(disch:=omega)only[go_sem,N h2 F,J,l,a3.ixa,z,lo,G];exact⟨.inl trivial,o.trans F⟩
   ·have G:=bI q5
    simp(disch:=omega)only[go_sem,N h2 F,J,l,a3.ixa,z,lo,G];rw[fJ i]
    exact⟨O.length-(i+1),om,i+1,aB rfl,om,λj A=>by
     by_cases e:j=i
     ·subst e;omega
     ·exact ho j om,F,rfl⟩
  have l:=bI Y
  simp(disch:=omega)only[go_sem,N h2 F,J,l]
  refine aI (λp a b=> ∃(i:Nat),(∃g:Nat->V,a= [g 0,.ptr B 0,g 2,g 3,aC i,g 5,g 6,g 7,g 8,g 9,g 10,g 11,g 12])/\i<=R.length/\(∀j,j<i->(R.getD j []).length<=12/\ ∀k,k<(R.getD j []).length->((R.getD j []).getD k []).length<=12)/\Fr c b/\p=R.length-i) R.length
   ⟨0,aB rfl,iB _,λj A=>om,F,rfl⟩ ?_
  clear F l
  rintro p a h3 ⟨t,⟨g,rfl⟩,ht,hr,F,rfl⟩
  by_cases s:(t:Int)<(R.length:Int)
  case neg=>
   have l:=bI s;simp(disch:=omega)only[go_sem,r h3 F,lR,l];exact⟨.inr ⟨a9,a4,W,λj A=>ho j om,λj A=>hr j om⟩,o.trans F⟩
  have l:=cI s
  obtain⟨i1,ci,si⟩:=cR t om
  have m: ∀b,Fr c b->b.cell b0 (Q+t)=some (a1.getD t V.undef):=λb f=>by rw[(o.trans f).cell i1];exact ci
  generalize a1.getD t V.undef=vr at m si
  obtain⟨lr,_,_,_,b1,a5,U,P,cr⟩:=fV si
  by_cases q5:(12:Int)<((R.getD t []).length:Int)
  case pos=>
   have G:=cI q5;simp(disch:=omega)only[go_sem,r h3 F,lR,l,n.ixa,m h3 F,lr,G];exact⟨.inl trivial,o.trans F⟩
  have G:=bI q5
  simp(disch:=omega)only[go_sem,r h3 F,lR,l,n.ixa,m h3 F,lr,G]
  refine aI (λp a b=> ∃(k:Nat),(∃g:Nat->V,a= [g 0,.ptr B 0,g 2,g 3,aC t,aC k,g 6,g 7,g 8,g 9,g 10,g 11,g 12])/\k<=(R.getD t []).length/\(∀j,j<k->((R.getD t []).getD j []).length<=12)/\Fr c b/\p=(R.getD t []).length-k) (R.getD t []).length
   ⟨0,aB rfl,iB _,λj A=>om,F,rfl⟩ ?_
  clear F l
  rintro p a x ⟨k,⟨g,rfl⟩,hk,Z,F,rfl⟩
  by_cases a2:(k:Int)<((R.getD t []).length:Int)
  case neg=>
   have l:=bI a2;simp(disch:=omega)only[go_sem,r x F,n.ixa,m x F,lr,l];rw[fJ t]
   exact⟨R.length-(t+1),om,t+1,aB rfl,om,λj A=>by
    by_cases e:j=t
    ·subst e;exact⟨om,λp b7=>Z p om⟩
    ·exact hr j om,F,rfl⟩
  have l:=cI a2
  obtain⟨k1,ck,sk⟩:=cr k om
  have y:x.cell b1 (a5+k)=some (U.getD k V.undef):=by rw[(o.trans F).cell k1];exact ck
  generalize U.getD k V.undef=vx at y sk
  have lx:=sk.lens
  by_cases q6:(12:Int)<(((R.getD t []).getD k []).length:Int)
  case pos=>
   have y6:decide ((12:Int)<(((R.getD t []).getD k []).length:Int))=true:=cI q6;simp(disch:=omega)only[go_sem,r x F,n.ixa,m x F,lr,l,P.ixa,y,lx,y6];exact⟨.inl trivial,o.trans F⟩
  have y6:decide ((12:Int)<(((R.getD t []).getD k []).length:Int))=false:=bI q6
  simp(disch:=omega)only[go_sem,r x F,n.ixa,m x F,lr,l,P.ixa,y,lx,y6]
  rw[fJ k]
  exact⟨(R.getD t []).length-(k+1),om,k+1,aB rfl,om,λj A=>by
   by_cases e:j=k
   ·subst e;omega
   ·exact Z j om,F,rfl⟩
theorem Cc {W W':Nat->Prop}(k j:V)(n:Nat)(L:List (List Nat))(ls s:List (V×V))(l:List (List Nat))(h:H)(u:SV h k 3 (Mj n ls))(y:SV h j 3 (Mj n s))(B:aN (BM W n L h) ls l)(x:aN (BM W' n L h) s l)(Z:l.length<=6000):
  Ev T 16 [k,j] h (λv h'=>v= .bool true/\Fr h h'):=by
 refine dW mC rfl ?_
 have K:=aN.length B
 have lb:=aN.length x
 have p:bL k=some (.int .i64 (l.length:Int)):=by unfold bL;rw[SV.len u (n:=l.length) (by rw[jP,K]) om];rfl
 have J:bL j=some (.int .i64 (l.length:Int)):=by unfold bL;rw[SV.len y (n:=l.length) (by rw[jP,lb]) om];rfl
 have N:decide ((l.length:Int)≠(l.length:Int))=false:=decide_eq_false λh=>h rfl
 simp(disch:=omega)only[go_sem,mC,aE,p,J,N]
 refine aI (λz a d=> ∃(i:Nat),(∃g:Nat->V,a= [k,j,g 2,.int .i64 (i:Int),g 4,g 5,g 6])/\i<=l.length/\Fr h d/\z=l.length-i) l.length
  ⟨0,aB rfl,iB _,Fr.refl h,rfl⟩ ?_
 rintro z a d ⟨i,⟨g,rfl⟩,hi,F,rfl⟩
 by_cases f:(i:Int)<(l.length:Int)
 case neg=>
  have m:decide ((i:Int)<(l.length:Int))=false:=decide_eq_false f;simp(disch:=omega)only[go_sem,p,m];exact F
 have m:decide ((i:Int)<(l.length:Int))=true:=decide_eq_true f
 have e:i<l.length:=om
 obtain⟨r1,U,q,A⟩:=My (u.mono F) (i:=i) om
 obtain⟨r2,o2,r,w⟩:=My (y.mono F) (i:=i) om
 obtain⟨t,G,b⟩:=aN.get B i om e
 obtain⟨R,R2,c⟩:=aN.get x i om e
 generalize ls[i]'om=Y at A b
 generalize s[i]'om=Q at w c
 obtain⟨rfl,rfl⟩:=b.isc.uniq c.isc
 have o:Fr d (H.mk d.tr (d.next+10)):=(Fr.refl d).bH om
 simp(disch:=omega)only[go_sem,p,m,q.ixa,A,r.ixa,w]
 refine (acO _ _ n (t,G) (t,G) _ _ _ (b.mono (F.trans o)) (c.mono (F.trans o))).mono ?_
 rintro _ P ⟨rfl,O⟩
 simp(disch:=omega)only[go_sem,eq_self,decide_true,Bool.not_true]
 rw[show (i:Int)+1=((i+1:Nat):Int) from om]
 exact⟨l.length-(i+1),om,i+1,aB rfl,om,F.trans (o.trans O),rfl⟩
section
variable {n:Nat} {x y z a b:List Nat}
theorem ajT (A:aY n a)(Y:aY n y)(B:aY n b):aM (aM a y) (aM (bZ y) b)=aM a b:=by
 rw[aG A Y (Y.inv.mul B),←aG Y Y.inv B,cG Y,bX B]
theorem wK (X:aY n x)(Y:aY n y)(Z:aY n z):cU (aM x y) z=aM (aT (cU x z) y) (cU y z):=by
 have A:=dC X Z;have B:=dC Y Z;rw[oH (X.mul Y) Z,gX X Y Z,Av X Y,oH X Z,oH Y Z];show _=aM (aM (aM (bZ y) (aM (bZ x) (aT x z))) y) (aM (bZ y) (aT y z));rw[ajT (Y.inv.mul (X.inv.mul A)) Y B,aG Y.inv X.inv (A.mul B),aG Y.inv (X.inv.mul A) B,aG X.inv A B]
theorem vV (X:aY n x)(Y:aY n y):cU x y=aM (aT (bZ y) x) y:=by
 show aM (aM (bZ x) (bZ y)) (aM x y)=aM (aM (aM (bZ x) (bZ y)) x) y;rw[aG (X.inv.mul Y.inv) X Y]
theorem uL (X:aY n x)(Y:aY n y)(Z:aY n z):cU x (aM y z)=aM (cU x z) (aT (cU x y) z):=by
 have A:=dC Z.inv X;have B:=dC Y.inv X;rw[vV X (Y.mul Z),Av Y Z,gX Z.inv Y.inv X,vV X Z,vV X Y];show _=aM (aM (aT (bZ z) x) z) (aM (aM (bZ z) (aM (aT (bZ y) x) y)) z);rw[aG Z.inv (B.mul Y) Z,ajT A Z ((B.mul Y).mul Z),aG A B (Y.mul Z),aG B Y Z]
end
section
variable {n:Nat} {G K:List Nat->Prop} {O O':LN} {R R':jJ}
theorem oV.all (i:dO n G)(m:dO n K)(c:aV n G O R)(d:aV n K O' R'){p q:List Nat}(e:G p)(o:K q):oV n R R' (cU p q):=by
 have f:=oV.cY i m c d;have r: ∀g∈bP R,aY n g:=λg h=>i.bF (bE c h)
 have j: ∀g∈bP R',aY n g:=λg h=>m.bF (bE d h)
 have XY: ∀{p},G p-> ∀k,k∈bP R'->oV n R R' (cU p k):=λ{p} e k l=>by
  have h:=oG i c e;clear e
  induction h with
  |one=>rw[Sy (j k l)];exact f.one
  | @mul y g hy hg ih=>
   rw[wK (hy.bF r) (r g hg) (j k l)];exact f.mul (NC.cj ih (.inl hg)) (NC.of ⟨g,hg,k,l,rfl⟩)
 have h:=oG m d o;have P:=i.bF e;clear o
 induction h with
 |one=>rw[To P];exact f.one
 | @mul y g hy hg ih=>
  rw[uL P (hy.bF j) (j g hg)];exact f.mul (XY e g hg) (NC.cj ih (.inr hg))
def Eb (n:Nat)(A C D:LN)(ws:List (List (Nat×Nat))):Bool:=
 D==ws.map (λw=>w.foldl (λx i=>aM x (cU (A.getD i.1 []) (C.getD i.2 []))) (aX n))&&ws.all (λw=>w.all λi=>decide (i.1<A.length/\i.2<C.length))&&decide (D.Pairwise λx y=>sQ x y=true)&&D.all (λx=>x.length==n)&&D.contains (aX n)&&D.all (λx=>D.all λy=>D.contains (aM x y))&&D.all (λx=>D.contains (bZ x))&&A.all (λp=>C.all λq=>D.contains (cU p q))&&D.all (λy=>A.all (λg=>D.contains (aT y g))&&C.all λg=>D.contains (aT y g))
theorem Eb.AV (m:dO n G)(o:dO n K)(c:aV n G O R)(d:aV n K O' R'){A C D:LN}{ws:List (List (Nat×Nat))}(E:cZ G A)(F:cZ K C)(h:Eb n A C D ws=true):cZ (oV n R R') D:=by
 unfold Eb at h;simp only[sE,beq_iff_eq,zP,Ak,List.contains_iff_mem] at h;obtain⟨⟨⟨⟨⟨⟨⟨⟨t,v⟩,u⟩,s⟩,P⟩,Y⟩,Q⟩,N⟩,r⟩:=h;have k:=oV.cY m o c d
 have sub: ∀x,x∈D->oV n R R' x:=λx e=>by
  rw[t] at e;obtain⟨w,B,rfl⟩:=pH.1 e
  have g: ∀(w:List (Nat×Nat)) (x:List Nat),(∀i∈w,i.1<A.length/\i.2<C.length)->oV n R R' x->oV n R R' (w.foldl (λx i=>aM x (cU (A.getD i.1 []) (C.getD i.2 []))) x):=by
   intro w
   induction w with
   |nil=>exact λx _ h=>h
   |cons i w ih=>
    intro x hi e;have:=hi i (by simp);exact ih _ (λj L=>hi j (by simp [L])) (k.mul e (oV.all m o c d ((E.mem _).1 (bC this.1)) ((F.mem _).1 (bC this.2))))
  exact g w _ (v w B) k.one
 refine⟨List.Pairwise.imp_of_mem (λe f h=>(mQ (by rw[s _ e,s _ f])).1 h) u,λx=>⟨sub x,λe=>?_⟩⟩
 have W:dO n (· ∈D):=⟨λh=>k.bF (sub _ h),P,λa b=>Y _ a _ b,λa=>Q _ a⟩
 refine NC.le (H:=(· ∈D)) e W ?_ ?_
 ·rintro a ⟨p,J,q,U,rfl⟩
  exact N p ((E.mem _).2 (bE c J)) q ((F.mem _).2 (bE d U))
 ·rintro y b f (l|l)
  ·exact (r y f).1 b ((E.mem _).2 (bE c l))
  ·exact (r y f).2 b ((F.mem _).2 (bE d l))
end
set_option maxRecDepth 100000
theorem agD (h:H)(x y z w u:Int):mH h 1 [aC 0] 5 [(0,1,aC x),(1,1,aC y),(2,1,aC z),(3,1,aC w),(4,1,aC u)]=some (.sl h.next 0 5 (.kn 5),h.new (.cells false (ints [x,y,z,w,u]))):=by
 have e:dP [aC 0] 5= [aC 0,aC 0,aC 0,aC 0,aC 0]:=rfl;simp [mH,iK,e,putAt,V.cells,V.one,ints]
abbrev FC:LN:= [[1,2,3,0], [1,0,2,3]]
theorem Yc: ∀g∈FC,aY 4 g:=by
 intro g a;simp only[FC,vI,List.not_mem_nil,or_false] at a;rcases a with rfl|rfl<;>exact⟨rfl,by decide,by decide⟩
abbrev Jx:LN:= [[1,0,3,2], [2,3,0,1]]
theorem Ug: ∀g∈Jx,aY 4 g:=by
 intro g a;simp only[Jx,vI,List.not_mem_nil,or_false] at a;rcases a with rfl|rfl<;>exact⟨rfl,by decide,by decide⟩
abbrev D4g:LN:= [[1,2,3,0], [2,1,0,3]]
theorem QW: ∀g∈D4g,aY 4 g:=by
 intro g a;simp only[D4g,vI,List.not_mem_nil,or_false] at a;rcases a with rfl|rfl<;>exact⟨rfl,by decide,by decide⟩
abbrev QI:LN:= [[1,2,0,3,4], [1,2,3,4,0]]
theorem GB: ∀g∈QI,aY 5 g:=by
 intro g a;simp only[QI,vI,List.not_mem_nil,or_false] at a;rcases a with rfl|rfl<;>exact⟨rfl,by decide,by decide⟩
theorem Ls (h:H):Ev T 28 [] h (λv h'=> ∃c0 c1 c2 c3 O0 R0 O1 R1 O2 R2 O3 R3,v= .tup [c0,c1,c2,c3]/\GC (λid=>id<h.next) h' c0 4 O0 R0 (bM 4 (· ∈FC))/\GC (λid=>id<h.next) h' c1 4 O1 R1 (bM 4 (· ∈Jx))/\GC (λid=>id<h.next) h' c2 4 O2 R2 (bM 4 (· ∈D4g))/\GC (λid=>id<h.next) h' c3 5 O3 R3 (bM 5 (· ∈QI))/\Fr h h'):=by
 refine dW nK rfl ?_;obtain⟨B,hB⟩:=exI h.next;obtain⟨c,e1,n1,g1,o1,f1⟩:=dK hB [aC 0,.aD,.aD];obtain⟨x,e2,n2,g2,o2,f2⟩:=dK n1 [aC 0,.aD,.aD];obtain⟨h3,e3,n3,g3,o3,f3⟩:=dK n2 [aC 0,.aD,.aD];obtain⟨Y,e4,n4,g4,o4,f4⟩:=dK n3 [aC 0,.aD,.aD];have r3:=((f1.trans f2).trans f3).trans f4;have j9:Y.get B=aF [aC 0,.aD,.aD]:=by rw[o4 _ om,o3 _ om,o2 _ om];exact g1
 have r6:Y.get (B+1)=aF [aC 0,.aD,.aD]:=by rw[o4 _ om,o3 _ om];exact g2
 have n5:Y.get (B+1+1)=aF [aC 0,.aD,.aD]:=by rw[o4 _ om];exact g3
 have r2:Y.get (B+1+1+1)=aF [aC 0,.aD,.aD]:=by exact g4
 obtain⟨Q0,d4⟩: ∃Q,Y.next=Q:=⟨_,rfl⟩
 obtain⟨i0,l9,d0,p3,j8⟩:=YJ d4 [1,2,3,0];obtain⟨j0,i8,e5,q7,c9⟩:=YJ d0 [1,0,2,3];obtain⟨x0,m9,v1,s9,t8,g0⟩:=dK e5 [.sl Q0 0 4 (.kn 4),.sl (Q0+1) 0 4 (.kn 4)];have p2:Fr Y x0:=(j8.trans c9).trans g0;have LO:SP x0 (.sl (Q0+1+1) 0 2 (.kn 2)) FC:=SP.two (a:= [1,2,3,0]) (b:= [1,0,2,3]) (h:=j0) (p3.mono c9) q7 om g0 s9 _;simp(disch:=omega)only[go_sem,nK,aE,hB,e1,n1,e2,n2,e3,n3,e4,d4,Gh,l9,d0,i8,e5,Vf _ (nL ..) (nL ..),m9];refine (rL _ 4 FC x0 om om (by decide) LO Yc).mono ?_;rintro _ m0 ⟨c0,O0,R0,rfl,h5,d3⟩;have i5:=h5.sl;obtain⟨e,l,rfl,a0,b0,k5,s2⟩:=i5;have k:Fr Y m0:=p2.trans d3;have v4:=k.next;have t4:=d3.next;have n6:m0.get B=aF [aC 0,.aD,.aD]:=by rw[k.get _ om];exact j9
 obtain⟨L,j5,v3,p6,s⟩:=mV m0 B [aC (4:Nat),e,l];have m6:=cF m0 B 0 (v:= aC (4:Nat)) (u:=e) (w:=l) rfl a0 b0;have s8:L.get B=aF [aC (4:Nat),e,l]:=p6;have p1:L.get (B+1)=aF [aC 0,.aD,.aD]:=by rw[s _ om,k.get _ om];exact r6
 have k1:L.get (B+1+1)=aF [aC 0,.aD,.aD]:=by rw[s _ om,k.get _ om];exact n5
 have k9:L.get (B+1+1+1)=aF [aC 0,.aD,.aD]:=by rw[s _ om,k.get _ om];exact r2
 have G0:GC (λid=>id<B+4) L _ 4 O0 R0 _:=h5.go (⟨om,λid c x=>s id om⟩:Fx (λid=>id<x0.next) m0 L) (λid c x=>om)
 have X0:Fx (λid=>id<B+4) Y L:=⟨om,λid c x=>by rw[s id om,k.get id c]⟩
 obtain⟨Q1,c4⟩: ∃Q,L.next=Q:=⟨_,rfl⟩
 obtain⟨i1,p4,g6,p9,p0⟩:=YJ c4 [1,0,3,2];obtain⟨j1,o7,h6,r5,f6⟩:=YJ g6 [2,3,0,1];obtain⟨x1,q6,u6,m4,w5,f0⟩:=dK h6 [.sl Q1 0 4 (.kn 4),.sl (Q1+1) 0 4 (.kn 4)];have o9:Fr L x1:=(p0.trans f6).trans f0;have q9:SP x1 (.sl (Q1+1+1) 0 2 (.kn 2)) Jx:=SP.two (a:= [1,0,3,2]) (b:= [2,3,0,1]) (h:=j1) (p9.mono f6) r5 om f0 m4 _;simp(disch:=omega)only[go_sem,m6,n6,cH,j5,c4,Gh,p4,g6,o7,h6,Vf _ (nL ..) (nL ..),q6];refine (rL _ 4 Jx x1 om om (by decide) q9 Ug).mono ?_;rintro _ m1 ⟨c1,O1,R1,rfl,e9,e7⟩;have s4:=e9.sl;obtain⟨o,m,rfl,a1,b1,r9,l2⟩:=s4;have f:Fr L m1:=o9.trans e7;have t6:=f.next;have v5:=e7.next;have o6:m1.get (B+1)=aF [aC 0,.aD,.aD]:=by rw[f.get _ om];exact p1
 obtain⟨J,r0,w6,j4,t⟩:=mV m1 (B+1) [aC (4:Nat),o,m];have XY:=cF m1 (B+1) 0 (v:= aC (4:Nat)) (u:=o) (w:=m) rfl a1 b1;have n9:J.get B=aF [aC (4:Nat),e,l]:=by rw[t _ om,f.get _ om];exact s8
 have l0:J.get (B+1)=aF [aC (4:Nat),o,m]:=j4;have r8:J.get (B+1+1)=aF [aC 0,.aD,.aD]:=by rw[t _ om,f.get _ om];exact k1
 have j6:J.get (B+1+1+1)=aF [aC 0,.aD,.aD]:=by rw[t _ om,f.get _ om];exact k9
 have G1:GC (λid=>id<B+4) J _ 4 O1 R1 _:=e9.go (⟨om,λid c x=>t id om⟩:Fx (λid=>id<x1.next) m1 J) (λid c x=>om)
 have X1:Fx (λid=>id<B+4) L J:=⟨om,λid c x=>by rw[t id om,f.get id c]⟩
 obtain⟨Q2,g8⟩: ∃Q,J.next=Q:=⟨_,rfl⟩
 obtain⟨i2,n7,e6,s7,s6⟩:=YJ g8 [1,2,3,0];obtain⟨j2,k3,b9,p8,c5⟩:=YJ e6 [2,1,0,3];obtain⟨x2,s1,t7,k6,v6,g5⟩:=dK b9 [.sl Q2 0 4 (.kn 4),.sl (Q2+1) 0 4 (.kn 4)];have k4:Fr J x2:=(s6.trans c5).trans g5;have o8:SP x2 (.sl (Q2+1+1) 0 2 (.kn 2)) D4g:=SP.two (a:= [1,2,3,0]) (b:= [2,1,0,3]) (h:=j2) (s7.mono c5) p8 om g5 k6 _;simp(disch:=omega)only[go_sem,XY,o6,cH,r0,g8,Gh,n7,e6,k3,b9,Vf _ (nL ..) (nL ..),s1];refine (rL _ 4 D4g x2 om om (by decide) o8 QW).mono ?_;rintro _ m2 ⟨c2,O2,R2,rfl,e0,d8⟩;have uU:=e0.sl;obtain⟨r,p,rfl,a2,b2,r4,o5⟩:=uU;have d:Fr J m2:=k4.trans d8;have u4:=d.next;have u5:=d8.next;have k8:m2.get (B+1+1)=aF [aC 0,.aD,.aD]:=by rw[d.get _ om];exact r8
 obtain⟨W,m7,u9,r7,q⟩:=mV m2 (B+1+1) [aC (4:Nat),r,p];have i4:=cF m2 (B+1+1) 0 (v:= aC (4:Nat)) (u:=r) (w:=p) rfl a2 b2;have m8:W.get B=aF [aC (4:Nat),e,l]:=by rw[q _ om,d.get _ om];exact n9
 have q4:W.get (B+1)=aF [aC (4:Nat),o,m]:=by rw[q _ om,d.get _ om];exact l0
 have m5:W.get (B+1+1)=aF [aC (4:Nat),r,p]:=r7;have l5:W.get (B+1+1+1)=aF [aC 0,.aD,.aD]:=by rw[q _ om,d.get _ om];exact j6
 have G2:GC (λid=>id<B+4) W _ 4 O2 R2 _:=e0.go (⟨om,λid c x=>q id om⟩:Fx (λid=>id<x2.next) m2 W) (λid c x=>om)
 have X2:Fx (λid=>id<B+4) J W:=⟨om,λid c x=>by rw[q id om,d.get id c]⟩
 obtain⟨Q3,d5⟩: ∃Q,W.next=Q:=⟨_,rfl⟩
 obtain⟨i3,l7,h8,i6,l8⟩:=YJ d5 [1,2,0,3,4];obtain⟨j3,i9,d6,n0,c8⟩:=YJ h8 [1,2,3,4,0];obtain⟨x3,p5,w4,h9,v0,d2⟩:=dK d6 [.sl Q3 0 5 (.kn 5),.sl (Q3+1) 0 5 (.kn 5)];have r1:Fr W x3:=(l8.trans c8).trans d2;have s0:SP x3 (.sl (Q3+1+1) 0 2 (.kn 2)) QI:=SP.two (a:= [1,2,0,3,4]) (b:= [1,2,3,4,0]) (h:=j3) (i6.mono c8) n0 om d2 h9 _;simp(disch:=omega)only[go_sem,i4,k8,cH,m7,d5,agD,l7,h8,i9,d6,Vf _ (nL ..) (nL ..),p5];refine (rL _ 5 QI x3 om om (by decide) s0 GB).mono ?_;rintro _ m3 ⟨c3,O3,R3,rfl,e8,g9⟩;have l3:=e8.sl;obtain⟨A,F,rfl,a3,b3,s3,k7⟩:=l3;have j:Fr W m3:=r1.trans g9;have t9:=j.next;have u7:=g9.next;have p7:m3.get (B+1+1+1)=aF [aC 0,.aD,.aD]:=by rw[j.get _ om];exact l5
 obtain⟨i,k0,u8,l4,z⟩:=mV m3 (B+1+1+1) [aC (5:Nat),A,F];have s5:=cF m3 (B+1+1+1) 0 (v:= aC (5:Nat)) (u:=A) (w:=F) rfl a3 b3;have d7:i.get B=aF [aC (4:Nat),e,l]:=by rw[z _ om,j.get _ om];exact m8
 have h7:i.get (B+1)=aF [aC (4:Nat),o,m]:=by rw[z _ om,j.get _ om];exact q4
 have h0:i.get (B+1+1)=aF [aC (4:Nat),r,p]:=by rw[z _ om,j.get _ om];exact m5
 have c7:i.get (B+1+1+1)=aF [aC (5:Nat),A,F]:=l4;have G3:GC (λid=>id<B+4) i _ 5 O3 R3 _:=e8.go (⟨om,λid c x=>z id om⟩:Fx (λid=>id<x3.next) m3 i) (λid c x=>om)
 have X3:Fx (λid=>id<B+4) W i:=⟨om,λid c x=>by rw[z id om,j.get id c]⟩
 obtain⟨Q4,v2⟩: ∃Q,i.next=Q:=⟨_,rfl⟩
 obtain⟨y,ey,ny⟩: ∃y:H,H.mk i.tr (i.next+8)=y/\y.next=i.next+8:=⟨_,rfl,rfl⟩
 have fy:Fr i y:=by rw[←ey];exact (Fr.refl i).bH om
 have g7:y.get B=aF [aC (4:Nat),e,l]:=by rw[fy.get _ om];exact d7
 have f8:y.get (B+1)=aF [aC (4:Nat),o,m]:=by rw[fy.get _ om];exact h7
 have f5:y.get (B+1+1)=aF [aC (4:Nat),r,p]:=by rw[fy.get _ om];exact h0
 have f9:y.get (B+1+1+1)=aF [aC (5:Nat),A,F]:=by rw[fy.get _ om];exact c7
 obtain⟨y0,q8,v7,i7,N⟩:=mV y B [aC (4:Nat),e,l];have a9:y0.get B=aF [aC (4:Nat),e,l]:=i7;have b8:y0.get (B+1)=aF [aC (4:Nat),o,m]:=by rw[N _ om];exact f8
 have a4:y0.get (B+1+1)=aF [aC (4:Nat),r,p]:=by rw[N _ om];exact f5
 have b4:y0.get (B+1+1+1)=aF [aC (5:Nat),A,F]:=by rw[N _ om];exact f9
 have t0:=cF y B 0 (v:= aC (4:Nat)) (u:=e) (w:=l) rfl a0 b0;obtain⟨y1,k2,v8,l6,K⟩:=mV y0 (B+1) [aC (4:Nat),o,m];have Z:y1.get B=aF [aC (4:Nat),e,l]:=by rw[K _ om];exact a9
 have a7:y1.get (B+1)=aF [aC (4:Nat),o,m]:=l6;have b7:y1.get (B+1+1)=aF [aC (4:Nat),r,p]:=by rw[K _ om];exact a4
 have b6:y1.get (B+1+1+1)=aF [aC (5:Nat),A,F]:=by rw[K _ om];exact b4
 have t1:=cF y0 (B+1) 0 (v:= aC (4:Nat)) (u:=o) (w:=m) rfl a1 b1;obtain⟨y2,n8,t5,q5,P⟩:=mV y1 (B+1+1) [aC (4:Nat),r,p];have a6:y2.get B=aF [aC (4:Nat),e,l]:=by rw[P _ om];exact Z
 have b5:y2.get (B+1)=aF [aC (4:Nat),o,m]:=by rw[P _ om];exact a7
 have a5:y2.get (B+1+1)=aF [aC (4:Nat),r,p]:=q5;have a8:y2.get (B+1+1+1)=aF [aC (5:Nat),A,F]:=by rw[P _ om];exact b6
 have t2:=cF y1 (B+1+1) 0 (v:= aC (4:Nat)) (u:=r) (w:=p) rfl a2 b2;obtain⟨y3,j7,v9,l1,U⟩:=mV y2 (B+1+1+1) [aC (5:Nat),A,F];have d9:y3.get B=aF [aC (4:Nat),e,l]:=by rw[U _ om];exact a6
 have f7:y3.get (B+1)=aF [aC (4:Nat),o,m]:=by rw[U _ om];exact b5
 have d1:y3.get (B+1+1)=aF [aC (4:Nat),r,p]:=by rw[U _ om];exact a5
 have c6:y3.get (B+1+1+1)=aF [aC (5:Nat),A,F]:=l1;have t3:=cF y2 (B+1+1+1) 0 (v:= aC (5:Nat)) (u:=A) (w:=F) rfl a3 b3;have q0:dI (.agg [aC (4:Nat),e,l]) (.agg [aC (4:Nat),e,l])=true:=by simp [dI,tG,k5,s2]
 have q1:dI (.agg [aC (4:Nat),o,m]) (.agg [aC (4:Nat),o,m])=true:=by simp [dI,tG,r9,l2]
 have q2:dI (.agg [aC (4:Nat),r,p]) (.agg [aC (4:Nat),r,p])=true:=by simp [dI,tG,r4,o5]
 have q3:dI (.agg [aC (5:Nat),A,F]) (.agg [aC (5:Nat),A,F])=true:=by simp [dI,tG,s3,k7]
 simp(disch:=omega)only[go_sem,s5,p7,cH,k0,aJ d7,aJ h7,aJ h0,aJ c7];rw[ey];simp(disch:=omega)only[go_sem,t0,g7,q8,t1,b8,k2,t2,b7,n8,t3,a8,j7,cH,aJ g7,aJ f8,aJ f5,aJ f9,aJ a9,aJ b8,aJ a4,aJ b4,aJ Z,aJ a7,aJ b7,aJ b6,aJ a6,aJ b5,aJ a5,aJ a8,aJ d9,aJ f7,aJ d1,aJ c6,q0,q1,q2,q3]
 have Xe:Fx (λid=>id<B+4) i y3:=⟨om,λid c x=>by rw[U id om,P id om,K id om,N id om,fy.get id om]⟩
 have low: ∀{v n O R G},GC (λid=>id<B+4) i v n O R G->GC (λid=>id<B) y3 v n O R G:=λg=>g.go Xe (λid _ o0=>om)
 refine⟨_,_,_,_,O0,R0,O1,R1,O2,R2,O3,R3,rfl,low (((G0.go X1 λ_ _ h=>h).go X2 λ_ _ h=>h).go X3 λ_ _ h=>h),low ((G1.go X2 λ_ _ h=>h).go X3 λ_ _ h=>h),low (G2.go X3 λ_ _ h=>h),low G3,⟨om,λid o0=>?_⟩⟩;rw[U id om,P id om,K id om,N id om,fy.get id om,z id om,j.get id om,q id om,d.get id om,t id om,f.get id om,s id om,k.get id om];exact r3.get id om
section
variable {n:Nat} {w:Bool} {c d:jZ} {l:List jZ} {Gc Gd:List Nat->Prop} {A C D:LN} {ws:List (List (Nat×Nat))}
theorem Wu {G K:List Nat->Prop}(E:cZ G A)(F:cZ K A)(x:List Nat):G x↔K x:=(E.mem x).symm.trans (F.mem x)
structure Mem (n:Nat)(d:jZ)(Gd:List Nat->Prop)(A:LN):Prop where
 cY:dO n Gd
 isc:aV n Gd d.1 d.2
 el:cZ Gd A
theorem Mem.sz (m:Mem n d Gd A):iW d.1 n 0=A.length:=by
 obtain⟨E,e⟩:=dB m.cY m.isc;rw[←e,E.uniq m.el]
theorem Mem.nx (a:Mem n c Gc C)(m:Mem n d Gd A)(h:Eb n A (if w then C else A) D ws=true):dO n (yE n w c d)/\cZ (yE n w c d) D:=by
 unfold yE
 cases w with
 |false=>exact⟨oV.cY m.cY m.cY m.isc m.isc,Eb.AV m.cY m.cY m.isc m.isc m.el m.el h⟩
 |true=>exact⟨oV.cY m.cY a.cY m.isc a.isc,Eb.AV m.cY a.cY m.isc a.isc m.el a.el h⟩
theorem qB (s:lX n w c l)(q:Mem n c Gc C){k:Nat}(a:l[k]? =some d)(m:Mem n d Gd A)(h:Eb n A (if w then C else A) D ws=true)(b:D≠A): ∃e,l[k+1]? =some e/\Mem n e (yE n w c d) D:=by
 obtain⟨g,E⟩:=q.nx m h;have t:k<l.length:=(vJ.1 a).1
 by_cases j:k+1<l.length
 ·have i:=dD j
  exact⟨_,i,g,(s.st k _ _ a i).1,E⟩
 ·have f:k=l.length- 1:=om
  have r:=s.en d (by rw[←f];exact a);obtain⟨o,_⟩:=dB m.cY m.isc;obtain⟨p,_⟩:=dB g r;exact absurd ((E.uniq p).trans (o.uniq m.el)) b
theorem Vq (s:lX n w c l)(p:Mem n c Gc C){k:Nat}(e:l[k]? =some d)(m:Mem n d Gd A)(h:Eb n A (if w then C else A) A ws=true):l.length=k+1:=by
 obtain⟨g,E⟩:=p.nx m h;have q:k<l.length:=(vJ.1 e).1
 by_cases o:k+1<l.length
 ·have f:=dD o
  obtain⟨i,j⟩:=s.st k _ _ e f;obtain⟨a,b⟩:=(i.congr (Wu E m.el)).uniq m.isc;exact absurd (Prod.ext a b) j
 ·omega
end
abbrev DL:LN:= [[0,1,2,3], [0,1,3,2], [0,2,1,3], [0,2,3,1], [0,3,1,2], [0,3,2,1], [1,0,2,3], [1,0,3,2], [1,2,0,3], [1,2,3,0], [1,3,0,2], [1,3,2,0], [2,0,1,3], [2,0,3,1], [2,1,0,3], [2,1,3,0], [2,3,0,1], [2,3,1,0], [3,0,1,2], [3,0,2,1], [3,1,0,2], [3,1,2,0], [3,2,0,1], [3,2,1,0]]
theorem Ao:cZ (bM 4 (· ∈FC)) DL:=Zm.AV (ws:= [[], [0,0,1,0,0], [0,0,0,1,0], [0,1], [0,1,0,1], [1,0,0,1,0], [1], [0,0,1,0,0,1], [0,0,0,1,0,1], [0], [0,1,0], [0,0,0,1,0,0], [0,1,0,0], [1,0,1], [0,1,0,0,1], [1,0], [0,0], [0,0,1], [0,0,0], [0,0,1,0], [0,0,0,1], [0,0,1,0,1], [1,0,0], [1,0,0,1]]) (by decide+kernel)
abbrev LD:LN:= [[0,1,2,3], [0,2,3,1], [0,3,1,2], [1,0,3,2], [1,2,0,3], [1,3,2,0], [2,0,1,3], [2,1,3,0], [2,3,0,1], [3,0,2,1], [3,1,0,2], [3,2,1,0]]
abbrev qT:LN:= [[0,1,2,3], [1,0,3,2], [2,3,0,1], [3,2,1,0]]
abbrev ZC:LN:= [[0,1,2,3]]
theorem ajP:Eb 4 DL (if false then DL else DL) LD [[], [(1,4)], [(1,2)], [(1,16)], [(2,12)], [(3,18)], [(2,6)], [(1,10)], [(3,19)], [(4,6)], [(1,8)], [(2,7)]]=true:=by decide+kernel
theorem akB:Eb 4 LD (if false then DL else LD) qT [[], [(1,6)], [(1,9)], [(1,3)]]=true:=by decide+kernel
theorem akD:Eb 4 qT (if false then DL else qT) ZC [[]]=true:=by decide+kernel
theorem akQ:Eb 4 ZC (if false then DL else ZC) ZC [[]]=true:=by decide+kernel
theorem Xj {c:jZ}{l:List jZ}(o:aV 4 (bM 4 (· ∈FC)) c.1 c.2)(s:lX 4 false c l):l.map (λe=>iW e.1 4 0)= [24,12,4,1]:=by
 have a:Mem 4 c _ DL:=⟨bM.cY Yc,o,Ao⟩
 have j:=s.hd;obtain⟨q,b,h⟩:=qB s a j a ajP (by decide);obtain⟨p,g,m⟩:=qB s a b h akB (by decide);obtain⟨t,f,k⟩:=qB s a g m akD (by decide);have r:=Vq s a f k akQ;refine List.ext_getElem? λi=>?_
 rw[Qy]
 match i with
 |0=>rw[j];exact congrArg some a.sz
 |1=>rw[b];exact congrArg some h.sz
 |2=>rw[g];exact congrArg some m.sz
 |3=>rw[f];exact congrArg some k.sz
 |i+4=>rw[List.getElem?_eq_none om];rfl
abbrev LD4:LN:= [[0,1,2,3], [0,3,2,1], [1,0,3,2], [1,2,3,0], [2,1,0,3], [2,3,0,1], [3,0,1,2], [3,2,1,0]]
theorem FL:cZ (bM 4 (· ∈D4g)) LD4:=Zm.AV (ws:= [[], [0,0,1], [0,1], [0], [1], [0,0], [0,0,0], [1,0]]) (by decide+kernel)
abbrev afU:LN:= [[0,1,2,3], [2,3,0,1]]
abbrev abI:LN:= [[0,1,2,3]]
theorem akM:Eb 4 LD4 (if true then LD4 else LD4) afU [[], [(1,2)]]=true:=by decide+kernel
theorem akI:Eb 4 afU (if true then LD4 else afU) abI [[]]=true:=by decide+kernel
theorem akG:Eb 4 abI (if true then LD4 else abI) abI [[]]=true:=by decide+kernel
theorem Zp {c:jZ}{l:List jZ}(k:aV 4 (bM 4 (· ∈D4g)) c.1 c.2)(s:lX 4 true c l):l.map (λe=>iW e.1 4 0)= [8,2,1]:=by
 have a:Mem 4 c _ LD4:=⟨bM.cY QW,k,FL⟩
 have h:=s.hd;obtain⟨o,b,g⟩:=qB s a h a akM (by decide);obtain⟨m,f,j⟩:=qB s a b g akI (by decide);have p:=Vq s a f j akG;refine List.ext_getElem? λi=>?_
 rw[Qy]
 match i with
 |0=>rw[h];exact congrArg some a.sz
 |1=>rw[b];exact congrArg some g.sz
 |2=>rw[f];exact congrArg some j.sz
 |i+3=>rw[List.getElem?_eq_none om];rfl
section
variable {Rp Cg:List Nat}
def ajH (s:List Nat)(gs a:LN):LN:=gs.foldl (λa g=>if a.contains (aM s g) then a else a++ [aM s g]) a
def BC (gs:LN):Nat->Nat->LN->LN
 |0,_,S=>S
 |f+1,i,S=>match S[i]? with
  |none=>S
  |some s=>BC gs f (i+1) (ajH s gs S)
theorem Pk {P:List Nat->Prop}{d:LN}(j: ∀x,P x-> ∀g∈d,P (aM x g)): ∀(f i:Nat) (S:LN),(∀x∈S,P x)-> ∀x∈BC d f i S,P x
 |0,_,_,h=>h
 |f+1,i,S,h=>by
  unfold BC;split
  ·exact h
  ·rename_i s k
   refine Pk j f _ _ ?_
   have m: ∀(l:LN),(∀g∈l,g∈d)-> ∀a:LN,(∀x∈a,P x)-> ∀x∈ajH s l a,P x:=by
    intro l
    induction l with
    |nil=>exact λ_ a c=>c
    |cons g l ih=>
     intro e a c;refine ih (λg n=>e g (wI _ n)) _ ?_;dsimp only;split
     ·exact c
     ·intro x b
      rcases oD.1 b with b|b
      ·exact c x b
      ·rw[List.mem_singleton.1 b];exact j s (h s (Xu k)) g (e g tQ)
   exact m d (λg h=>h) S h
def HQ (L:LN)(N:List Nat):LN:=N.map λi=>L.getD i []
def GF (n:Nat)(L:LN)(N:List Nat):Bool:=
 decide (N.Pairwise (· < ·))&&N.all (λi=>decide (i<L.length))&&(HQ L N).all (λx=>(HQ L N).all λy=>(HQ L N).contains (aM x y))&&(HQ L N).all (λx=>(HQ L N).contains (bZ x))&&(HQ L N).contains (aX n)&&(HQ L N).all λy=>L.all λg=>(HQ L N).contains (aT y g)
def NxB (n:Nat)(L:LN)(Rp Cg N N':List Nat):Bool:=
 (N.all λi=>N'.contains i)&&(List.range L.length).all (λi=>N.contains i||Rp.any λr=>!N.contains r&&(L.map (aT (L.getD r []))).contains (L.getD i []))&&Rp.all (λr=>decide (r<L.length)&&(N.contains r||(HQ L N').all λx=>(BC (HQ L N++Cg.map λg=>aT (L.getD r []) (L.getD g [])) L.length 0 [aX n]).contains x))&&Cg.all (λg=>decide (g<L.length))&&N'.any λi=>!N.contains i
def YC (n:Nat)(L:LN)(Rp Cg:List Nat):LN->Bool
 |a::b::r=>(b==List.range L.length||GF n L b)&&NxB n L Rp Cg a b&&decide (a.length<L.length)&&YC n L Rp Cg (b::r)
 | [a]=>decide (a.length=L.length)
 | []=>false
section
variable {n:Nat} {G:List Nat->Prop} {L:LN} {K N N' r:List Nat} {rs:LN}
theorem Zz {x:List Nat}:x∈HQ L N↔RG L N x:=by
 unfold HQ;rw[pH];exact Iff.rfl
variable (hG:dO n G) (E:cZ G L)
include hG E
theorem GF.ok (h:GF n L N=true):yW n G L N:=by
 unfold GF at h;simp only[sE,zP,Ak,List.contains_iff_mem,Zz] at h;obtain⟨⟨⟨⟨⟨f,c⟩,k⟩,t⟩,s⟩,q⟩:=h;have le: ∀x,RG L N x->G x:=λx ⟨i,hi,e⟩=>by rw[←e];exact pD E (c i hi)
 refine⟨⟨f,λi=>⟨λhi=>⟨c i hi,i,hi,rfl⟩,λ⟨hi,j,hj,e⟩=>?_⟩⟩,⟨λm=>hG.bF (le _ m),s,λ{a b} d o=>k a d b o,λ{a} d=>t a d⟩,λy g p l=>q y p g ((E.mem g).2 l),le⟩;rw[←wU E.nodup (c j hj) hi e];exact hj
theorem XO:yW n G L (List.range L.length):=by
 have e:RG L (List.range L.length)=G:=funext λx=>propext ⟨λ⟨i,hi,e⟩=>by rw[←e];exact pD E (Dj.1 hi),λh=>by
  obtain⟨i,hi,e⟩:=Ad.1 ((E.mem x).2 h)
  exact⟨i,Dj.2 hi,by rw[List.getD,dD hi];exact e⟩⟩
 refine⟨⟨List.pairwise_lt_range,λi=>?_⟩,by rw[e];exact hG,by rw[e];exact λy g b a=>hG.mul (hG.mul (hG.inv a) b) a,by rw[e];exact λx h=>h⟩;rw[Dj,e];exact⟨λh=>⟨h,pD E h⟩,λh=>h.1⟩
theorem NxB.ok (k:yW n G L N)(o:yW n G L N')(W:Ab n G L K)(hl:N.length<L.length)(h:NxB n L Rp Cg N N'=true):Qx n G L K N=N':=by
 unfold NxB at h;simp only[sE,zP,List.any_eq_true,Bool.or_eq_true,Bool.not_eq_true',Ak,List.contains_iff_mem,Zz,Dj] at h;obtain⟨⟨⟨⟨h1,w⟩,l⟩,hC⟩,J,s,Y⟩:=h;have nc: ∀{i:Nat},N.contains i=false->i∉N:=λh w=>by rw[List.contains_iff_mem.2 w] at h;cases h
 obtain⟨⟨i,hi,hn,e⟩,B,_,R⟩:=Cz hG E k W hl;have p:=W.lt hi
 have Z: ∀t∈N',t∈Qx n G L K N:=λt f=>by
  rw[e];refine (xF t).2 ⟨((o.rk.mem t).1 f).1,?_⟩;rcases w i p with h|⟨r,hr,z,F⟩
  ·exact absurd h hn
  ·obtain⟨u,l⟩:=l r hr
   rcases l with l|l
   ·exact absurd l (nc z)
   ·obtain⟨g,d,v⟩:=pH.1 F
    have gr:=Mk.cY hG k.le (pD E p);have m:=(E.mem g).1 d
    have rx:Mk n G (RG L N) (L.getD i []) (L.getD r []):=by
     have:=NC.cj (n:=n) (NC.of (.inr rfl):Mk n G (RG L N) (L.getD i []) (L.getD i [])) (hG.inv m);rw[←v,←gW (lE hG E u) (hG.bF m) (hG.bF m).inv,cG (hG.bF m),iZ (lE hG E u)] at this;rwa [←v]
    refine Pk (P:=Mk n G (RG L N) (L.getD i [])) (λx A g d=>gr.mul A ?_) L.length 0 [aX n] (λx A=>by rw[List.mem_singleton.1 A];exact gr.one) _ (l _ ⟨t,f,rfl⟩);rcases oD.1 d with d|d
    ·exact NC.of (.inl (Zz.1 d))
    ·obtain⟨c,F,rfl⟩:=pH.1 d
     exact NC.cj rx (pD E (hC c F))
 have q:=((o.rk.mem J).1 s).1;obtain⟨y,a0,hR,g,d,v⟩:=Px hG E q;have Q:y∈K:=W.perm.mem_iff.2 (jY.2 ⟨om,hR⟩)
 have yN:y∉N:=λh=>nc Y (by
  obtain⟨t,f,O⟩:=k.nm _ _ ⟨y,h,rfl⟩ d;have:t=J:=wU E.nodup ((k.rk.mem t).1 f).1 q (O.trans v)
  rw[←this];exact f)
 have U:RG L N' (L.getD y []):=by
  have:=o.nm _ _ ⟨J,s,rfl⟩ (hG.inv d);rwa [←v,←gW (lE hG E om) (hG.bF d) (hG.bF d).inv,cG (hG.bF d),iZ (lE hG E om)] at this
 have dn: ∀t∈Ai n G L N y,t∈N':=λt f=>by
  obtain⟨l,h4⟩:=(xF t).1 f;have:RG L N' (L.getD t []):=NC.le h4 o.cY (λa h=>h.elim (λ⟨j,hj,e⟩=>⟨j,h1 j hj,e⟩) λe=>by rw[e];exact U) λa b ha hb=>o.nm a b ha hb
  exact (o.rk.mem t).2 ⟨l,this⟩
 have O:=R y Q yN λt f=>Z t (dn t f)
 refine pL B.rk.asc o.rk.asc λt=>⟨λf=>dn t (by rw[O];exact f),Z t⟩
theorem YC.ok (c:Ec n G L K rs r)(m:r.length=L.length)(f:Ab n G L K): ∀(Ns:LN) (N:List Nat) (k:Nat),rs[k]? =some N->yW n G L N->YC n L Rp Cg (N::Ns)=true->rs.drop k=N::Ns
 | [],N,k,hk,kN,h=>by
  have d:N.length=L.length:=of_decide_eq_true h;have b:=(vJ.1 hk).1
  have: ¬k+1<rs.length:=λa=>by
   have:=(c.st k _ _ hk (dD a)).1;omega
  rw[Zh b,List.drop_eq_nil_of_le om];rw[dD b] at hk;rw[Option.some.inj hk]
 |N'::Ns,N,k,hk,kN,h=>by
  unfold YC at h;simp only[sE,Ak] at h;obtain⟨⟨⟨a,l⟩,j⟩,o⟩:=h
  have i:yW n G L N':=by
   rw[Bool.or_eq_true] at a;rcases a with a|a
   ·rw[beq_iff_eq.1 a];exact XO hG E
   ·exact GF.ok hG E a
  have b:=(vJ.1 hk).1
  have g:k+1<rs.length:=Nat.lt_of_not_le λh=>by
   have d:=c.la;rw[show rs.length- 1=k by omega,hk] at d;cases d;omega
  have e:=(c.st k _ _ hk (dD g)).2;rw[NxB.ok hG E kN i f j l] at e;have:=YC.ok c m f Ns N' (k+1) (by rw[dD g,e]) i o;rw[dD b] at hk;rw[Zh b,this,Option.some.inj hk]
omit hG E in
theorem CB (b:yW n G L [0])(a:L.getD 0 []=aX n):Lf L (λx=>x=aX n)= [0]:=by
 refine (zH L _).uniq (K:=λx=>x=aX n) ⟨b.rk.asc,λi=>?_⟩;rw[b.rk.mem i]
 refine and_congr_right λ_=>⟨λ⟨j,hj,e⟩=>?_,λe=>⟨0,List.mem_singleton.2 rfl,?_⟩⟩
 ·rw[List.mem_singleton.1 hj] at e;rw[←e,a]
 ·rw[a,e]
theorem VN (k:zC n G L K rs)(j:Ab n G L K){a:LN}(i:GF n L [0]=true)(f:L.getD 0 []=aX n)(h:YC n L Rp Cg ([0]::a)=true):rs= [0]::a:=by
 obtain⟨r,c,g⟩:=k.ex;have b:=GF.ok hG E i;have e:=CB b f;have d:=c.hd;rw[e] at d;exact YC.ok hG E c g j a [0] 0 d b h
end
theorem TL {K:List Nat}{rs:LN}(a:zC 4 (bM 4 (· ∈FC)) DL K rs)(b:Ab 4 (bM 4 (· ∈FC)) DL K):rs= [[0], [0,7,16,23], [0,3,4,7,8,11,12,15,16,19,20,23],List.range 24]:=VN (Rp:= [1,3,7,9]) (Cg:= [0,2,8]) (bM.cY Yc) Ao a b (by decide+kernel) rfl (by decide+kernel)
theorem Bu:cZ (bM 4 (· ∈Jx)) qT:=Zm.AV (ws:= [[], [0], [1], [0,1]]) (by decide+kernel)
theorem aeP {i:Nat}(g:i<4)(k:i∉ [0]):Ai 4 (bM 4 (· ∈Jx)) qT [0] i= [0,i]/\yW 4 (bM 4 (· ∈Jx)) qT [0,i]/\YC 4 qT [1,2,3] [0] [[0,i],List.range 4]=true:=by
 have hG:=bM.cY Ug;have E:=Bu;have l:yW 4 (bM 4 (· ∈Jx)) qT [0]:=GF.ok hG E (by decide+kernel);have f: ∀i,i<4->i∉ [0]->GF 4 qT [0,i]=true/\YC 4 qT [1,2,3] [0] [[0,i],List.range 4]=true:=by decide+kernel
 obtain⟨m,p⟩:=f i g k;have c:yW 4 (bM 4 (· ∈Jx)) qT [0,i]:=GF.ok hG E m;refine⟨pL (Uc hG E l g).rk.asc c.rk.asc λt=>?_,c,p⟩;obtain⟨q,u,_⟩:=Dr l g k;refine⟨λd=>?_,λd=>?_⟩
 ·obtain⟨o,w⟩:=(xF t).1 d
  refine (c.rk.mem t).2 ⟨o,NC.le w c.cY (λa h=>h.elim (λ⟨j,hj,e⟩=>⟨j,by rw[List.mem_singleton.1 hj];exact tQ,e⟩) λe=>by rw[e];exact⟨i,by simp,rfl⟩) λa b s v=>c.nm a b s v⟩
 ·rcases vI.1 d with rfl|d
  ·exact q 0 tQ
  ·rw[List.mem_singleton.1 d];exact u
theorem VT {K:List Nat}{rs:LN}(s:zC 4 (bM 4 (· ∈Jx)) qT K rs)(d:Ab 4 (bM 4 (· ∈Jx)) qT K): ∃i,i<4/\i∉ [0]/\rs= [[0], [0,i],List.range 4]/\Qx 4 (bM 4 (· ∈Jx)) qT K [0]= [0,i]:=by
 obtain⟨r,c,l⟩:=s.ex;have hG:=bM.cY Ug;have E:=Bu;have k:yW 4 (bM 4 (· ∈Jx)) qT [0]:=GF.ok hG E (by decide+kernel);have a:=c.hd;rw[CB k rfl] at a;have f:=(vJ.1 a).1
 have o:0+1<rs.length:=Nat.lt_of_not_le λh=>by
  have m:=c.la;rw[show rs.length- 1=0 by omega,a] at m;cases m;cases l
 have e:=(c.st 0 _ _ a (dD o)).2;obtain⟨⟨i,hi,j,b⟩,_⟩:=Cz hG E k d (show 1<4 by omega);have g:i<4:=d.lt hi;obtain⟨t,q,p⟩:=aeP g j;rw[t] at b;rw[b] at e;have:=YC.ok hG E c l d [List.range 4] [0,i] 1 (by rw[dD o,e]) q p;refine⟨i,g,j,?_,b⟩;rw[←List.take_append_drop 1 rs,this,List.take_succ_eq_append_getElem f];rw[dD f] at a;rw[Option.some.inj a]
 rfl
theorem afW {K:List Nat}{rs:LN}(b:zC 4 (bM 4 (· ∈Jx)) qT K rs)(a:Ab 4 (bM 4 (· ∈Jx)) qT K):rs.map List.length= [1,2,4]:=by
 obtain⟨i,_,_,e,_⟩:=VT b a;rw[e];rfl
abbrev UW:LN:= [[0,1,2,3,4], [0,1,3,4,2], [0,1,4,2,3], [0,2,1,4,3], [0,2,3,1,4], [0,2,4,3,1], [0,3,1,2,4], [0,3,2,4,1], [0,3,4,1,2], [0,4,1,3,2], [0,4,2,1,3], [0,4,3,2,1], [1,0,2,4,3], [1,0,3,2,4], [1,0,4,3,2], [1,2,0,3,4], [1,2,3,4,0], [1,2,4,0,3], [1,3,0,4,2], [1,3,2,0,4], [1,3,4,2,0], [1,4,0,2,3], [1,4,2,3,0], [1,4,3,0,2], [2,0,1,3,4], [2,0,3,4,1], [2,0,4,1,3], [2,1,0,4,3], [2,1,3,0,4], [2,1,4,3,0], [2,3,0,1,4], [2,3,1,4,0], [2,3,4,0,1], [2,4,0,3,1], [2,4,1,0,3], [2,4,3,1,0], [3,0,1,4,2], [3,0,2,1,4], [3,0,4,2,1], [3,1,0,2,4], [3,1,2,4,0], [3,1,4,0,2], [3,2,0,4,1], [3,2,1,0,4], [3,2,4,1,0], [3,4,0,1,2], [3,4,1,2,0], [3,4,2,0,1], [4,0,1,2,3], [4,0,2,3,1], [4,0,3,1,2], [4,1,0,3,2], [4,1,2,0,3], [4,1,3,2,0], [4,2,0,1,3], [4,2,1,3,0], [4,2,3,0,1], [4,3,0,2,1], [4,3,1,0,2], [4,3,2,1,0]]
theorem uI:cZ (bM 5 (· ∈QI)) UW:=Zm.AV (ws:= [[], [1,0,0], [0,1,1,1,1], [1,0,1,0,0,1,1], [1,1,1,1,0,1], [0,1,1,1,0,1], [1,0,1,1,1], [0,1,0], [1,1,0], [1,0,1,0,1,1], [0,0,1,0,1,1], [0,1,0,1,0,0], [1,0,1,0,1,1,1], [0,0,1,0,1,1,1], [0,1,0,1,0,0,1], [0], [1], [1,0,0,1], [0,1,0,0], [1,0,1,1,1,0], [1,1,0,0], [1,1,0,1], [1,0,1,1,1,1], [0,1,0,1], [0,0], [1,0], [0,1,0,1,1], [0,1,0,1,0,0,1,1], [0,0,1,0,1,1,1,0], [0,0,1,0,1,1,1,1], [1,0,0,1,1], [0,1], [1,1], [1,1,0,0,1], [0,1,0,0,1], [0,1,0,1,0], [0,0,1,0,0], [0,1,0,0,1,1], [1,0,1,0,0], [0,1,0,1,1,1], [0,0,1], [1,0,1], [0,0,1,0], [0,1,0,1,1,1,0], [1,0,1,0], [1,1,1], [1,1,1,0], [0,1,1], [1,1,1,1], [1,1,1,0,1], [0,1,1,1], [1,0,1,0,0,1], [1,1,1,1,0], [0,1,1,1,0], [1,0,1,1], [0,1,0,1,1,1,1], [0,0,1,1], [1,0,1,0,1], [0,0,1,0,1], [0,0,1,0,1,0]]) (by decide+kernel)
theorem afE {K:List Nat}{rs:LN}(a:zC 5 (bM 5 (· ∈QI)) UW K rs)(b:Ab 5 (bM 5 (· ∈QI)) UW K):rs= [[0],List.range 60]:=VN (Rp:= [1,3,16,17]) (Cg:= [0,1,30]) (bM.cY GB) uI a b (by decide+kernel) rfl (by decide+kernel)
end
theorem Qq {W:Nat->Prop}(Z:V)(n:Nat)(O:LN)(R:jJ)(G:List Nat->Prop)(h:H)(l:GC W h Z n O R G):
  Ev T 42 [Z] h (λv h'=>v= aC (iW O n 0:Nat)/\Fr h h'):=by
 obtain⟨K,Y,s,a1,rfl,z,oO,pO,sR,oR,aR⟩:=l.cw
 refine dW Gw rfl ?_
 have p:=(SV.cT z).2.1
 have r:=(SV.cT sR).2.1
 have c:=l.isc
 have n7:=l.n7
 have a0:=jE l
 have lO:=aN.length pO
 rw[c.lo] at lO
 obtain⟨B,hB⟩:=exI h.next
 obtain⟨N,e1,n1,P,o1,A⟩:=dK hB [aC n,K,Y]
 have e:bL K=some (aC n):=by unfold bL;rw[SV.len z (n:=n) om om];rfl
 obtain⟨L,q,x,o,cO⟩:=SV.shape z n om om
 simp(disch:=omega)only[go_sem,Gw,aE,bV h (v:= aC n) (u:=K) (w:=Y) rfl p r,hB,e1]
 refine aI (λk' b t=> ∃(i a:Nat),(∃g:Nat->V,b= [g 0,.ptr B 0,g 2,aC a,aC i,g 5])/\i<=n/\a*iW O (n-i) i=iW O n 0/\t=N/\k'=n-i) n
  ⟨0,1,aB rfl,iB _,by rw[Nat.one_mul];rfl,rfl,rfl⟩ ?_
 rintro k' b t ⟨i,a,⟨g,rfl⟩,hi,d,rfl,rfl⟩
 by_cases f:(i:Int)<(n:Int)
 case neg=>
  have F:=bI f;obtain rfl:i=n:=om
  simp(disch:=omega)only[go_sem,H.cell_of P,e,F];rw[Nat.sub_self] at d;have:iW O 0 i=1:=rfl;rw[this,tW] at d;exact⟨by rw[d],A⟩
 have F:=cI f
 have k:i<n:=om
 have J:=aN.get pO i om (by rw[c.lo];exact k)
 rw[show O[i]'(by rw[c.lo];exact k)=O.getD i [] from sD _] at J
 have Q:t.cell L (q+i)=some (s[i]'om):=by
  rw[A.cell (o om),cO i om,dD om]
 generalize s[i]'om=vo at J Q
 have y:=(J.si.mono A).lens
 rw[aS] at y
 have st:iW O (n-i) i=(O.getD i []).length*iW O (n-(i+1)) (i+1):=by
  rw[show n-i=(n-(i+1))+1 by omega];rfl
 have pos:=Mz (O:=O) (n-(i+1)) (i+1) (λj N h2=>(l.row om).1)
 obtain⟨m,hm⟩:=exI ((O.getD i []).length)
 rw[st,←Nat.mul_assoc,hm] at d
 rw[hm] at y
 have bd:a*m<=iW O n 0:=by rw[←d];exact Nat.le_mul_of_pos_right _ pos
 have U:(a:Int)*(m:Int)=((a*m:Nat):Int):=rfl
 obtain⟨w,hw⟩:=exI (a*m)
 rw[hw] at U bd d
 simp(disch:=omega)only[go_sem,H.cell_of P,e,F,x.ixa,Q,y,U]
 rw[fJ i]
 exact⟨n-(i+1),om,i+1,w,aB rfl,om,d,rfl⟩
theorem adY {h:H}{id o:Nat}{a b c:V}(r:h.row id o 3=some [a,b,c]):h.cell id (o+1)=some b:=by
 unfold H.row at r;unfold H.cell;split at r
 ·rename_i d f e
  rw[e];simp only[sub] at r;split at r
  ·have r:=Option.some.inj r
   have:=congrArg (λl:List V=>l[1]?) r;simp at this;exact this
  ·cases r
 ·cases r
theorem lZ {W:Nat->Prop}(x B:V)(n:Nat)(ls:List (V×V))(l:List jZ)(a:List Nat)(h:H)(sv:SV h x 3 (Mj n ls))(al:aN (λp (e:jZ)=> ∃G,GC W h (.agg [aC n,p.1,p.2]) n e.1 e.2 G) ls l)(l6:l.length<=6000)(P:SI h B (zi a))(N:l.map (λe=>iW e.1 n 0)=a):
  Ev T 29 [x,aC 0,B] h (λv h'=>v= .bool true/\Fr h h'):=by
 refine dW Es rfl ?_
 have la:=aN.length al
 have L:a.length=l.length:=by rw[←N,iA]
 have A:bL x=some (aC (l.length:Int)):=by unfold bL;rw[SV.len sv (n:=l.length) (by rw[jP,la]) om];rfl
 have r:=P.lens
 rw[aS,L] at r
 have d0:decide ((0:Int)≠0)=false:=rfl
 have d1:decide ((l.length:Int)≠(l.length:Int))=false:=bI λh=>h rfl
 obtain⟨s,f,q,c,u⟩:=P.open
 rw[aS,L] at q c u
 simp(disch:=omega)only[go_sem,Es,aE,d0,A,r,d1]
 refine aI (λU j m=> ∃(i:Nat),(∃g:Nat->V,j= [x,aC 0,B,g 3,aC i,g 5,g 6,g 7])/\i<=l.length/\Fr h m/\U=l.length-i) l.length
  ⟨0,aB rfl,iB _,Fr.refl h,rfl⟩ ?_
 rintro U j m ⟨i,⟨g,rfl⟩,hi,F,rfl⟩
 by_cases t:(i:Int)<(l.length:Int)
 case neg=>
  have y:=bI t;simp(disch:=omega)only[go_sem,A,y];exact F
 have y:=cI t
 have o:i<l.length:=om
 obtain⟨r1,o1,J,K⟩:=My (sv.mono F) (i:=i) om
 obtain⟨G1,b⟩:=aN.get al i om o
 have w:a.getD i 0=iW l[i].1 n 0:=by rw[←N,List.getD,Qy,dD o];rfl
 generalize ls[i]'om=p1 at K b
 generalize l[i]=e at b w
 have R:m.cell s (f+i)=some (aC (iW e.1 n 0:Nat)):=by
  rw[F.cell (c om),u i o,←w];congr 2;exact oI (λk:Nat=>(k:Int)) (d:=0) om
 have lp:bL p1.1=some (aC n):=by
  obtain⟨vO,vR,a1,a0,Q,sO,oO,pO,_⟩:=b.cw;simp only[V.agg.injEq,List.cons.injEq,true_and,and_true] at Q;rw[Q.1];have Y:=aN.length pO;rw[b.isc.lo] at Y;unfold bL;rw[SV.len sO (n:=n) om om];rfl
 have d3:decide ((n:Int)=0)=false:=bI (by have:=b.n0;omega)
 have d4:decide (((iW e.1 n 0:Nat):Int)≠((iW e.1 n 0:Nat):Int))=false:=bI λh=>h rfl
 have O:Fr m (H.mk m.tr (m.next+19)):=(Fr.refl m).bH om
 simp(disch:=omega)only[go_sem,A,y,J.ixa,adY K,lp,d3,K,q.ixa,R]
 refine (Qq _ n e.1 e.2 G1 _ (b.mono (F.trans O))).mono ?_
 rintro _ Z ⟨rfl,f2⟩
 have F2:=O.trans f2
 have z:Z.cell s (f+i)=some (aC (iW e.1 n 0:Nat)):=by rw[F2.cell (by have:=c om;have:=F.next;omega)];exact R
 simp(disch:=omega)only[go_sem,z,d4,dI]
 refine⟨by simp,?_⟩
 rw[fJ i]
 exact⟨l.length-(i+1),om,i+1,aB rfl,om,F.trans F2,rfl⟩
section
variable {L rs:LN} {K:List Nat}
def aiC (h:H)(neg:Bool)(x y:V):Option (V×H):=match x,y with
 | .str a,.str b=>some (.bool (if neg then !(a.map (· %256)==b.map (· %256)) else a.map (· %256)==b.map (· %256)),h)
 |_,_=>none
theorem aaZ (ρ:X->V)(h:H)(neg:Bool)(x y:X):fC ρ h (.seq neg x y)=aiC h neg (ρ x) (ρ y):=by
 simp only[fC,aiC]
 rfl
theorem RH (h:H)(a:List Nat):aiC h true (.str a) (.str a)=some (.bool false,h):=by
 show some (V.bool (!(_==_)),h)=_;rw[beq_self_eq_true];rfl
theorem Vu (f e:V)(l:LN)(h:H)(B:l.length<1000000)(r:SV h f 1 (l.map V.str))(p:SV h e 1 (l.map V.str)):
  Ev T 17 [f,e] h (λv h'=>v= .bool true/\Fr h h'):=by
 refine dW wE rfl ?_
 have d:(l.map V.str).length=l.length*1:=by rw[iA];omega
 have k:bL f=some (aC (l.length:Int)):=by unfold bL;rw[SV.len r d om];rfl
 have lb:bL e=some (aC (l.length:Int)):=by unfold bL;rw[SV.len p d om];rfl
 have u:decide ((l.length:Int)≠(l.length:Int))=false:=bI λh=>h rfl
 simp(disch:=omega)only[go_sem,wE,aE,k,lb,u]
 refine aI (λt a b=> ∃(i:Nat),(∃g:Nat->V,a= [f,e,g 2,aC i,g 4,g 5,g 6])/\i<=l.length/\Fr h b/\t=l.length-i) l.length
  ⟨0,aB rfl,iB _,Fr.refl h,rfl⟩ ?_
 rintro t a b ⟨i,⟨g,rfl⟩,hi,F,rfl⟩
 by_cases c:(i:Int)<(l.length:Int)
 case neg=>
  have m:=bI c;simp(disch:=omega)only[go_sem,k,m];exact F
 have m:=cI c
 have n:i<l.length:=om
 obtain⟨A,J,j,_,y⟩:=(r.mono F).shape l.length d om
 obtain⟨G,z,o,_,x⟩:=(p.mono F).shape l.length d om
 have s:=y i om
 have q:=x i om
 rw[Qy,dD n] at s q
 have w:Fr b (H.mk b.tr (b.next+9)):=(Fr.refl b).bH om
 simp(disch:=omega)only[go_sem,k,m,j.ixa,s,o.ixa,q,aaZ,RH]
 rw[fJ i]
 exact⟨l.length-(i+1),om,i+1,aB rfl,om,F.trans w,rfl⟩
theorem Vp {W:Nat->Prop}(j f:V)(n:Nat)(O:LN)(R:jJ)(G:List Nat->Prop)(a:LN)(h:H)(b:GC W h j n O R G)(o:SV h f 1 (a.map V.str))(x: ∀L K rs,cZ G L->Ab n G L K->zC n G L K rs->Dv rs=a):
  Ev T 45 [j,f] h (λv h'=>v= .bool true/\Fr h h'):=by
 obtain⟨k,i,rfl,y,F⟩:=b.shape
 refine dW Aa rfl ?_
 obtain⟨A,g⟩:=exI h.next
 obtain⟨m,B,P,p,Q,c⟩:=dK g [aC n,k,i]
 simp(disch:=omega)only[go_sem,Aa,aE,bV h (v:= aC n) (u:=k) (w:=i) rfl y F,g,B,aJ p]
 refine (Fw _ n O R G m (b.mono c)).mono ?_
 rintro _ q ⟨z,L,K,rs,rfl,r,J,t,sv,d,l⟩
 have E:=(dB b.cY b.isc).1
 rw[r] at E
 have e:=x L K rs E J t
 rw[e] at sv d
 simp(disch:=omega)only[go_sem,eq_self,decide_true]
 refine (Vu z f a q om sv (o.mono (c.trans l))).mono ?_
 rintro _ N ⟨rfl,s⟩
 simp(disch:=omega)only[go_sem]
 exact c.trans (l.trans s)
theorem Yn {n:Nat}(h:n<=9):tI n= [48+n]:=by unfold tI;rw[bU om]
theorem afX (E:cZ (bM 4 (· ∈FC)) L)(a:Ab 4 (bM 4 (· ∈FC)) L K)(b:zC 4 (bM 4 (· ∈FC)) L K rs):Dv rs= [[67,50], [67,50], [67,50], [67,51]]:=by
 obtain rfl:=E.uniq Ao;rw[TL b a];have e:Dv=λrs=>(Ke (kY (rs.map List.length))).map Prod.snd:=rfl
 rw[e];simp [kY,fY,Du,BO,FE,Ke,yX,Yn,List.replicate]
theorem afD (E:cZ (bM 4 (· ∈Jx)) L)(b:Ab 4 (bM 4 (· ∈Jx)) L K)(a:zC 4 (bM 4 (· ∈Jx)) L K rs):Dv rs= [[67,50], [67,50]]:=by
 obtain rfl:=E.uniq Bu;unfold Dv;rw[afW a b];simp [kY,fY,Du,BO,FE,Ke,yX,Yn,List.replicate]
theorem agQ (E:cZ (bM 5 (· ∈QI)) L)(b:Ab 5 (bM 5 (· ∈QI)) L K)(a:zC 5 (bM 5 (· ∈QI)) L K rs):Dv rs= [[65,53]]:=by
 obtain rfl:=E.uniq uI;unfold Dv;rw[afE a b];simp [kY,fY,Du,BO,FE,Ke,yX,Gm]
end
theorem ahN (h:H)(x y z w:List Nat):mH h 1 [.str []] 4 [(0,1,.str x),(1,1,.str y),(2,1,.str z),(3,1,.str w)]=some (.sl h.next 0 4 (.kn 4),h.new (.cells false [.str x,.str y,.str z,.str w])):=rfl
theorem agY (h:H)(x y:List Nat):mH h 1 [.str []] 2 [(0,1,.str x),(1,1,.str y)]=some (.sl h.next 0 2 (.kn 2),h.new (.cells false [.str x,.str y])):=rfl
theorem ahD (h:H)(x:List Nat):mH h 1 [.str []] 1 [(0,1,.str x)]=some (.sl h.next 0 1 (.kn 1),h.new (.cells false [.str x])):=rfl
theorem CK (h:H):Ev T 11 [] h (λv h'=>v= .bool true/\Fr h h'):=by
 refine dW Em rfl ?_;simp(disch:=omega)only[go_sem,Em,aE];refine (Ls h).mono ?_;rintro _ h1 ⟨c0,c1,c2,c3,O0,R0,O1,R1,O2,R2,O3,R3,rfl,d,n,l,m,f1⟩;obtain⟨Y,q0,rfl,a0,b0⟩:=d.shape;obtain⟨p1,q1,rfl,a1,b1⟩:=n.shape;obtain⟨p2,q2,rfl,a2,b2⟩:=l.shape;obtain⟨p3,q3,rfl,a3,b3⟩:=m.shape;obtain⟨A,hA⟩:=exI h1.next;obtain⟨k1,e1,n1,g1,o1,F1⟩:=dK hA [aC 0,.aD,.aD];obtain⟨k2,e2,n2,g2,o2,F2⟩:=dK n1 [aC 0,.aD,.aD];obtain⟨k3,e3,n3,g3,o3,F3⟩:=dK n2 [aC 0,.aD,.aD];obtain⟨z,e4,n4,g4,N,F4⟩:=dK n3 [aC 0,.aD,.aD];have z1:z.get A=aF [aC 0,.aD,.aD]:=by rw[N _ om,o3 _ om,o2 _ om];exact g1
 have z2:z.get (A+1)=aF [aC 0,.aD,.aD]:=by rw[N _ om,o3 _ om];exact g2
 have z3:z.get (A+1+1)=aF [aC 0,.aD,.aD]:=by rw[N _ om];exact g3
 obtain⟨W,e5,n5,g5,B⟩:=mV z A [aC (4:Nat),Y,q0];obtain⟨k6,e6,n6,g6,O⟩:=mV W (A+1) [aC (4:Nat),p1,q1];obtain⟨k7,e7,n7,g7,F⟩:=mV k6 (A+1+1) [aC (4:Nat),p2,q2];obtain⟨c,e8,n8,g8,J⟩:=mV k7 (A+1+1+1) [aC (5:Nat),p3,q3];have y2:W.get (A+1)=aF [aC 0,.aD,.aD]:=by rw[B _ om];exact z2
 have y3:k6.get (A+1+1)=aF [aC 0,.aD,.aD]:=by rw[O _ om,B _ om];exact z3
 have y4:k7.get (A+1+1+1)=aF [aC 0,.aD,.aD]:=by rw[F _ om,O _ om,B _ om];exact g4
 have b:Fr h1 c:=⟨om,λq hq=>by rw[J q om,F q om,O q om,B q om,N q om,o3 q om,o2 q om,o1 q om]⟩
 have r1: ∀a,Fr c a->a.row A 0 3=some [aC (4:Nat),Y,q0]:=λa f=>aJ (by rw[f.get A om,J _ om,F _ om,O _ om];exact g5)
 have r2: ∀a,Fr c a->a.row (A+1) 0 3=some [aC (4:Nat),p1,q1]:=λa f=>aJ (by rw[f.get _ om,J _ om,F _ om];exact g6)
 have r3: ∀a,Fr c a->a.row (A+1+1) 0 3=some [aC (4:Nat),p2,q2]:=λa f=>aJ (by rw[f.get _ om,J _ om];exact g7)
 have r4: ∀a,Fr c a->a.row (A+1+1+1) 0 3=some [aC (5:Nat),p3,q3]:=λa f=>aJ (by rw[f.get _ om];exact g8)
 simp(disch:=omega)only[go_sem,hA,e1,n1,e2,n2,e3,n3,e4,cF z A 0 (v:= aC (4:Nat)) (u:=Y) (w:=q0) rfl a0 b0,z1,cH,e5,cF W (A+1) 0 (v:= aC (4:Nat)) (u:=p1) (w:=q1) rfl a1 b1,y2,e6,cF k6 (A+1+1) 0 (v:= aC (4:Nat)) (u:=p2) (w:=q2) rfl a2 b2,y3,e7,cF k7 (A+1+1+1) 0 (v:= aC (5:Nat)) (u:=p3) (w:=q3) rfl a3 b3,y4,e8,r1 c (Fr.refl _)];refine (vA _ 4 O0 R0 _ c (d.mono b)).mono ?_;rintro _ h2 ⟨v2,Q,l2,rfl,s2,a9,uU,f2⟩;simp(disch:=omega)only[go_sem,r3 h2 f2];refine (Pe _ 4 O2 R2 _ h2 (l.mono (b.trans f2))).mono ?_;rintro _ h3 ⟨v3,c5,l3,rfl,s3,c9,b7,f3⟩;have w2:=Xj d.isc uU;have w3:=Zp l.isc b7;have L2:l2.length<=6000:=by have:=congrArg List.length w2;rw[iA] at this;rw[this];decide
 have L3:l3.length<=6000:=by have:=congrArg List.length w3;rw[iA] at this;rw[this];decide
 obtain⟨h4,c7,d5,b8,e0,f4⟩:=dK (h:=h3) rfl (ints [24,12,4,1]);have o:=f3.trans f4;simp(disch:=omega)only[go_sem,Gh,c7];have b4: ∀q,Fr c q->Fr h q:=λq f=>f1.trans (b.trans f)
 refine (lZ v2 _ 4 Q l2 [24,12,4,1] h4 (s2.mono o) (aN.mono (λ_ _ ⟨G,g,_⟩=>⟨G,g.mono o⟩) a9) L2 (SV.all rfl om b8 _) w2).mono ?_;rintro _ h5 ⟨rfl,f5⟩;obtain⟨h6,R,d7,a8,d4,f6⟩:=dK (h:=h5) rfl (ints [8,2,1]);have c8:=f5.trans f6;have k:=f4.trans c8;simp(disch:=omega)only[go_sem,RT,R];refine (lZ v3 _ 4 c5 l3 [8,2,1] h6 (s3.mono k) (aN.mono (λ_ _ ⟨G,g,_⟩=>⟨G,g.mono k⟩) c9) L3 (SV.all rfl om a8 _) w3).mono ?_;rintro _ h7 ⟨rfl,f7⟩;have t:Fr c h7:=f2.trans (f3.trans (k.trans f7));obtain⟨h8,b9,d8,a5,d1,f8⟩:=dK (h:=h7) rfl [.str [67,50],.str [67,50],.str [67,50],.str [67,51]];have s:=t.trans f8;simp(disch:=omega)only[go_sem,r1 h7 t,ahN,b9];refine (Vp _ _ 4 O0 R0 _ [[67,50], [67,50], [67,50], [67,51]] h8 (d.mono (b.trans s)) (SV.all (len:=4) rfl om a5 _) λL K rs E p y=>afX E p y).mono ?_;rintro _ h9 ⟨rfl,f9⟩;have x:=s.trans f9;obtain⟨a7,b6,d2,c4,d0,P⟩:=dK (h:=h9) rfl [.str [67,50],.str [67,50]];have i:=x.trans P;simp(disch:=omega)only[go_sem,r2 h9 x,agY,b6];refine (Vp _ _ 4 O1 R1 _ [[67,50], [67,50]] a7 (n.mono (b.trans i)) (SV.all (len:=2) rfl om c4 _) λL K rs E p y=>afD E p y).mono ?_;rintro _ r ⟨rfl,b5⟩;have j:=i.trans b5;obtain⟨U,c6,d3,a6,d9,a4⟩:=dK (h:=r) rfl [.str [65,53]];have e:=j.trans a4;simp(disch:=omega)only[go_sem,r4 r j,ahD,c6];refine (Vp _ _ 5 O3 R3 _ [[65,53]] U (m.mono (b.trans e)) (SV.all (len:=1) rfl om a6 _) λL K rs E p y=>agQ E p y).mono ?_;rintro _ d6 ⟨rfl,Z⟩;simp(disch:=omega)only[go_sem];exact b4 _ (e.trans Z)
theorem Ox (vc:V)(d:Int)(O:List (List Int))(R:List (List (List Int)))(h:H)(hc:YD h vc d O R):
  Ev T 5 [vc] h (λv h'=>v= .bool true/\Fr h h'):=by
 have k:=hc
 obtain⟨vO,vR,rfl,sO,sR⟩:=hc
 refine dW jH rfl ?_
 have a3:vO.one=true:=by obtain⟨_,t,_⟩:=sO;exact t.cT.2.1
 have a4:vR.one=true:=by obtain⟨_,t,_⟩:=sR;exact t.cT.2.1
 obtain⟨B,hB⟩: ∃B,h.next=B:=⟨_,rfl⟩
 obtain⟨o,e1,n1,g1,o1,g⟩:=dK hB [.int .i64 d,vO,vR]
 have bx:=bV h (v:= .int .i64 d) (u:=vO) (w:=vR) rfl a3 a4
 have G: ∀a,Fr o a->a.row B 0 3=some [.int .i64 d,vO,vR]:=λa f=>aJ (by rw[f.get B om];exact g1)
 simp(disch:=omega)only[go_sem,jH,aE,bx,hB,e1,G o (Fr.refl _)]
 refine (VW _ d O R o (k.mono g)).mono ?_
 rintro _ F ⟨hv,F2⟩
 rcases hv with rfl|⟨rfl,sm⟩
 ·simp(disch:=omega)only[go_sem]
  refine (CK F).mono ?_
  rintro _ j ⟨rfl,f3⟩
  simp(disch:=omega)only[go_sem]
  exact (g.trans F2).trans f3
 obtain⟨so,sr⟩:=sm.small
 have hd:d<=7∨64<d:=by have:=sm.deg;omega
 by_cases hb:Wa d O R=0
 case neg=>
  simp(disch:=omega)only[go_sem,G F F2];refine (Yj _ d O R F (k.mono (g.trans F2)) hd so sr hb).mono ?_;rintro _ j ⟨rfl,f3⟩;have i:=F2.trans f3;simp(disch:=omega)only[go_sem,G j i];refine (Py _ d O R j (k.mono (g.trans i)) hd so sr hb).mono ?_;rintro _ p ⟨rfl,A⟩;have Z:=i.trans A;simp(disch:=omega)only[go_sem];refine (Cc (W:=λ_=>False) (W':=λ_=>False) .aD .aD 0 [] [] [] [] p (SV.aD _ 3) (SV.aD _ 3) trivial trivial (by decide)).mono ?_;rintro _ J ⟨rfl,f5⟩;have F5:=Z.trans f5;simp(disch:=omega)only[go_sem,eq_self,decide_true];refine (CK J).mono ?_;rintro _ h6 ⟨rfl,U⟩;simp(disch:=omega)only[go_sem];exact g.trans (F5.trans U)
 obtain⟨n,O',s,rfl,rfl,rfl,gc⟩:=aaW k hd hb
 obtain⟨L,hL⟩: ∃L,dM O' s n 0 (aX n)=L:=⟨_,rfl⟩
 simp(disch:=omega)only[go_sem,G F F2]
 refine (Dp _ n O' s _ F (gc.mono (g.trans F2))).mono ?_
 rintro v3 j ⟨L',eL,y⟩
 obtain rfl:=hL.symm.trans eL
 obtain⟨K,ik⟩:=KC n (BZ n s) L
 have l: ∀(N m:List (List Nat)),Aq n (BZ n s) L N->N.length<=200->m.Nodup->(∀r∈m,yW n (BZ n s) L r)-> ¬200<m.length:=λN m o F j p J=>by
  have:=List.Nodup.length_le_of_subset j λx hx=>(o.mem x).2 (p x hx)
  omega
 have rn: ∀a,Fr o a->Ev T 27 [.agg [.int .i64 (n:Int),vO,vR]] a (aiK n (BZ n s) L a):=λa f=>Zn _ n O' s _ L K a (gc.mono (g.trans f)) hL ik
 have a6: ∀a,Fr o a-> ∀hz,Fr a hz->Fr h hz:=λa f hz f2=>g.trans (f.trans f2)
 obtain⟨y,f3⟩:=y
 have i:=F2.trans f3
 rcases y with ⟨vl,ls,N,rfl,al,l2,sv,a1⟩|⟨rfl,m,q,c,b⟩
 ·simp(disch:=omega)only[go_sem,G j i]
  refine (rn j i).mono ?_
  rintro v4 p ⟨e,A⟩
  have Z:=i.trans A
  rcases e with ⟨a5,P,Y,rfl,z,a0,Q,a2⟩|⟨rfl,m,q,c,b⟩
  ·obtain rfl:=al.uniq z
   simp(disch:=omega)only[go_sem]
   refine (Cc vl a5 n L ls P N p (sv.mono A) Q (aN.mono (λ_ _ x=>BM.go x (Fx.of A) λ_ _ h=>h) a1) a2 om).mono ?_
   rintro _ J ⟨rfl,f5⟩
   have F5:=Z.trans f5
   simp(disch:=omega)only[go_sem,eq_self,decide_true]
   refine (CK J).mono ?_
   rintro _ h6 ⟨rfl,U⟩
   simp(disch:=omega)only[go_sem]
   exact g.trans (F5.trans U)
  ·exact absurd b (l N m al l2 q c)
 ·simp(disch:=omega)only[go_sem,G j i]
  refine (rn j i).mono ?_
  rintro v4 p ⟨e,A⟩
  have Z:=i.trans A
  rcases e with ⟨a5,P,Y,rfl,z,a0,Q,a2⟩|⟨rfl,_⟩
  ·exact absurd b (l Y m z a0 q c)
  ·simp(disch:=omega)only[go_sem]
   refine (Cc (W:=λ_=>False) (W':=λ_=>False) .aD .aD 0 [] [] [] [] p (SV.aD _ 3) (SV.aD _ 3) trivial trivial (by decide)).mono ?_
   rintro _ J ⟨rfl,f5⟩
   have F5:=Z.trans f5
   simp(disch:=omega)only[go_sem,eq_self,decide_true]
   refine (CK J).mono ?_
   rintro _ h6 ⟨rfl,U⟩
   simp(disch:=omega)only[go_sem]
   exact g.trans (F5.trans U)
end Go.Proofs.YtcdbmkidaecdiaaGreat
