/- Texts of the claim. -/
import Derived.Test.YtapfcpkecmmagaaGreatP5otoSc6
import Derived.Test.YtapfcpkecmmagaaGreatDp2toP4a
import Derived.Test.YtapfcpkecmmagaaGreatP5a
set_option maxHeartbeats 32000000
namespace Go.Proofs.YtapfcpkecmmagaaGreat.Cls
open Go Go.Ay Go.Sort
set_option maxRecDepth 100000
theorem Sr {α:Type}[Inhabited α][O:bG α](h:H)(S N:Nat)(d:Array α)(cp:qC)(hN:N<60000)(A:dM h S N d):
  Ev T 88 [.sl S 0 N cp,.fn (bG.f α) [] []] h (λ_ h'=> ∃e,dM h' S N e/\PermIn 0 N d e/\SortedIn bG.lt 0 N e/\Fx (· =S) h h'):=by
 refine bL dB rfl rfl ?_
 have hb:bitsLen N<=16:=(bitsLen_le_iff _ 16).2 (by omega)
 simp(disch:=omega)only[go_sem,dB,aE,fQ (n:=(N:Int)) (by omega) (by omega)]
 refine (Wh N h (by omega)).mono ?_
 rintro _ h1 ⟨rfl,hh⟩
 subst hh
 simp(disch:=omega)only[go_sem]
 refine (Qd N h1 S N 0 N _ d cp hN A (by omega) (by omega) (by omega) (by omega) (by omega) (.inl rfl)).mono ?_
 rintro _ h2 ⟨e,A2,p,s,F⟩
 simp(disch:=omega)only[go_sem]
 exact⟨e,A2,p,s,F⟩
theorem yY (a:Int)(h:H):Ev T 147 [aB a] h (λv h'=>v= .bool false/\h'=h):=by
 refine bL kF rfl rfl ?_;have e:decide (a≠a)=false:=iV (by omega);simp(disch:=omega)only[go_sem,kF,aE,e]
def xI (a b:Int):Int:=if a<b then -1 else if b<a then 1 else 0
theorem Ba (a b:Int)(h:H):Ev T 114 [aB a,aB b] h (λv h'=>v= aB (xI a b)/\Fr h h'):=by
 refine bL oE rfl rfl ?_;simp(disch:=omega)only[go_sem,oE,aE];refine (yY a h).mono ?_;rintro _ h1 ⟨rfl,rfl⟩;simp(disch:=omega)only[go_sem];refine (yY b h1).mono ?_;rintro _ h2 ⟨rfl,rfl⟩;simp(disch:=omega)only[go_sem];unfold xI
 by_cases h1:a<b
 ·have d1:decide (a<b)=true:=decide_eq_true h1
  simp(disch:=omega)only[go_sem,d1,if_pos h1];exact Fr.refl _
 ·have d1:decide (a<b)=false:=decide_eq_false h1
  by_cases h3:b<a
  ·have d2:decide (b<a)=true:=decide_eq_true h3
   simp(disch:=omega)only[go_sem,d1,d2,if_neg h1,if_pos h3];exact Fr.refl _
  ·have d2:decide (b<a)=false:=decide_eq_false h3
   simp(disch:=omega)only[go_sem,d1,d2,if_neg h1,if_neg h3];exact Fr.refl _
def GF:List Int->Int
 | []=>0
 |x::r=>if x=0 then GF r else x
theorem KF {l:List Int}{i:Nat}(hi:i<l.length)(h:l.getD i 0=0):GF (l.drop i)=GF (l.drop (i+1)):=by
 rw[List.drop_eq_getElem_cons hi];show (if l[i]=0 then _ else _)=_;rw[if_pos (by rw[List.getD,gW hi] at h;exact h)]
theorem UK {l:List Int}{i:Nat}(hi:i<l.length)(h:l.getD i 0≠0):GF (l.drop i)=l.getD i 0:=by
 rw[List.drop_eq_getElem_cons hi];show (if l[i]=0 then _ else l[i])=_;have e:l.getD i 0=l[i]:=by rw[List.getD,gW hi];rfl
 rw[if_neg (by rw[←e];exact h),e]
theorem aaX (u:V)(l:List Int)(h:H)(hl:l.length<1000000)(hu:SI h u l):Ev T 93 [u] h (λv h'=>v= aB (GF l)/\Fr h h'):=by
 refine bL wZ rfl rfl ?_;have lu:=hu.lens;obtain⟨id,off,sh,hid,hc⟩:=hu.open;simp(disch:=omega)only[go_sem,wZ,aE,lu];refine aJ (λk' vs hh=> ∃(i:Nat),(∃g:Nat->V,vs= [u,aB 0,aB 0,g 3,u,aB (l.length:Int),aB i,g 7,g 8])/\i<=l.length/\GF (l.drop i)=GF l/\Fr h hh/\k'=l.length-i) l.length
   ⟨0,aA rfl,lB _,rfl,Fr.refl h,rfl⟩ ?_
 rintro k' vars h2 ⟨i,⟨g,rfl⟩,hi,ho,f,rfl⟩
 by_cases hlt:(i:Int)<(l.length:Int)
 ·have d4:=mO hlt
  have hi':i<l.length:=by omega
  have ci:h2.cell id (off+i)=some (aB (l.getD i 0)):=by rw[f.cell (hid (by omega)),hc i hi']
  generalize hx:l.getD i 0=x at ci;simp(disch:=omega)only[go_sem,d4,sh.ixa,ci]
  by_cases hz:x=0
  ·have d5:decide (x≠0)=false:=decide_eq_false (by simpa using hz)
   simp(disch:=omega)only[go_sem,d5];rw[jE i];exact⟨l.length-(i+1),by omega,i+1,aA rfl,by omega,by rw[←KF hi' (hx.trans hz)];exact ho,f.bM (by omega),rfl⟩
  ·have d5:decide (x≠0)=true:=decide_eq_true hz
   simp(disch:=omega)only[go_sem,d5];exact⟨by rw[←ho,UK hi' (by rw[hx];exact hz),hx],f.bM (by omega)⟩
 have d4:=iV hlt;obtain rfl:i=l.length:=by omega
 simp(disch:=omega)only[go_sem,d4];rw[List.drop_length] at ho;exact⟨by rw[←ho];rfl,f⟩
structure KE where
 rep:V
 ord:Nat
 size:Nat
 ranks:V
 fst:Nat
 hrep:rep.cells= [rep]/\rep.one=true/\eM rep rep=true
 hranks:ranks.cells= [ranks]/\ranks.one=true/\eM ranks ranks=true
instance:Inhabited KE:=⟨⟨.aC,0,0,.aC,0,⟨rfl,rfl,rfl⟩,⟨rfl,rfl,rfl⟩⟩⟩
def KE.enc (a:KE):List V:= [a.rep,aB (a.ord:Int),aB (a.size:Int),a.ranks]
def KE.cmp (a b:KE):Int:=GF [xI a.ord b.ord,xI a.size b.size,xI a.fst b.fst]
def KE.lt (a b:KE):Bool:=decide (a.cmp b<0)
theorem Cd (a:KE)(h:H):Fz h (.agg a.enc)=some (.ptr h.next 0,h.new (.cells false a.enc)):=uX h _ (by simp [KE.enc,a.hrep.2.1,a.hranks.2.1,show (aB (a.ord:Int)).one=true from rfl,show (aB (a.size:Int)).one=true from rfl])
theorem FO (a b:KE)(h:H):Ev T 90 [.agg a.enc,.agg b.enc] h (λv h'=>v= aB (xI a.ord b.ord)/\Fr h h'):=by
 refine bL kM rfl rfl ?_;obtain⟨A,hA⟩:=exI h.next;obtain⟨h1,e1,n1,g1,o1,f1⟩:=iL hA a.enc;obtain⟨h2,e2,n2,g2,o2,f2⟩:=iL n1 b.enc;have gA:h2.get A=some (.cells false a.enc):=by rw[o2 _ (by omega)];exact g1
 have cA:h2.cell A 1=some (aB (a.ord:Int)):=by rw[H.aF gA];rfl
 have cB:h2.cell (A+1) 1=some (aB (b.ord:Int)):=by rw[H.aF g2];rfl
 simp(disch:=omega)only[go_sem,kM,aE,Cd,hA,e1,n1,e2,cA,cB];refine (Ba _ _ h2).mono ?_;rintro _ h3 ⟨rfl,f3⟩;simp(disch:=omega)only[go_sem];exact (f1.trans f2).trans f3
theorem LS (a b:KE)(h:H):Ev T 91 [.agg a.enc,.agg b.enc] h (λv h'=>v= aB (xI a.size b.size)/\Fr h h'):=by
 refine bL kZ rfl rfl ?_;obtain⟨A,hA⟩:=exI h.next;obtain⟨h1,e1,n1,g1,o1,f1⟩:=iL hA a.enc;obtain⟨h2,e2,n2,g2,o2,f2⟩:=iL n1 b.enc;have gA:h2.get A=some (.cells false a.enc):=by rw[o2 _ (by omega)];exact g1
 have cA:h2.cell A 2=some (aB (a.size:Int)):=by rw[H.aF gA];rfl
 have cB:h2.cell (A+1) 2=some (aB (b.size:Int)):=by rw[H.aF g2];rfl
 simp(disch:=omega)only[go_sem,kZ,aE,Cd,hA,e1,n1,e2,cA,cB];refine (Ba _ _ h2).mono ?_;rintro _ h3 ⟨rfl,f3⟩;simp(disch:=omega)only[go_sem];exact (f1.trans f2).trans f3
def KE.At (h:H)(a:KE):Prop:= ∃id off n cap,a.ranks= .sl id off (n+1) cap/\id<h.next/\h.cell id off=some (aB (a.fst:Int))
theorem BM (a b:KE)(h:H)(ha:a.At h)(hb:b.At h):Ev T 92 [.agg a.enc,.agg b.enc] h (λv h'=>v= aB (xI a.fst b.fst)/\Fr h h'):=by
 refine bL kO rfl rfl ?_;obtain⟨A,hA⟩:=exI h.next;obtain⟨h1,e1,n1,g1,o1,f1⟩:=iL hA a.enc;obtain⟨h2,e2,n2,g2,o2,f2⟩:=iL n1 b.enc;obtain⟨ia,oa,na,ca,ea,la,ga⟩:=ha;obtain⟨ib,ob,nb,cb,eb,lb,gb⟩:=hb;have F2:=f1.trans f2;have gA:h2.get A=some (.cells false a.enc):=by rw[o2 _ (by omega)];exact g1
 have cA:h2.cell A 3=some a.ranks:=by rw[H.aF gA];rfl
 have cB:h2.cell (A+1) 3=some b.ranks:=by rw[H.aF g2];rfl
 rw[ea] at cA;rw[eb] at cB;have ra:h2.cell ia oa=some (aB (a.fst:Int)):=by rw[F2.cell la];exact ga
 have rb:h2.cell ib ob=some (aB (b.fst:Int)):=by rw[F2.cell lb];exact gb
 simp(disch:=omega)only[go_sem,kO,aE,Cd,hA,e1,n1,e2,cA,cB,ra,rb];refine (Ba _ _ _).mono ?_;rintro _ h3 ⟨rfl,f3⟩;have F3:Fr h2 h3:=((Fr.refl h2).bM (by omega)).trans f3;have ha:=F2.next;have cA3:h3.cell A 3=some (.sl ia oa (na+1) ca):=by rw[F3.cell (by omega)];exact cA
 have cB3:h3.cell (A+1) 3=some (.sl ib ob (nb+1) cb):=by rw[F3.cell (by omega)];exact cB
 have ra3:h3.cell ia oa=some (aB (a.fst:Int)):=by rw[F3.cell (by omega)];exact ra
 have rb3:h3.cell ib ob=some (aB (b.fst:Int)):=by rw[F3.cell (by omega)];exact rb
 simp(disch:=omega)only[go_sem,cA3,cB3,ra3,rb3];exact F2.trans F3
theorem zG {h:H}{A:Nat}{ro:Bool}{a:KE}(hg:h.get A=some (.cells ro a.enc)):h.row A 0 4=some a.enc:=by
 simp [H.row,hg,sub,KE.enc]
theorem Dm (a:KE):eM (.agg a.enc) (.agg a.enc)=true:=by
 show rX a.enc a.enc=true;simp [KE.enc,rX,eM,a.hrep.2.2,a.hranks.2.2]
theorem KE.At.fr {a:KE}{h h':H}(x:a.At h)(f:Fr h h'):a.At h':=by
 obtain⟨ia,oa,na,ca,ea,la,ga⟩:=x;exact⟨ia,oa,na,ca,ea,kL la f.next,by rw[f.cell la];exact ga⟩
theorem Vs (h:H)(x y z:Int):tN h 1 [aB 0] 3 [(0,1,aB x),(1,1,aB y),(2,1,aB z)]=some (.sl h.next 0 3 (.kn 3),h.new (.cells false (ints [x,y,z]))):=rfl
theorem SA (a b:KE)(h:H)(ha:a.At h)(hb:b.At h):Ev T 89 [.agg a.enc,.agg b.enc] h (λv h'=>v= aB (a.cmp b)/\Fr h h'):=by
 refine bL rT rfl rfl ?_;obtain⟨A,hA⟩:=exI h.next;obtain⟨h1,e1,n1,g1,o1,f1⟩:=iL hA a.enc;obtain⟨h2,e2,n2,g2,o2,f2⟩:=iL n1 b.enc;have F2:=f1.trans f2;have gA:h2.get A=some (.cells false a.enc):=by rw[o2 _ (by omega)];exact g1
 simp(disch:=omega)only[go_sem,rT,aE,Cd,hA,e1,n1,e2,zG gA,zG g2,Dm,H.Rg];have hn:=F2.next;refine (FO a b _).mono ?_;rintro _ h3 ⟨rfl,f3⟩;have F3:Fr h2 h3:=((Fr.refl h2).bM (by omega)).trans f3;have gB3:h3.get (A+1)=some (.cells false b.enc):=by rw[F3.get _ (by omega)];exact g2
 simp(disch:=omega)only[go_sem,zG gB3,Dm];refine (LS a b _).mono ?_;rintro _ h4 ⟨rfl,f4⟩;have F4:=F3.trans f4;have gB4:h4.get (A+1)=some (.cells false b.enc):=by rw[F4.get _ (by omega)];exact g2
 simp(disch:=omega)only[go_sem,zG gB4,Dm];refine (BM a b _ (ha.fr (F2.trans F4)) (hb.fr (F2.trans F4))).mono ?_;rintro _ h5 ⟨rfl,f5⟩;have F5:=F4.trans f5;have gB5:h5.get (A+1)=some (.cells false b.enc):=by rw[F5.get _ (by omega)];exact g2
 simp(disch:=omega)only[go_sem,zG gB5,Dm];obtain⟨I,hI⟩:=exI (h2.next+9+9);have n5:=f5.next;have n4:=f4.next;have n3:h2.next+9+12<=h3.next:=f3.next;simp(disch:=omega)only[go_sem,hI,Vs]
 obtain⟨h6,h6e⟩: ∃h6:H,h6=H.mk ((H.mk h5.tr I).new (Ob.cells false (ints [xI a.ord b.ord,xI a.size b.size,xI a.fst b.fst]))).tr h5.next:=⟨_,rfl⟩
 rw[←h6e];have g6:h6.get I=bY (ints [xI a.ord b.ord,xI a.size b.size,xI a.fst b.fst]):=by rw[h6e];exact H.aL (H.mk h5.tr I) _
 have n6:h6.next=h5.next:=by rw[h6e]
 have o6: ∀k,k≠I->h6.get k=h5.get k:=λk hk=>by rw[h6e];exact H.bB (H.mk h5.tr I) (by simpa using hk) _
 have F6:Fr h2 h6:=⟨by have:=F5.next;omega,λk hk=>by rw[o6 k (by omega)];exact F5.get k hk⟩
 refine (aaX _ [xI a.ord b.ord,xI a.size b.size,xI a.fst b.fst] h6 (by simp) (SV.all (by simp [aI]) (by omega) g6 _)).mono ?_;rintro _ h7 ⟨rfl,f7⟩;have F7:=F6.trans f7;have gB7:h7.get (A+1)=some (.cells false b.enc):=by rw[F7.get _ (by omega)];exact g2
 simp(disch:=omega)only[go_sem,zG gB7,Dm];exact⟨rfl,F2.trans F7⟩
theorem KE.lt_iff (a b:KE):a.lt b=true↔a.ord<b.ord∨a.ord=b.ord/\(a.size<b.size∨a.size=b.size/\a.fst<b.fst):=by
 unfold KE.lt KE.cmp GF GF GF GF xI;rw[decide_eq_true_eq]
 repeat' split
 all_goals omega
theorem ZS:SWO KE.lt where
 irrefl x:=by rw[←Bool.not_eq_true,KE.lt_iff];omega
 trans x y z h1 h2:=by rw[KE.lt_iff] at*;omega
 ntrans x y z h1 h2:=by rw[←Bool.not_eq_true,KE.lt_iff] at*;omega
def KE.Pp (hB:H)(b0 S:Nat)(a:KE):Prop:= ∃id off n cap,a.ranks= .sl id off (n+1) cap/\id<b0/\id≠S/\hB.cell id off=some (aB (a.fst:Int))
def Bb (hB:H)(b0 S:Nat)(h:H):Prop:=b0<=h.next/\ ∀q,q<b0->q≠S->h.get q=hB.get q
theorem KE.Pp.at {hB h:H}{b0 S:Nat}{a:KE}(p:a.Pp hB b0 S)(b:Bb hB b0 S h):a.At h:=by
 obtain⟨id,off,n,cap,e,h1,h2,h3⟩:=p;refine⟨id,off,n,cap,e,kL h1 b.1,?_⟩;rw[←h3];unfold H.cell;rw[b.2 id h1 h2]
@[reducible] def aaN (hB:H)(b0 S:Nat):bG KE where
 lt:=KE.lt
 enc:=KE.enc
 P:=KE.Pp hB b0 S
 B:=Bb hB b0 S
 f:=89
 b0:=b0
 S:=S
 swo:=ZS
 len _:=rfl
 one a:=by simp [KE.enc,a.hrep.2.1,a.hranks.2.1,show (aB (a.ord:Int)).one=true from rfl,show (aB (a.size:Int)).one=true from rfl]
 eqv:=Dm
 cmp h a b hb pa pb:=(SA a b h (pa.at hb) (pb.at hb)).mono λv h' ⟨e,f⟩=>⟨_,e,rfl,f⟩
 bfr h h' b f:=⟨Nat.le_trans b.1 f.next,λq h1 h2=>by rw[f.get q (kL h1 b.1)];exact b.2 q h1 h2⟩
 bS h h' b f:=⟨Nat.le_trans b.1 f.next,λq h1 h2=>by rw[f.get q (kL h1 b.1) h2];exact b.2 q h1 h2⟩
 bR h h' R b hR f:=⟨Nat.le_trans b.1 f.next,λq h1 h2=>by rw[f.get q (kL h1 b.1) (λe=>by have:q=R:=e;omega)];exact b.2 q h1 h2⟩
 bn h b:=b.1
theorem Hl {l:List KE}{N:Nat}(hl:l.length=N){e:Array KE}(hp:PermIn 0 N l.toArray e)(hs:SortedIn KE.lt 0 N e):e.toList.Perm l/\e.toList.Pairwise (λa b=>KE.lt b a=false):=by
 obtain⟨p1,p2,p3⟩:=hp;have hsz:e.size=N:=by rw[p1];simpa using hl
 refine⟨?_,?_⟩
 ·have a1:(e.extract 0 N).toList=e.toList:=by rw[←hsz];simp
  have a2:(l.toArray.extract 0 N).toList=l:=by rw[←hl];simp
  rwa [a1,a2] at p3
 ·rw[List.pairwise_iff_getElem]
  intro i j hi hj hij;have hj':j<N:=by simpa [hsz] using hj
  have:=hs i j (lB _) hij hj';have e1:e[i]! =e.toList[i]:=by simp at hi;simp [hi]
  have e2:e[j]! =e.toList[j]:=by simp at hj;simp [hj]
  rw[e1,e2] at this;exact this
def pQ (l:List KE):List V:=l.flatMap KE.enc
theorem GX (h:H)(S b0:Nat)(l:List KE)(cp:qC)(hN:l.length<60000)(hg:h.get S=bY (pQ l))(hS:S<h.next)(hb:b0<=h.next)(hP: ∀a∈l,a.Pp h b0 S):
  Ev T 88 [.sl S 0 l.length cp,.fn 89 [] []] h (λ_ h'=> ∃l',h'.get S=bY (pQ l')/\l'.Perm l/\l'.Pairwise (λa b=>KE.lt b a=false)/\Fx (· =S) h h'):=by
 letI:=aaN h b0 S
 have A:dM h S l.length l.toArray:=⟨hg,by simp,hS,rfl,⟨hb,λ_ _ _=>rfl⟩,λi hi=>by
  have hi':i<l.length:=by simpa using hi
  have:l.toArray[i]! =l[i]:=by simp [hi']
  rw[this]
  exact hP _ (List.getElem_mem hi')⟩
 refine (Sr h S l.length l.toArray cp hN A).mono ?_
 rintro _ h' ⟨e,A2,p,s,F⟩
 obtain⟨q1,q2⟩:=Hl rfl p s
 exact⟨e.toList,A2.get,q1,q2,F⟩
end Go.Proofs.YtapfcpkecmmagaaGreat.Cls
namespace Go.Proofs.YtapfcpkecmmagaaGreat
open Go Go.Ay Go.Pm
set_option maxRecDepth 100000
section
variable {i j p:Nat} {S:LN} {Q:List Nat}
section
variable {n:Nat} {G:List Nat->Prop} {L:LN}
theorem Jo {l:LN}(nd:l.Nodup)(hi:i<l.length)(hj:j<l.length)(e:l.getD i []=l.getD j []):i=j:=by
 have ei:l.getD i []=l[i]:=by rw[List.getD,gW hi];rfl
 have ej:l.getD j []=l[j]:=by rw[List.getD,gW hj];rfl
 rw[ei,ej] at e;have h:=List.pairwise_iff_getElem.1 nd;rcases Nat.lt_trichotomy i j with h1|h1|h1
 ·exact absurd e (h i j hi hj h1)
 ·exact h1
 ·exact absurd e.symm (h j i hj hi h1)
def cR (G:List Nat->Prop)(L:LN)(i j:Nat):Prop:=cj G (L.getD i []) (L.getD j [])
open Classical in
noncomputable def jF (G:List Nat->Prop)(L:LN)(i:Nat):List Nat:=(List.range L.length).filter λj=>decide (cR G L i j)
theorem mG:j∈jF G L i↔j<L.length/\cR G L i j:=by
 classical
 unfold jF;rw[KW,Hm,decide_eq_true_iff]
theorem Ud (i:Nat):(jF G L i).Pairwise (· < ·):=by
 classical
 unfold jF;exact List.Pairwise.filter _ List.pairwise_lt_range
theorem Jf (i:Nat):(jF G L i).Nodup:=by
 classical
 unfold jF;exact List.Pairwise.filter _ List.nodup_range
def AE (G:List Nat->Prop)(L:LN)(i:Nat):Prop:= ∀j,j<i-> ¬cR G L j i
open Classical in
noncomputable def jR (G:List Nat->Prop)(L:LN)(k:Nat):List Nat:=(List.range k).filter λj=>decide (AE G L j)
theorem Jh (k:Nat):(AE G L k->jR G L (k+1)=jR G L k++ [k])/\(¬AE G L k->jR G L (k+1)=jR G L k):=by
 classical
 unfold jR;rw[List.range_succ,List.filter_append];refine⟨λh=>?_,λh=>?_⟩
 ·rw[List.filter_cons_of_pos (by simpa using h)];rfl
 ·rw[List.filter_cons_of_neg (by simpa using h),List.filter_nil,List.append_nil]
theorem rG {k:Nat}:i∈jR G L k↔i<k/\AE G L i:=by
 classical
 unfold jR;rw[KW,Hm,decide_eq_true_iff]
variable (hG:sW n G) (E:fI G L)
include hG E
omit hG in
theorem Ak (hi:i<L.length):G (L.getD i []):=(E.mem _).1 (bD hi)
theorem mP (hi:i<L.length):bE n (L.getD i []):=hG.dV (Ak E hi)
theorem Gx (hi:i<L.length):cR G L i i:=QW hG (mP hG E hi)
theorem By (hi:i<L.length)(h:cR G L i j):cR G L j i:=SN hG (mP hG E hi) h
theorem pZ {k:Nat}(hi:i<L.length)(h:cR G L i j)(h2:cR G L j k):cR G L i k:=NJ hG (mP hG E hi) h h2
theorem XK (hi:i<L.length): ∃r,r<=i/\AE G L r/\cR G L r i:=by
 induction i using Nat.strongRecOn with
 |_ i ih=>
  by_cases h:AE G L i
  ·exact⟨i,iI _,h,Gx hG E hi⟩
  ·obtain⟨j,hj,hc⟩: ∃j,j<i/\cR G L j i:=Lf λhn=>h λj hj hc=>hn ⟨j,hj,hc⟩
   obtain⟨r,h1,h2,h3⟩:=ih j hj (by omega);exact⟨r,by omega,h2,pZ hG E (by omega) h3 hc⟩
theorem GP {r s:Nat}(hr:r<L.length)(hs:s<L.length)(h1:AE G L r)(h2:AE G L s)(c1:cR G L r i)(c2:cR G L s i):r=s:=by
 have a1:=pZ hG E hr c1 (By hG E hs c2);have a2:=pZ hG E hs c2 (By hG E hr c1);rcases Nat.lt_trichotomy r s with h|h|h
 ·exact absurd a1 (h2 r h)
 ·exact h
 ·exact absurd a2 (h1 s h)
omit hG E in
structure BQ (G:List Nat->Prop)(L S:LN)(i:Nat)(Q:List Nat)(p:Nat):Prop where
 nd:Q.Nodup
 ne:0<Q.length
 hd:Q.getD 0 0=i
 mem: ∀j∈Q,j<L.length/\cR G L i j
 cl: ∀k,k<p-> ∀s∈S,∃j∈Q,L.getD j []=iC (L.getD (Q.getD k 0) []) s
omit hG E in
theorem BQ.len (b:BQ G L S i Q p):Q.length<=L.length:=by
 have h:Q ⊆ List.range L.length:=λj hj=>Hm.2 (b.mem j hj).1
 have:=List.Nodup.length_le_of_subset b.nd h;rwa [List.length_range] at this
theorem BQ.done (b:BQ G L S i Q p)(hp:Q.length<=p)(hi:i<L.length)(hS: ∀s∈S,G s)(hgen: ∀x,G x->fC n (λg=>g∈S) x)(j:Nat):j∈Q↔j<L.length/\cR G L i j:=by
 refine⟨b.mem j,λ⟨hj,hc⟩=>?_⟩
 have key: ∃k∈Q,L.getD k []=L.getD j []:=by
  refine WV (S:=λg=>g∈S) (λg hg=>hG.dV (hS g hg)) hgen (P:=λy=> ∃k∈Q,L.getD k []=y) (mP hG E hi) ⟨i,by rw[←b.hd];exact bD b.ne,rfl⟩ ?_ hc;rintro y g Y ⟨k,hk,rfl⟩ hg;obtain⟨t,ht,et⟩:=Gg.1 hk;obtain⟨j2,h1,h2⟩:=b.cl t (by omega) g hg;have e:Q.getD t 0=k:=by rw[Pm.cK ht,et]
  rw[e] at h2;exact⟨j2,h1,h2⟩
 obtain⟨k,hk,e⟩:=key;have hkl:=(b.mem k hk).1;rw[←Jo E.nodup hkl hj e];exact hk
theorem BQ.sort (b:BQ G L S i Q p)(hp:Q.length<=p)(hi:i<L.length)(hS: ∀s∈S,G s)(hgen: ∀x,G x->fC n (λg=>g∈S) x){l':List Int}(h1:l'.Perm (zi Q))(h2:l'.Pairwise (· <= ·)):l'=zi (jF G L i):=by
 refine Tg (h1.trans ?_) h2 ?_
 ·refine List.Perm.map _ ((List.perm_ext_iff_of_nodup b.nd (Jf i)).2 λj=>?_)
  rw[b.done hG E hp hi hS hgen j,mG]
 ·unfold zi
  rw[List.pairwise_map];exact (Ud i).imp λh=>by omega
theorem Lm (hi:i<L.length)(hr:AE G L i):0<(jF G L i).length/\(jF G L i).getD 0 0=i:=by
 have hm:i∈jF G L i:=mG.2 ⟨hi,Gx hG E hi⟩;have hl:=List.length_pos_of_mem hm;refine⟨hl,?_⟩;have h0:=mG.1 (bD (d:=0) hl);obtain⟨k,hk,ek⟩:=Gg.1 hm;have asc:=List.pairwise_iff_getElem.1 (Ud (G:=G) (L:=L) i);rw[Pm.cK hl] at*
 by_cases hk0:k=0
 ·subst hk0;exact ek
 ·have h1:=asc 0 k hl hk (by omega)
  exact absurd (By hG E hi h0.2) (hr _ (by omega))
end
end
end Go.Proofs.YtapfcpkecmmagaaGreat
namespace Go.Ay
open Go
def Yd (o:Option Ob)(h:H)(id:Nat)(s:xC)(k y:V):Option (V×H):=match o with
 |some (.wmap sh es)=>if s=sh/\isKey s k=true then
   some (V.undef,h.set id (some (.wmap sh (match fN k es with
    |some e=>es.set e.1 (k,y)
    |none=>es++ [(k,y)]))))
  else none
 |_=>none
def YJ (s:xC)(h:H)(x k y:V):Option (V×H):=match x with
 | .mp id=>Yd (h.get id) h id s k y
 |_=>none
theorem PZ (ρ:X->V)(h:H)(s:xC)(x k y:X):cJ ρ h (.msw s x k y)=YJ s h (ρ x) (ρ k) (ρ y):=by
 simp only[cJ,YJ,Yd];cases ρ x<;>try rfl
theorem US (s:xC)(h:H)(id:Nat)(k y:V):YJ s h (.mp id) k y=Yd (h.get id) h id s k y:=rfl
def Lh (o:Option Ob)(s:xC)(zero:V)(ok:Bool)(k:V):Option V:=match o with
 |some (.wmap sh es)=>if s=sh/\isKey s k=true then
   match fN k es with
   |some e=>some (if ok then .tup [e.2,.bool true] else e.2)
   |none=>some (if ok then .tup [zero,.bool false] else zero)
  else none
 |_=>none
def aaI (s:xC)(zero:V)(ok:Bool)(h:H)(x k:V):Option V:=match x with
 | .mp id=>Lh (h.get id) s zero ok k
 |_=>none
theorem Qr (ρ:X->V)(h:H)(s:xC)(zero:V)(ok:Bool)(x k:X):cJ ρ h (.lkw s zero ok x k)=(aaI s zero ok h (ρ x) (ρ k)).map (·,h):=by
 simp only[cJ,aaI,Lh];cases ρ x<;>try rfl
 rename_i id;simp only
 cases hg:h.get id with
 |none=>rfl
 |some o=>
  cases o<;>try rfl
  rename_i sh es;simp only
  by_cases hc:s=sh/\isKey s (ρ k)=true
  ·rw[if_pos hc,if_pos hc]
   cases fN (ρ k) es<;>rfl
  ·rw[if_neg hc,if_neg hc];rfl
theorem Pk (s:xC)(zero:V)(ok:Bool)(h:H)(id:Nat)(k:V):aaI s zero ok h (.mp id) k=Lh (h.get id) s zero ok k:=rfl
attribute [go_sem] PZ US Qr Pk
end Go.Ay
namespace Go.Proofs.YtapfcpkecmmagaaGreat
open Go Go.Ay Go.Pm
set_option maxRecDepth 100000
def Rz (L:LN)(k:Nat):List (V×V):=(List.range k).map λi=>(V.str (L.getD i []),aB i)
theorem Dk (k:V): ∀(a b:List (V×V)),fN k a=none->fN k (a++b)=(fN k b).map λq=>(q.1+a.length,q.2)
 | [],b,_=>by
  cases h:fN k b<;>simp [h]
 |e::a,b,h=>by
  show (if eM k e.1 then some (0,e.2) else (fN k (a++b)).map λq=>(q.1+1,q.2))=_;have h':(if eM k e.1 then some (0,e.2) else (fN k a).map λq=>(q.1+1,q.2))=none:=h;split at h'
  ·cases h'
  ·rename_i hn
   rw[if_neg hn,Dk k a b (by cases h2:fN k a with|none=>rfl|some x=>rw[h2] at h';cases h'),Option.map_map]
   rfl
theorem Kf (L:LN)(k:Nat):Rz L (k+1)=Rz L k++ [(V.str (L.getD k []),aB k)]:=by
 unfold Rz;rw[List.range_succ,List.map_append];rfl
theorem Ip {L:LN}{w:List Nat}: ∀{k:Nat},(∀i,i<k->L.getD i []≠w)->fN (.str w) (Rz L k)=none
 |0,_=>rfl
 |k+1,h=>by
  rw[Kf,Dk _ _ _ (Ip λi hi=>h i (by omega))]
  have:(eM (.str w) (.str (L.getD k [])))=false:=by
   have:=h k (by omega);simp only[eM,beq_eq_false_iff_ne,ne_eq];exact λe=>this e.symm
  show Option.map _ (if eM (.str w) (.str (L.getD k [])) then _ else _)=_;rw[if_neg (by rw[this];simp)];rfl
theorem Sz {L:LN}(nd:L.Nodup): ∀{k i:Nat},k<=L.length->i<k->fN (.str (L.getD i [])) (Rz L k)=some (i,aB i)
 |0,i,_,h=>by omega
 |k+1,i,hk,h=>by
  rw[Kf]
  by_cases e:i=k
  ·subst e
   rw[Dk _ _ _ (Ip λj hj e=>by have:=Jo nd (by omega) (by omega) e;omega)];show Option.map _ (if eM (.str (L.getD i [])) (.str (L.getD i [])) then some (0,aB i) else _)=_;rw[if_pos (by simp [eM])];simp [Rz]
  ·have ih:=Sz nd (k:=k) (by omega) (show i<k by omega)
   have key: ∀(a b:List (V×V)) (x:V) (r:Nat×V),fN x a=some r->fN x (a++b)=some r:=by
    intro a
    induction a with
    |nil=>intro b x r h;cases h
    |cons y a ih2=>
     intro b x r h;show (if eM x y.1 then some (0,y.2) else (fN x (a++b)).map λq=>(q.1+1,q.2))=_;have h':(if eM x y.1 then some (0,y.2) else (fN x a).map λq=>(q.1+1,q.2))=some r:=h
     by_cases hc:eM x y.1=true
     ·rw[if_pos hc] at h' ⊢;exact h'
     ·rw[if_neg hc] at h' ⊢
      cases h2:fN x a with
      |none=>rw[h2] at h';cases h'
      |some r2=>rw[h2] at h';rw[ih2 b x r2 h2];exact h'
   exact key _ _ _ _ ih
theorem Yg {w:List Nat}(h1:w.length<=1000)(h2: ∀x∈w,x<256):isKey .str (.str w)=true:=by
 have e:(decide (w.length<2^62)&&w.all λn=>decide (n<256))=true:=by
  rw[Bool.and_eq_true,decide_eq_true_eq,List.all_eq_true];exact⟨by omega,λx hx=>by simpa using h2 x hx⟩
 exact e
theorem MA {L:LN}(nd:L.Nodup){k:Nat}(hk:k<L.length)(hK:isKey .str (.str (L.getD k []))=true)(hh:H)(M:Nat):
  Yd (some (.wmap .str (Rz L k))) hh M .str (.str (L.getD k [])) (aB k)=some (.undef,hh.set M (some (.wmap .str (Rz L (k+1))))):=by
 have e:fN (.str (L.getD k [])) (Rz L k)=none:=Ip λj hj e=>by have:=Jo nd (by omega) hk e;omega
 simp only[Yd]
 rw[if_pos ⟨trivial,hK⟩,e,Kf]
theorem IY {L:LN}(nd:L.Nodup){i:Nat}(hi:i<L.length)(hK:isKey .str (.str (L.getD i []))=true)(z:V):
  Lh (some (.wmap .str (Rz L L.length))) .str z false (.str (L.getD i []))=some (aB i):=by
 simp only[Lh]
 rw[if_pos ⟨trivial,hK⟩,Sz nd (iI _) hi];rfl
end Go.Proofs.YtapfcpkecmmagaaGreat
namespace Go.Proofs.YtapfcpkecmmagaaGreat
open Go Go.Ay Go.Pm
set_option maxRecDepth 100000
section
variable {G:List Nat->Prop} {L:LN} {i j n:Nat} {Q:List Nat} {h:H} {v:V}
theorem FC {vL:V}(hc:vL.cells= [vL])(ho:vL.one=true)(M N m:Nat):uC [.aC,.nilm,.aC,.aC] [(0,1,vL),(1,1,.mp M),(3,1,.sl N 0 m (.kn m))]=some (.agg [vL,.mp M,.aC,.sl N 0 m (.kn m)]):=by
 simp [uC,jK,putAt,hc,ho,show (V.mp M).cells= [V.mp M] from rfl,show (V.sl N 0 m (.kn m)).cells= [V.sl N 0 m (.kn m)] from rfl,show (V.mp M).one=true from rfl,show (V.sl N 0 m (.kn m)).one=true from rfl]
theorem DX {vL:V}(ho:vL.one=true)(M N m:Nat)(h:H):Fz h (.agg [vL,.mp M,.aC,.sl N 0 m (.kn m)])=some (.ptr h.next 0,h.new (.cells false [vL,.mp M,.aC,.sl N 0 m (.kn m)])):=uX h _ (by simp [ho,show (V.mp M).one=true from rfl,show (V.sl N 0 m (.kn m)).one=true from rfl,show V.aC.one=true from rfl])
open Classical in
noncomputable def Dg (G:List Nat->Prop)(L:LN)(i:Nat)(Q:List Nat)(j:Nat):Bool:=decide ((∃i0,i0<i/\cR G L i0 j)∨j∈Q)
theorem mH:Dg G L i Q j=true↔(∃i0,i0<i/\cR G L i0 j)∨j∈Q:=by classical unfold Dg;simp only[decide_eq_true_eq]
theorem MZ (G:List Nat->Prop)(L:LN)(j:Nat):Dg G L 0 [] j=false:=by
 rw[←Bool.not_eq_true,mH];rintro (⟨i0,h,_⟩|h)
 ·omega
 ·cases h
theorem Uh {k:Nat}:Dg G L i (Q++ [k]) j=if j=k then true else Dg G L i Q j:=by
 by_cases e:j=k
 ·rw[if_pos e,mH];exact .inr (by simp [e])
 ·rw[if_neg e,Bool.eq_iff_iff,mH,mH]
  simp [e]
theorem De {p:Nat->Option Ay.Fn}{rd:Option Nat}{a:C}{k:Nat}{vars:List V}{Q:E->List V->H->Prop}(J:List V->H->Prop)(h1:Wp p rd (.loop a) vars h (λe v h'=>e= .exit k/\J v h'))(h2: ∀v h',J v h'->Q .norm v h'):Wp p rd (.loop a) vars h (uE k Q):=
 h1.mono λe v h' x=>by
  obtain⟨rfl,x⟩:=x;rw[xV];exact h2 v h' x
theorem dQ.ge {sz id off b:Nat}{ws:List V}(o:dQ h v sz ws b)(hn:ws.length=n*sz)(hz:0<sz)(s:Sl v sz n id off)(h0:0<n):b<=id:=by
 have hx:=s.ixa .i64 0 (by omega) (by omega);rcases o.sv with ⟨_,rfl⟩|⟨id',off',len,cap,ro,vs,e,h2,_⟩
 ·have:=Nat.mul_pos h0 hz
  simp at hn;omega
 ·have h3:=(o.in _ _ _ _ e).2.1
  subst e
  have hl:0<len:=by
   have:=Nat.mul_pos h0 hz;refine Nat.pos_of_ne_zero λe0=>?_
   subst e0;simp at h2;rw[h2] at hn;simp at hn;omega
  rw[wE (by omega) (by omega)] at hx;simp only[Option.some.injEq,V.ptr.injEq] at hx;omega
theorem MN (hG:sW n G)(E:fI G L)(hi:i<L.length)(hr: ¬AE G L i)(j:Nat):Dg G L i [] j=Dg G L (i+1) [] j:=by
 obtain⟨i0,h0,hc⟩: ∃j,j<i/\cR G L j i:=Lf λhn=>hr λj hj hc=>hn ⟨j,hj,hc⟩
 rw[Bool.eq_iff_iff,mH,mH];constructor
 ·rintro (⟨i1,h1,h2⟩|h)
  ·exact .inl ⟨i1,by omega,h2⟩
  ·cases h
 ·rintro (⟨i1,h1,h2⟩|h)
  ·by_cases e:i1=i
   ·subst e;exact .inl ⟨i0,h0,pZ hG E (by omega) hc h2⟩
   ·exact .inl ⟨i1,by omega,h2⟩
  ·cases h
theorem KK {S:LN}(hG:sW n G)(E:fI G L)(hi:i<L.length)(b:BQ G L S i Q Q.length)(hS: ∀s∈S,G s)(hgen: ∀x,G x->fC n (λg=>g∈S) x)(hj:j<L.length):Dg G L i Q j=Dg G L (i+1) [] j:=by
 rw[Bool.eq_iff_iff,mH,mH];constructor
 ·rintro (⟨i1,h1,h2⟩|h)
  ·exact .inl ⟨i1,by omega,h2⟩
  ·exact .inl ⟨i,by omega,(b.mem j h).2⟩
 ·rintro (⟨i1,h1,h2⟩|h)
  ·by_cases e:i1=i
   ·subst e;exact .inr ((b.done hG E (iI _) hi hS hgen j).2 ⟨hj,h2⟩)
   ·exact .inl ⟨i1,by omega,h2⟩
  ·cases h
theorem ER (hc:v.cells= [v])(ho:v.one=true)(x y:Int):uC [.aC,aB 0,aB 0] [(0,1,v),(1,1,aB x),(2,1,aB y)]=some (.agg [v,aB x,aB y]):=by
 simp [uC,jK,putAt,hc,ho,show ∀z,(aB z).cells= [aB z] from λ_=>rfl,show ∀z,(aB z).one=true from λ_=>rfl]
theorem CD {w:V}(ho:v.one=true)(hc':w.cells= [w])(ho':w.one=true)(x y:Int):uC [.aC,aB 0,aB 0,.aC] [(0,3,.agg [v,aB x,aB y]),(3,1,w)]=some (.agg [v,aB x,aB y,w]):=by
 simp [uC,jK,putAt,hc',ho,ho',show ∀l,(V.agg l).cells=l from λ_=>rfl,show ∀z,(aB z).one=true from λ_=>rfl]
theorem FV {w:V}(ho:v.one=true)(ho':w.one=true)(x y:Int)(h:H):tN h 4 [.aC,aB 0,aB 0,.aC] 1 [(0,4,.agg [v,aB x,aB y,w])]=some (.sl h.next 0 1 (.kn 1),h.new (.cells false [v,aB x,aB y,w])):=by
 have e:dS [V.aC,aB 0,aB 0,.aC] 4= [V.aC,aB 0,aB 0,.aC]:=rfl;simp [tN,jK,putAt,e,ho,ho',show ∀l,(V.agg l).cells=l from λ_=>rfl,show ∀z,(aB z).one=true from λ_=>rfl]
theorem uR (k:Nat):(jR G L k).length<=k:=by
 classical
 unfold jR;exact Nat.le_trans (List.length_filter_le _ _) (by rw[List.length_range];exact iI _)
theorem Lw (ks:List Cls.KE):(Cls.pQ ks).length=ks.length*4:=by
 induction ks with
 |nil=>rfl
 |cons a r ih=>
  show (a.enc++Cls.pQ r).length=_;rw[oH,ih,List.length_cons];show 4+_=_;omega
theorem CN {a b c d:V}(hh:H)(id:Nat)(y:V):fL (some (.cells false [a,b,c,d])) hh id 2 [y]=some (hh.set id (some (.cells false [a,b,y,d]))):=by
 simp [fL,putAt]
theorem YB {sz:Nat}{ws:List V}(s:SV h v sz ws):DW (λq=>h.next<=q) v:=by
 cases v with
 |sl id off len cap=>exact λh2=>by have:=s.in _ _ _ _ rfl;omega
 |_=>trivial
structure KO (n:Nat)(G:List Nat->Prop)(L:LN)(X:Nat)(W:Nat->Prop)(hh:H)(a:Cls.KE)(r:Nat):Prop where
 fst:a.fst=r
 ord:a.ord=kV (L.getD r []) n
 size:a.size=(jF G L r).length
 rep:PV (λq=>X<=q) hh a.rep (L.getD r [])
 ranks:PV W hh a.ranks (jF G L r)
theorem KO.go {X:Nat}{W W':Nat->Prop}{h':H}{a:Cls.KE}{r:Nat}(k:KO n G L X W h a r)(f:Fx W h h')(hx:X<=h.next)(hW: ∀q,W q->X<=q)(hw: ∀q,q<h.next->W' q->W q):KO n G L X W' h' a r:=
 ⟨k.fst,k.ord,k.size,k.rep.fx ⟨f.next,λq h1 h2=>f.get q h1 λh3=>h2 (hW q h3)⟩,PV.go k.ranks f hw⟩
structure OfJ (n:Nat)(G:List Nat->Prop)(L:LN)(X D:Nat)(vL:V)(h5:H)(i:Nat)(hh:H):Prop where
 ex: ∃vK ks W,hh.get (X+8)=some (.cells false [vL,.mp (X+3),vK,.sl (X+6) 0 L.length (.kn L.length)])/\dQ hh vK 4 (Cls.pQ ks) (D+1)/\cE (KO n G L X W hh) ks (jR G L i)/\Jp W vK/\W D/\W (X+8)/\W (X+6)/\(∀q,W q->q<hh.next)/\(∀q,W q->X<=q)/\(ks= []∨ ∃id cap,vK= .sl id 0 ks.length cap/\hh.get id=some (.cells false (Cls.pQ ks)))
 gD:hh.get D=some (.cells false (rc L.length λj=> .bool (Dg G L i [] j)))
 old:Fx (λq=>q=X+8∨D<=q) h5 hh
 nx:D<hh.next
def HX (n:Nat):C->Bool
 | .block k _=>k==n
 | .seq _ b=>HX n b
 |_=>false
def Pc (n:Nat):C->C
 | .seq a b=>if HX n a then b else Pc n b
 |c=>c
structure OfE (n:Nat)(G:List Nat->Prop)(L:LN)(X D:Nat)(vL:V)(h h2 h5 h7:H):Prop where
 el:fI G L
 le:L.length<=5040
 f2:Fr h h2
 x2:h2.next=X
 sp:SP h2 vL L
 f25:Fr h2 h5
 xD:X+10<=D
 n5:h5.next=D
 gM:h5.get (X+3)=some (.wmap .str (Rz L L.length))
 gN:h5.get (X+6)=some (.cells false (rc L.length λ_=> aB 0))
 j:OfJ n G L X D vL h5 L.length h7
theorem QO {W0:Nat->Prop}(vc:V)(n:Nat)(O:LN)(R:oV)(G:List Nat->Prop)(h:H)(gc:GC W0 h vc n O R G)(P:V->H->Prop)
  (hk: ∀L X D vL h2 h5 h7 A (g:Nat->V),cX O R n 0 (bH n)=L->OfE n G L X D vL h h2 h5 h7->Wp T none (Pc 2 jW.body) ([g 0,.ptr A 0,.nilp,aB 0,vL,g 5,.ptr (X+8) 0,g 7,g 8,g 9,g 10,g 11,g 12,g 13,g 14,g 15,g 16,g 17,g 18,g 19,g 20,g 21,g 22,g 23,g 24,g 25,g 26,g 27,g 28,g 29,g 30,g 31,g 32,g 33,g 34,g 35,g 36,g 37,g 38,g 39,g 40,g 41,g 42,g 43,g 44,g 45]) h7 (GL jW.results P)):
  Ev T 56 [vc] h P:=by
 obtain⟨vO,vR,e,sO,sR⟩:=gc.ch
 subst e
 refine bL jW rfl rfl ?_
 have oneO:vO.one=true:=PE sO
 have oneR:vR.one=true:=PC sR
 obtain⟨A,hA⟩:=exI h.next
 obtain⟨h1,e1,n1,g1,o1,f1⟩:=iL hA [aB n,vO,vR]
 have bx:=eZ h (v:= aB n) (u:=vO) (w:=vR) rfl oneO oneR
 have rB:=bW g1
 obtain⟨L,hL⟩:=exI (cX O R n 0 (bH n))
 obtain⟨E,ll⟩:=jN gc.nH gc.isc
 have ll5:=nI gc
 rw[hL] at E ll
 have hG:=gc.nH
 have n7:=gc.n7
 have n0:=gc.n0
 simp(disch:=omega)only[go_sem,jW,aE,bx,hA,e1,rB]
 refine (BD _ n O R G h1 (gc.mono f1)).mono ?_
 rw[hL]
 rintro _ h2 ⟨vL,rfl,nw⟩
 obtain⟨wL,W,owL,pvL,bkL,W1⟩:=nw.ex
 have hwL:=cE.length pvL
 obtain⟨m,hm⟩:=exI L.length
 rw[hm] at hwL
 have lvL:=dQ.lens owL hwL
 have oneL:=owL.sv.dU.2.1
 have f2:=nw.fr
 simp(disch:=omega)only[go_sem,lvL]
 refine aX (λhc=>(hc rfl).elim) (λ_=>?_)
 obtain⟨X,hX⟩:=exI h2.next
 simp(disch:=omega)only[go_sem,lvL,mX _ m (by omega),hX,FC owL.sv.dU.1 oneL,DX oneL]
 obtain⟨h3,h3e⟩: ∃h3:H,h3=H.mk ((H.mk ((H.mk ((H.mk h2.tr (X+3)).new (Ob.wmap xC.str [])).tr (X+6)).new (Ob.cells false (rc m λ_=>aB 0))).tr (X+8)).new (Ob.cells false [vL,.mp (X+3),.aC,.sl (X+6) 0 m (.kn m)])).tr (X+10):=⟨_,rfl⟩
 rw[←h3e]
 have n3:h3.next=X+10:=by rw[h3e]
 have gB:h3.get (X+8)=some (.cells false [vL,.mp (X+3),.aC,.sl (X+6) 0 m (.kn m)]):=by rw[h3e];exact H.aL (H.mk _ (X+8)) _
 have gN:h3.get (X+6)=some (.cells false (rc m λ_=>aB 0)):=by
  rw[h3e];exact (H.bB (H.mk _ (X+8)) (show X+6≠X+8 by omega) _).trans (H.aL (H.mk _ (X+6)) _)
 have gM:h3.get (X+3)=some (.wmap .str (Rz L 0)):=by
  rw[h3e];exact (H.bB (H.mk _ (X+8)) (show X+3≠X+8 by omega) _).trans ((H.bB (H.mk _ (X+6)) (show X+3≠X+6 by omega) _).trans (H.aL (H.mk _ (X+3)) _))
 have f3:Fr h2 h3:=⟨by omega,λq hq=>by
  rw[h3e]
  exact (H.bB (H.mk _ (X+8)) (show q≠X+8 by omega) _).trans ((H.bB (H.mk _ (X+6)) (show q≠X+6 by omega) _).trans (H.bB (H.mk _ (X+3)) (show q≠X+3 by omega) _))⟩
 clear h3e
 have lt64: ∀i,i<m->(L.getD i []).length<=1000/\ ∀x∈L.getD i [],x<256:=λi hi=>by
  have P:=mP hG E (show i<L.length by omega);exact⟨by rw[P.len];omega,λx hx=>by have:=P.lt x hx;omega⟩
 obtain⟨idL,offL,shL,hidL,hcL⟩:=SV.shape owL.sv m (by omega) (by omega)
 have hLa: ∀i,i<m-> ∃vx,(∀h',Fr h2 h'->h'.cell idL (offL+i)=some vx)/\SI h2 vx (zi (L.getD i [])):=λi hi=>by
  obtain⟨v,h1,h2'⟩:=jH.at pvL (i:=i) (by omega);exact⟨v,λh' f=>by rw[f.cell (hidL (by omega)),hcL i (by omega),h1],h2'.si⟩
 have hK: ∀i,i<m->isKey .str (.str (L.getD i []))=true:=λi hi=>Yg (lt64 i hi).1 (lt64 i hi).2
 refine cI (λvs hh=>(∃g:Nat->V,vs= [g 0,.ptr A 0,.nilp,aB 0,vL,g 5,.ptr (X+8) 0,g 7,g 8,g 9,g 10,g 11,g 12,g 13,g 14,g 15,g 16,g 17,g 18,g 19,g 20,g 21,g 22,g 23,g 24,g 25,g 26,g 27,g 28,g 29,g 30,g 31,g 32,g 33,g 34,g 35,g 36,g 37,g 38,g 39,g 40,g 41,g 42,g 43,g 44,g 45])/\hh.get (X+3)=some (.wmap .str (Rz L m))/\Fx (· =X+3) h3 hh) ?_ ?_
 ·refine aJ (λk' vs hh=> ∃(i:Nat),(∃g:Nat->V,vs= [g 0,.ptr A 0,.nilp,aB 0,vL,g 5,.ptr (X+8) 0,g 7,g 8,g 9,g 10,g 11,g 12,g 13,g 14,g 15,g 16,g 17,g 18,g 19,g 20,g 21,g 22,vL,aB m,aB i,g 26,g 27,g 28,g 29,g 30,g 31,g 32,g 33,g 34,g 35,g 36,g 37,g 38,g 39,g 40,g 41,g 42,g 43,g 44,g 45])/\i<=m/\hh.get (X+3)=some (.wmap .str (Rz L i))/\Fx (· =X+3) h3 hh/\k'=m-i) m
   ⟨0,aA rfl,lB _,gM,Fx.refl _ h3,rfl⟩ ?_
  rintro k' vars h4 ⟨i,⟨g,rfl⟩,hi,gM4,F4,rfl⟩
  by_cases hlt:(i:Int)<(m:Int)
  case neg=>
   have d4:=iV hlt;obtain rfl:i=m:=by omega
   simp(disch:=omega)only[go_sem,d4];exact⟨aA rfl,gM4,F4⟩
  have d4:=mO hlt
  have hi':i<m:=by omega
  have f24:Fr h2 h4:=⟨by have:=F4.next;omega,λq hq=>by rw[F4.get q (by omega) (by omega)];exact f3.get q hq⟩
  have gB4:h4.get (X+8)=some (.cells false [vL,.mp (X+3),.aC,.sl (X+6) 0 m (.kn m)]):=by rw[F4.get _ (by omega) (by omega)];exact gB
  obtain⟨vx,cx,sx⟩:=hLa i hi'
  have cB2:h4.cell (X+8) 1=some (.mp (X+3)):=by rw[H.aF gB4];rfl
  simp(disch:=omega)only[go_sem,d4,shL.ixa,cx h4 f24,cB2]
  refine (AL vx (L.getD i []) _ (lt64 i hi').1 (lt64 i hi').2 (sx.mono (f24.trans ((Fr.refl h4).bM (by omega))))).mono ?_
  rintro _ h5 ⟨rfl,f5⟩
  have f45:Fr h4 h5:=((Fr.refl h4).bM (by omega)).trans f5
  have n4:=F4.next
  have gM5:h5.get (X+3)=some (.wmap .str (Rz L i)):=by rw[f45.get _ (by omega)];exact gM4
  have cB5:h5.cell (X+8) 1=some (.mp (X+3)):=by rw[f45.cell (by omega)];exact cB2
  have pt:=λhh=>MA E.nodup (show i<L.length by omega) (hK i hi') hh (X+3)
  simp(disch:=omega)only[go_sem,cB5,gM5,pt]
  rw[jE i]
  refine⟨by simp [eM],m-(i+1),by omega,i+1,aA rfl,by omega,rfl,⟨by have:=f45.next;show h3.next<=h5.next;omega,λq h1 h2=>by rw[H.aH _ (λe=>h2 e),f45.get q (by omega)];exact F4.get q h1 h2⟩,rfl⟩
 rintro vars h4 ⟨⟨g,rfl⟩,gM4,F4⟩
 have n4:=F4.next
 have f24:Fr h2 h4:=⟨by omega,λq hq=>by rw[F4.get q (by omega) (by omega)];exact f3.get q hq⟩
 have gB4:h4.get (X+8)=some (.cells false [vL,.mp (X+3),.aC,.sl (X+6) 0 m (.kn m)]):=by rw[F4.get _ (by omega) (by omega)];exact gB
 have gN4:h4.get (X+6)=some (.cells false (rc m λ_=>aB 0)):=by rw[F4.get _ (by omega) (by omega)];exact gN
 have f14:=f2.trans f24
 have rA:=bW (h:=h4) (id:=A) (ro:=false) (by rw[f14.get _ (by omega)];exact g1)
 simp(disch:=omega)only[go_sem,rA]
 refine (DF _ n O R G h4 (gc.mono (f1.trans f14))).mono ?_
 rintro _ h5 ⟨vS,rfl,nS⟩
 have f5:=nS.fr
 obtain⟨D,hD⟩:=exI h5.next
 obtain⟨h6,e6,n6,g6,o6,f6⟩:=iL hD (rc m λ_=>V.bool false)
 simp(disch:=omega)only[go_sem,lvL,ET,hD,e6]
 have f25:=f24.trans f5
 have hX5:=f25.next
 have n5:=f5.next
 obtain⟨wS,WS,owS,pvS,bkS,WS1⟩:=nS.ex
 obtain⟨S,hS⟩:=exI (fX R)
 rw[hS] at pvS
 have hwS:=cE.length pvS
 have hSG: ∀s∈S,G s:=λs hs=>Iv gc.isc (by rw[hS];exact hs)
 have hSgen: ∀x,G x->fC n (λg=>g∈S) x:=λx hx=>by rw[←hS];exact Wr hG gc.isc hx
 obtain⟨sl,hsl⟩:=exI S.length
 have hsl7:sl<=49:=by
  have h1: ∀j,j<R.length->(R.getD j []).length<=n:=λj hj=>by
   have hj':j<n:=by rw[←gc.isc.lr];exact hj
   rw[gc.isc.rl j hj'];have:=yV (λx hx=>hG.dV hx) hj' (gc.isc.asc j hj') (gc.isc.mem j hj');omega
  have h2:=Bf (n:=n) (R:=R) (iI _) h1;rw[List.take_length,hS,hsl,gc.isc.lr] at h2;have:n*n<=7*7:=Nat.mul_le_mul n7 n7;omega
 have lvS:=dQ.lens owS (hwS.trans hsl)
 obtain⟨idS,offS,shS,hidS,hcS⟩:=SV.shape owS.sv sl (by omega) (by omega)
 have geS:=dQ.ge owS (n:=sl) (by omega) (by omega) shS
 have hSa: ∀t,t<sl-> ∃vy,(∀hh,Fx (λq=>q=X+8∨D<=q) h5 hh->hh.cell idS (offS+t)=some vy)/\PV (λq=>q=X+8∨D<=q) h5 vy (S.getD t []):=λt ht=>by
  obtain⟨v,h1,h2'⟩:=jH.at pvS (i:=t) (by omega);have hi:=hidS (by omega);have hge:h4.next<=idS:=geS (by omega);refine⟨v,λhh f=>?_,h2'.sX λid hid hw=>WS1 id ?_⟩
  ·have e:hh.get idS=h5.get idS:=f.get idS hi (by omega)
   unfold H.cell;rw[e];have:=hcS t (by omega);rw[h1] at this;exact this
  ·rcases hw with e|e
   ·omega
   ·omega
 have J0:OfJ n G L X D vL h5 0 h6:=
  ⟨⟨.aC, [],λq=>q=D∨q=X+8∨q=X+6,by rw[f6.get _ (by omega),f5.get _ (by omega),hm];exact gB4,dQ.aC _ _ _,trivial,λ_ _ _ _ e=>(by cases e),.inl rfl,.inr (.inl rfl),.inr (.inr rfl),λq h=>by rcases h with h|h|h<;>omega,λq h=>by rcases h with h|h|h<;>omega,.inl rfl⟩,
   by rw[g6,hm,show (λj=>V.bool (Dg G L 0 [] j))=λ_=>V.bool false from funext λj=>by rw[MZ]],Fx.of f6,by omega⟩
 refine cI (λvs hh=>(∃g:Nat->V,vs= [g 0,.ptr A 0,.nilp,aB 0,vL,g 5,.ptr (X+8) 0,g 7,g 8,g 9,g 10,g 11,g 12,g 13,g 14,g 15,g 16,g 17,g 18,g 19,g 20,g 21,g 22,g 23,g 24,g 25,g 26,g 27,g 28,g 29,g 30,g 31,g 32,g 33,g 34,g 35,g 36,g 37,g 38,g 39,g 40,g 41,g 42,g 43,g 44,g 45])/\OfJ n G L X D vL h5 m hh) ?_ ?_
 ·refine aJ (λk' vs hh=> ∃(i:Nat),(∃g:Nat->V,vs= [g 0,.ptr A 0,.nilp,aB 0,vL,g 5,.ptr (X+8) 0,g 7,g 8,vS,.sl D 0 m (.kn m),g 11,g 12,g 13,g 14,g 15,g 16,g 17,g 18,g 19,g 20,g 21,g 22,g 23,g 24,g 25,g 26,vL,aB m,aB i,g 30,g 31,g 32,g 33,g 34,g 35,g 36,g 37,g 38,g 39,g 40,g 41,g 42,g 43,g 44,g 45])/\i<=m/\OfJ n G L X D vL h5 i hh/\k'=m-i) m
   ⟨0,aA rfl,lB _,J0,rfl⟩ ?_
  clear J0
  rintro k' vars h7 ⟨i,⟨g,rfl⟩,hi,J,rfl⟩
  by_cases hlt:(i:Int)<(m:Int)
  case neg=>
   have d4:=iV hlt;obtain rfl:i=m:=by omega
   simp(disch:=omega)only[go_sem,d4];exact⟨aA rfl,J⟩
  have d4:=mO hlt
  have hi':i<m:=by omega
  have nD:=J.nx
  have f27:Fr h2 h7:=⟨by omega,λq hq=>by rw[J.old.get q (by omega) (by omega)];exact f25.get q hq⟩
  obtain⟨vx,cx,sx⟩:=hLa i hi'
  have cD:=zE J.gD (i:=i) (by omega)
  by_cases hr:AE G L i
  case neg=>
   have hsn:Dg G L i [] i=true:=by
    rw[mH];exact .inl (Lf λhn=>hr λj hj hc=>hn ⟨j,hj,hc⟩)
   rw[hsn] at cD;simp(disch:=omega)only[go_sem,d4,shL.ixa,cx h7 f27,cD];rw[jE i];refine⟨m-(i+1),by omega,i+1,aA rfl,by omega,?_,rfl⟩;refine⟨?_,?_,J.old,J.nx⟩
   ·rw[(Jh i).2 hr];exact J.ex
   ·rw[J.gD,bI λj _=>by rw[MN hG E (show i<L.length by omega) hr j]]
  have hsn:Dg G L i [] i=false:=by
   rw[←Bool.not_eq_true,mH];rintro (⟨j,hj,hc⟩|h)
   ·exact hr j hj hc
   ·cases h
  rw[hsn] at cD
  obtain⟨h8,e8,n8,g8,o8⟩:=Fj h7 D ((rc L.length λj=> .bool (Dg G L i [] j)).set i (.bool true))
  obtain⟨Z,hZ⟩:=exI h8.next
  obtain⟨h9,e9,n9,g9,o9,f9⟩:=iL hZ [aB i]
  have pt:=aY (vs:=rc L.length λj=> .bool (Dg G L i [] j)) (off:=i) (by rw[dJ];omega)
  clear bx gc sO sR rB rA hcL gN4 gB4 g1 o1 f1 f3 gB gN gM
  simp(disch:=omega)only[go_sem,d4,shL.ixa,cx h7 f27,cD,J.gD,pt,e8,dP h8 (z:= aB 0) (v:= aB i) rfl rfl,hZ,e9]
  have hZ7:h7.next=Z:=by omega
  have hc0:(rc L.length λj=>V.bool (Dg G L i [] j)).set i (.bool true)=rc L.length λj=> .bool (Dg G L i [i] j):=by
   rw[iX]
   exact bI λj _=>by
    rw[show [i]= []++ [i] from rfl,Uh]
    by_cases e:j=i
    ·rw[if_pos e,if_pos e]
    ·rw[if_neg e,if_neg e]
  have F79:Fx (· =D) h7 h9:=⟨by omega,λq h1 h2=>by rw[o9 q (by omega),o8 q h2]⟩
  have B0:BQ G L S i [i] 0:=⟨by simp,by simp,rfl,λj hj=>by
   obtain rfl:j=i:=by simpa using hj
   exact⟨by omega,Gx hG E (by omega)⟩,λk hk=>by omega⟩
  refine cI (λvs hh=> ∃(Q:List Nat) (q:Nat) (cp:qC),(∃g:Nat->V,vs= [g 0,.ptr A 0,.nilp,aB 0,vL,g 5,.ptr (X+8) 0,g 7,g 8,vS,.sl D 0 m (.kn m),aB i,vx,.sl q 0 Q.length cp,g 14,g 15,g 16,g 17,g 18,g 19,g 20,g 21,g 22,g 23,g 24,g 25,g 26,vL,aB m,aB i,g 30,g 31,g 32,g 33,g 34,g 35,g 36,g 37,g 38,g 39,g 40,g 41,g 42,g 43,g 44,g 45])/\
    BQ G L S i Q Q.length/\(cp= .un 1∨cp= .kn Q.length)/\hh.get q=some (.cells false (ints (zi Q)))/\Z<=q/\q<hh.next/\hh.get D=some (.cells false (rc L.length λj=> .bool (Dg G L i Q j)))/\Fx (· =D) h7 hh) ?_ ?_
  ·refine aJ (λk' vs hh=> ∃(Q:List Nat) (q:Nat) (cp:qC) (p:Nat),(∃g:Nat->V,vs= [g 0,.ptr A 0,.nilp,aB 0,vL,g 5,.ptr (X+8) 0,g 7,g 8,vS,.sl D 0 m (.kn m),aB i,vx,.sl q 0 Q.length cp,aB p,g 15,g 16,g 17,g 18,g 19,g 20,g 21,g 22,g 23,g 24,g 25,g 26,vL,aB m,aB i,g 30,g 31,g 32,g 33,g 34,g 35,g 36,g 37,g 38,g 39,g 40,g 41,g 42,g 43,g 44,g 45])/\
    p<=Q.length/\BQ G L S i Q p/\(cp= .un 1∨cp= .kn Q.length)/\hh.get q=some (.cells false (ints (zi Q)))/\Z<=q/\q<hh.next/\hh.get D=some (.cells false (rc L.length λj=> .bool (Dg G L i Q j)))/\Fx (· =D) h7 hh/\k'=m-p) m
    ⟨[i],Z,_,0,aA rfl,lB _,B0,.inr rfl,g9,iI _,by omega,by rw[o9 _ (by omega),g8,hc0],F79,rfl⟩ ?_
   clear F79 B0 e8 n8 g8 o8 hZ e9 n9 g9 o9 f9 pt hc0
   rintro k' vars ha ⟨Q,q,cp,p,⟨g2,rfl⟩,hp,BQ0,hcp,gq,hq,nq,gD,Fa,rfl⟩
   have hQl:=BQ0.len
   by_cases hpl:(p:Int)<(Q.length:Int)
   case neg=>
    have d5:decide ((p:Int)<(Q.length:Int))=false:=decide_eq_false hpl;obtain rfl:p=Q.length:=by omega
    simp(disch:=omega)only[go_sem,d5];exact⟨Q,q,cp,aA rfl,BQ0,hcp,gq,hq,nq,gD,Fa⟩
   have d5:decide ((p:Int)<(Q.length:Int))=true:=decide_eq_true hpl
   have hp':p<Q.length:=by omega
   simp(disch:=omega)only[go_sem,d5,lvS]
   obtain⟨c,hc⟩:=exI (Q.getD p 0)
   obtain⟨hcm,hcc⟩:=BQ0.mem c (by rw[←hc];exact bD hp')
   have Cp:=mP hG E hcm
   refine De (λvs hh=> ∃(Q:List Nat) (q:Nat) (cp:qC),(∃g:Nat->V,vs= [g 0,.ptr A 0,.nilp,aB 0,vL,g 5,.ptr (X+8) 0,g 7,g 8,vS,.sl D 0 m (.kn m),aB i,vx,.sl q 0 Q.length cp,aB p,g 15,g 16,g 17,g 18,g 19,g 20,g 21,g 22,g 23,g 24,g 25,g 26,vL,aB m,aB i,g 30,g 31,g 32,g 33,g 34,g 35,g 36,g 37,g 38,g 39,g 40,g 41,g 42,g 43,g 44,g 45])/\
     p<Q.length/\BQ G L S i Q (p+1)/\(cp= .un 1∨cp= .kn Q.length)/\hh.get q=some (.cells false (ints (zi Q)))/\Z<=q/\q<hh.next/\hh.get D=some (.cells false (rc L.length λj=> .bool (Dg G L i Q j)))/\Fx (· =D) h7 hh) ?_ ?_
   ·refine aJ (λk' vs hh=> ∃(Q:List Nat) (q:Nat) (cp:qC) (t:Nat),(∃g:Nat->V,vs= [g 0,.ptr A 0,.nilp,aB 0,vL,g 5,.ptr (X+8) 0,g 7,g 8,vS,.sl D 0 m (.kn m),aB i,vx,.sl q 0 Q.length cp,aB p,g 15,g 16,g 17,g 18,g 19,g 20,g 21,g 22,g 23,g 24,g 25,g 26,vL,aB m,aB i,g 30,g 31,g 32,vS,aB sl,aB t,g 36,g 37,g 38,g 39,g 40,g 41,g 42,g 43,g 44,g 45])/\
     p<Q.length/\t<=sl/\BQ G L S i Q p/\Q.getD p 0=c/\(∀s∈S.take t,∃j∈Q,L.getD j []=iC (L.getD c []) s)/\(cp= .un 1∨cp= .kn Q.length)/\hh.get q=some (.cells false (ints (zi Q)))/\Z<=q/\q<hh.next/\hh.get D=some (.cells false (rc L.length λj=> .bool (Dg G L i Q j)))/\Fx (· =D) h7 hh/\k'=sl-t) sl
     ⟨Q,q,cp,0,aA rfl,hp',lB _,BQ0,hc,λs hs=>(by simp at hs),hcp,gq,hq,nq,gD,Fa,rfl⟩ ?_
    clear BQ0 hcp gq hq nq gD Fa hc hp' hQl hpl d5 hp
    clear Q q cp
    rintro k' vars hb ⟨Q,q,cp,t,⟨g3,rfl⟩,hp',ht,BQ0,hc,hcl,hcp,gq,hq,nq,gD,Fb,rfl⟩
    by_cases htl:(t:Int)<(sl:Int)
    case neg=>
     have d5:decide ((t:Int)<(sl:Int))=false:=decide_eq_false htl;obtain rfl:t=sl:=by omega
     simp(disch:=omega)only[go_sem,d5];refine⟨Q,q,cp,aA rfl,hp',⟨BQ0.nd,BQ0.ne,BQ0.hd,BQ0.mem,λk hk s hs=>?_⟩,hcp,gq,hq,nq,gD,Fb⟩
     by_cases e:k=p
     ·subst e
      rw[hc];exact hcl s (by rw[←hsl,List.take_length];exact hs)
     ·exact BQ0.cl k (by omega) s hs
    have d5:decide ((t:Int)<(sl:Int))=true:=decide_eq_true htl
    have ht':t<sl:=by omega
    have hQl:=BQ0.len
    have nb:=Fb.next
    have FBb:Fx (λq=>q=X+8∨D<=q) h5 hb:=⟨by have:=J.old.next;omega,λq h1 h2=>by rw[Fb.get q (by omega) (λe=>h2 (.inr (by have:q=D:=e;omega)))];exact J.old.get q h1 h2⟩
    have f2b:Fr h2 hb:=⟨by omega,λq hq=>by rw[Fb.get q (by omega) (λe=>by have:q=D:=e;omega)];exact f27.get q hq⟩
    obtain⟨vy,cy,py⟩:=hSa t ht'
    obtain⟨vz,cz,sz⟩:=hLa c (by omega)
    obtain⟨s,hs⟩:=exI (S.getD t [])
    rw[hs] at py
    have hsS:s∈S:=by rw[←hs];exact bD (by omega)
    have Sp:=hG.dV (hSG s hsS)
    have cq:hb.cell q p=some (aB c):=by rw[H.aF gq,Ap hp',hc]
    simp(disch:=omega)only[go_sem,d5,shS.ixa,cy hb FBb,cq,shL.ixa,cz hb f2b]
    refine (AH (rfl:T 85=some lT) vy n s _ (by omega) Sp ((py.fx FBb).si.mono ((Fr.refl hb).bM (by omega)))).mono ?_
    rintro v47 k1 np1
    have K1:Fr hb k1:=((Fr.refl hb).bM (by omega)).trans np1.fr
    have cq1:k1.cell q p=some (aB c):=by rw[K1.cell nq];exact cq
    have ez:=sz.eM
    simp(disch:=omega)only[go_sem,cq1,cz k1 (f2b.trans K1),ez]
    refine (Ti v47 vz (cM s) (L.getD c []) k1 (by rw[lC,Sp.len];omega) (np1.pv (W:=λ_=>False) id).si (sz.mono (f2b.trans K1)) (λj hj=>by rw[Cp.len];exact Sp.inv.fH (by rw[←Sp.inv.len];exact hj))).mono ?_
    rintro v55 k2 np2
    have K2:=K1.trans np2.fr
    have P2:=Sp.inv.mul Cp
    simp(disch:=omega)only[go_sem]
    refine (Ti v55 vy _ s k2 (by rw[P2.len];omega) (np2.pv (W:=λ_=>False) id).si ((py.fx FBb).si.mono K2) (λj hj=>by rw[Sp.len];exact P2.fH (by rw[←P2.len];exact hj))).mono ?_
    rintro v57 k3 np3
    have K3:=K2.trans np3.fr
    have P3:=P2.mul Sp
    have cq3:k3.cell q p=some (aB c):=by rw[K3.cell nq];exact cq
    have s57:=(np3.pv (W:=λ_=>False) id).si
    have o57:=s57.dU.2.1
    have gB3: ∃vK,k3.get (X+8)=some (.cells false [vL,.mp (X+3),vK,.sl (X+6) 0 L.length (.kn L.length)]):=by
     obtain⟨vK,_,_,gB,_⟩:=J.ex;exact⟨vK,by rw[K3.get _ (by omega),Fb.get _ (by omega) (λe=>by have:X+8=D:=e;omega)];exact gB⟩
    obtain⟨vK,gB3⟩:=gB3
    have cB3:k3.cell (X+8) 1=some (.mp (X+3)):=by rw[H.aF gB3];rfl
    obtain⟨j,hj,ej⟩: ∃j,j<L.length/\L.getD j []=iC (L.getD c []) s:=by
     have hm2:iC (L.getD c []) s∈L:=(E.mem _).2 (hG.mul (hG.mul (hG.inv (hSG s hsS)) (Ak E hcm)) (hSG s hsS));obtain⟨j,hj,ej⟩:=Gg.1 hm2;exact⟨j,hj,by rw[List.getD,gW hj,←ej];rfl⟩
    have e57:aT (aT (cM s) (L.getD c [])) s=L.getD j []:=ej.symm
    rw[e57] at s57
    simp(disch:=omega)only[go_sem,cq3,cz k3 (f2b.trans K3),cB3,ez]
    refine (AL v57 (L.getD j []) _ (lt64 j (by omega)).1 (lt64 j (by omega)).2 (s57.mono ((Fr.refl k3).bM (by omega)))).mono ?_
    rintro _ k4 ⟨rfl,f4'⟩
    have K34:Fr k3 k4:=((Fr.refl k3).bM (by omega)).trans f4'
    have K4:=K3.trans K34
    have n3k:=K3.next
    have gM4k:k4.get (X+3)=some (.wmap .str (Rz L L.length)):=by
     rw[K4.get _ (by omega),Fb.get _ (by omega) (λe=>by have:X+3=D:=e;omega),J.old.get _ (by omega) (by omega),f5.get _ (by omega),hm];exact gM4
    have cB4:k4.cell (X+8) 1=some (.mp (X+3)):=by rw[K34.cell (by omega)];exact cB3
    have lk:=λz=>IY E.nodup hj (hK j (by omega)) z
    have cDj:k4.cell D j=some (.bool (Dg G L i Q j)):=by rw[K4.cell (by omega)];exact zE gD hj
    have hij:cR G L i j:=pZ hG E (by omega) hcc ⟨s,hSG s hsS,ej.symm⟩
    have etk:S.take (t+1)=S.take t++ [s]:=by rw[iQ [] (by omega),hs]
    have gq4:k4.get q=some (.cells false (ints (zi Q))):=by rw[K4.get _ nq];exact gq
    have gD4:k4.get D=some (.cells false (rc L.length λj=> .bool (Dg G L i Q j))):=by rw[K4.get _ (by omega)];exact gD
    have F4k:Fx (· =D) h7 k4:=⟨by have:=K4.next;omega,λq h1 h2=>by rw[K4.get q (by omega)];exact Fb.get q h1 h2⟩
    cases hsn2:Dg G L i Q j with
    |true=>
     rw[hsn2] at cDj
     have hjQ:j∈Q:=by
      rcases mH.1 hsn2 with ⟨i0,h1,h2'⟩|h1
      ·exact absurd (pZ hG E (by omega) h2' (By hG E (by omega) hij)) (hr i0 h1)
      ·exact h1
     simp(disch:=omega)only[go_sem,cB4,gM4k,lk,cDj];rw[jE t];refine⟨by simp [eM],sl-(t+1),by omega,Q,q,cp,t+1,aA rfl,hp',by omega,BQ0,hc,?_,hcp,gq4,hq,by have:=K4.next;omega,gD4,F4k,rfl⟩;rw[etk];intro s' hs';rcases Gl.1 hs' with h1|h1
     ·exact hcl s' h1
     ·obtain rfl:s'=s:=by simpa using h1
      exact⟨j,hjQ,ej⟩
    |false=>
     rw[hsn2] at cDj;have hjQ:j∉Q:=λh1=>by rw[mH.2 (.inr h1)] at hsn2;cases hsn2
     obtain⟨k5,e5,m5,g5,o5⟩:=Fj k4 D ((rc L.length λj=> .bool (Dg G L i Q j)).set j (.bool true));obtain⟨Y,hY⟩:=exI k5.next;obtain⟨k6,e6',m6,g6',o6',f6'⟩:=iL hY [aB j];have pt:=aY (vs:=rc L.length λj=> .bool (Dg G L i Q j)) (off:=j) (by rw[dJ];exact hj);have nk:=K4.next;have gq6:k6.get q=some (.cells false (ints (zi Q))):=by rw[o6' _ (by omega),o5 _ (by omega)];exact gq4
     have ow6:dQ k6 (.sl q 0 Q.length cp) 1 (ints (zi Q)) 0:= .inr ⟨q,Q.length,cp, [],rfl,by rw[aI,aS];simp,by rcases hcp with h1|h1;exact .inl h1;exact .inr ⟨h1,rfl⟩,lB _,by omega,by rw[List.append_nil];exact gq6⟩;obtain⟨k7,a7,p7⟩:=ow6.push (bytes:=8) (SV.one (v:= aB j) (id:=Y) (by omega) g6' (.kn 1)) (n:=Q.length) (m:=1) (by rw[aI,aS];simp) rfl (by omega) (by omega) (by omega);simp(disch:=omega)only[go_sem,cB4,gM4k,lk,cDj,gD4,pt,e5,dP k5 (z:= aB 0) (v:= aB j) rfl rfl,hY,e6',a7];rw[jE t];have el:ints (zi (Q++ [j]))=ints (zi Q)++ [aB j]:=by simp [zi,ints]
     have m7:=p7.next;have apD:dI (.sl q 0 Q.length cp) D:=λid off n c e e2=>by cases e;omega
     have hc0:(rc L.length λj'=>V.bool (Dg G L i Q j')).set j (.bool true)=rc L.length λj'=> .bool (Dg G L i (Q++ [j]) j'):=by
      rw[iX]
      exact bI λj' _=>by
       rw[Uh]
       by_cases e:j'=j
       ·rw[if_pos e,if_pos e]
       ·rw[if_neg e,if_neg e]
     refine⟨by simp [eM],sl-(t+1),by omega,Q++ [j],k6.next,.un 1,t+1,by rw[oH];exact aA rfl,by rw[oH];omega,by omega,⟨?_,by rw[oH];simp,?_,?_,?_⟩,?_,?_,.inl rfl,by rw[el];exact p7.get,by omega,by omega,?_,?_,rfl⟩
     ·rw[List.nodup_append]
      exact⟨BQ0.nd,by simp,λx hx y hy e=>by
       obtain rfl:y=j:=by simpa using hy
       exact hjQ (e▸hx)⟩
     ·rw[List.getD,Io BQ0.ne];exact BQ0.hd
     ·intro x hx
      rcases Gl.1 hx with h1|h1
      ·exact BQ0.mem x h1
      ·obtain rfl:x=j:=by simpa using h1
       exact⟨hj,hij⟩
     ·intro k hk s' hs'
      obtain⟨y,hy,ey⟩:=BQ0.cl k hk s' hs';refine⟨y,Gl.2 (.inl hy),?_⟩;rw[ey,List.getD,List.getD,List.getD,List.getD,Io (by omega)]
     ·rw[List.getD,Io hp'];exact hc
     ·rw[etk]
      intro s' hs';rcases Gl.1 hs' with h1|h1
      ·obtain⟨y,hy,ey⟩:=hcl s' h1
       exact⟨y,Gl.2 (.inl hy),ey⟩
      ·obtain rfl:s'=s:=by simpa using h1
       exact⟨j,Gl.2 (.inr (by simp)),ej⟩
     ·rw[p7.old D (by omega) apD,o6' D (by omega),g5,hc0]
     ·refine⟨by omega,λx h1 h2=>?_⟩
      rw[p7.old x (by omega) (λid off n c e e2=>by cases e;omega),o6' x (by omega),o5 x h2];exact F4k.get x h1 h2
   clear BQ0 hcp gq hq nq gD Fa hc hpl d5 hp hp' hQl
   clear Q q cp
   rintro vars hb ⟨Q,q,cp,⟨g3,rfl⟩,hp',BQ1,hcp,gq,hq,nq,gD,Fb⟩
   have hQl:=BQ1.len
   simp(disch:=omega)only[go_sem]
   rw[jE p]
   exact⟨m-(p+1),by omega,Q,q,cp,p+1,aA rfl,by omega,BQ1,hcp,gq,hq,nq,gD,Fb,rfl⟩
  clear F79 B0 e8 n8 g8 o8 hZ e9 n9 g9 o9 f9 pt hc0
  rintro vars hb ⟨Q,q,cp,⟨g3,rfl⟩,BQ1,hcp,gq,hq,nq,gD,Fb⟩
  have hQl:=BQ1.len
  have nb:=Fb.next
  have srt:=Pj hb q (zi Q) cp (by rw[aS];omega) gq nq
  rw[aS] at srt
  simp(disch:=omega)only[go_sem]
  refine srt.mono ?_
  rintro _ ka ⟨l',gl,pl,al,Fa⟩
  obtain rfl:=BQ1.sort hG E (iI _) (by omega) hSG hSgen pl al
  have hQo:Q.length=(jF G L i).length:=by have:=pl.length_eq;rw[aS,aS] at this;exact this.symm
  have na:=Fa.next
  have f2a:Fr h2 ka:=⟨by omega,λx hx=>by rw[Fa.get x (by omega) (λe=>by have:x=q:=e;omega),Fb.get x (by omega) (λe=>by have:x=D:=e;omega)];exact f27.get x hx⟩
  have X1:=mP hG E (show i<L.length by omega)
  simp(disch:=omega)only[go_sem]
  refine (Tx vx n (L.getD i []) ka n0 n7 X1 (sx.mono f2a)).mono ?_
  rintro _ kb ⟨rfl,fb⟩
  have nkb:=fb.next
  obtain⟨vK,ks,WK,gB,owK,aK,bK,wD,wB,wN,wn,wX,_⟩:=J.ex
  have hks:=cE.length aK
  have gBb:kb.get (X+8)=some (.cells false [vL,.mp (X+3),vK,.sl (X+6) 0 L.length (.kn L.length)]):=by
   rw[fb.get _ (by omega),Fa.get _ (by omega) (λe=>by have:X+8=q:=e;omega),Fb.get _ (by omega) (λe=>by have:X+8=D:=e;omega)];exact gB
  have cB2:kb.cell (X+8) 2=some vK:=by rw[H.aF gBb];rfl
  have owx:=sx.dU.2.1
  have eKo:=owK.sv.eM
  obtain⟨Y,hY⟩:=exI kb.next
  obtain⟨kc,ec,mc,gc',oc,fc⟩:=iL hY [vx,aB (kV (L.getD i []) n:Nat),aB (Q.length:Int),.sl q 0 Q.length cp]
  have old7: ∀x,x<Z->x≠D->kc.get x=h7.get x:=λx h1 h2=>by
   rw[oc x (by omega),fb.get x (by omega),Fa.get x (by omega) (λe=>by have:x=q:=e;omega),Fb.get x (by omega) h2]
  have owKc:dQ kc vK 4 (Cls.pQ ks) (D+1):=owK.mono (by omega) λid off n' c e h1 h2=>old7 id (by omega) (by omega)
  have lr:=uR (G:=G) (L:=L) i
  obtain⟨kd,ad,pd⟩:=owKc.push (bytes:=64) (y:= .sl Y 0 1 (.kn 1)) (us:= [vx,aB (kV (L.getD i []) n:Nat),aB (Q.length:Int),.sl q 0 Q.length cp]) (SV.all rfl (by omega) gc' _) (n:=ks.length) (m:=1) (Lw ks) rfl (by omega) (by omega) (by omega)
  have md:=pd.next
  have apB:dI vK (X+8):=λid off n' c e e2=>by have:=(owK.in _ _ _ _ e).2.1;omega
  have gBd:kd.get (X+8)=some (.cells false [vL,.mp (X+3),vK,.sl (X+6) 0 L.length (.kn L.length)]):=by
   rw[pd.old _ (by omega) apB,oc _ (by omega)];exact gBb
  obtain⟨ke,ee,me,ge,oe⟩:=Fj kd (X+8) [vL,.mp (X+3),.sl kc.next 0 (ks.length+1) (.un 4),.sl (X+6) 0 L.length (.kn L.length)]
  simp(disch:=omega)only[go_sem,cB2,ER sx.dU.1 owx,CD owx (w:= .sl q 0 Q.length cp) rfl rfl,FV owx (w:= .sl q 0 Q.length cp) rfl,hY,ec,ad,gBd,CN,ee]
  rw[jE i]
  have dPV: ∀x,x<Z-> ¬WK x->ke.get x=h7.get x:=λx h1 h2=>by
   rw[oe x (λe=>h2 (e▸wB)),pd.old x (by omega) (λid off n' c e e2=>h2 (e2▸bK _ _ _ _ e)),old7 x h1 (λe=>h2 (e▸wD))]
  have FK:Fx WK h7 ke:=⟨by omega,λx h1 h2=>dPV x (by omega) h2⟩
  have f2e:Fr h2 ke:=⟨by omega,λx hx=>by rw[dPV x (by omega) (λh1=>by have:=wX x h1;omega)];exact f27.get x hx⟩
  have e1k:Cls.pQ (ks++ [⟨vx,kV (L.getD i []) n,Q.length,.sl q 0 Q.length cp,i,⟨sx.dU.1,owx,sx.eM⟩,⟨rfl,rfl,by simp [eM]⟩⟩])=Cls.pQ ks++ [vx,aB (kV (L.getD i []) n:Nat),aB (Q.length:Int),.sl q 0 Q.length cp]:=by
   simp [Cls.pQ,Cls.KE.enc]
  refine⟨m-(i+1),by omega,i+1,aA rfl,by omega,⟨⟨_,ks++ [⟨vx,kV (L.getD i []) n,Q.length,.sl q 0 Q.length cp,i,⟨sx.dU.1,owx,sx.eM⟩,⟨rfl,rfl,by simp [eM]⟩⟩],λx=>WK x∨x=kc.next,ge,?_,?_,λid off n' c e=>by cases e;exact .inr rfl,   .inl wD,.inl wB,.inl wN,λx h=>by rcases h with h|h;have:=wn x h;omega;omega,λx h=>by rcases h with h|h;exact wX x h;omega,.inr ⟨_,_,by rw[oH];rfl,?_⟩⟩,?_,?_,by omega⟩,rfl⟩
  ·rw[e1k]
   exact (pd.own (b:=D+1) (Lw ks) rfl (by omega)).mono (by omega) λid off n' c e h1 h2=>by cases e;exact oe _ (by omega)
  ·rw[(Jh i).1 hr]
   refine cE.append (aK.mono λa r k=>k.go FK (by omega) wX λx h1 h2=>by rcases h2 with h2|h2;exact h2;omega) ⟨⟨rfl,rfl,hQo,⟨sx.mono f2e,?_⟩,⟨?_,?_⟩⟩,trivial⟩
   ·rw[←hX];exact YB sx
   ·rw[hQo]
    refine SV.all (ro:=false) (by rw[aI,aS,Nat.mul_one]) (by omega) ?_ _
    rw[oe q (by omega),pd.old q (by omega) (λid off n' c e e2=>by have:=wn _ (bK _ _ _ _ e);omega),oc q (by omega),fb.get q (by omega)]
    exact gl
   ·exact λh=>by rcases h with h|h;have:=wn _ h;omega;omega
  ·rw[e1k,oe _ (by omega)];exact pd.get
  ·rw[oe D (by omega),pd.old D (by omega) (λid off n' c e e2=>by have:=(owK.in _ _ _ _ e).2.1;omega),oc D (by omega),fb.get D (by omega),Fa.get D (by omega) (λe=>by have:D=q:=e;omega),gD,bI λj hj=>by rw[KK hG E (show i<L.length by omega) BQ1 hSG hSgen hj]]
  ·refine⟨by have:=J.old.next;omega,λx h1 h2=>?_⟩
   have hx8:x≠X+8:=λe=>h2 (.inl e)
   have hxD:x<D:=by omega
   rw[oe x hx8,pd.old x (by omega) (λid off n' c e e2=>by have:=(owK.in _ _ _ _ e).2.1;omega),old7 x (by omega) (by omega)]
   exact J.old.get x h1 h2
 rintro vars h7 ⟨⟨g,rfl⟩,J⟩
 exact hk L X D vL h2 h5 h7 A g hL ⟨E,by omega,f1.trans f2,hX,nw.sp,f25,by omega,hD,by rw[f5.get _ (by omega),hm];exact gM4,by rw[f5.get _ (by omega),hm];exact gN4,by rw[hm];exact J⟩
end
open Classical in
noncomputable def iD (G:List Nat->Prop)(L:LN)(K:List Nat)(j:Nat):Nat:=K.findIdx λr=>decide (cR G L r j)
structure KR (n:Nat)(G:List Nat->Prop)(L:LN)(hh:H)(a:Cls.KE)(r:Nat):Prop where
 fst:a.fst=r
 ord:a.ord=kV (L.getD r []) n
 size:a.size=(jF G L r).length
 rep:SI hh a.rep (zi (L.getD r []))
 ranks:SI hh a.ranks (zi (jF G L r))
theorem KR.mono {n:Nat}{G:List Nat->Prop}{L:LN}{h h':H}{a:Cls.KE}{r:Nat}(k:KR n G L h a r)(f:Fr h h'):KR n G L h' a r:=⟨k.fst,k.ord,k.size,k.rep.mono f,k.ranks.mono f⟩
def WH (n:Nat)(G:List Nat->Prop)(L:LN)(r s:Nat):Prop:=kV (L.getD r []) n<kV (L.getD s []) n∨kV (L.getD r []) n=kV (L.getD s []) n/\((jF G L r).length<(jF G L s).length∨(jF G L r).length=(jF G L s).length/\r<s)
structure Bi (n:Nat)(G:List Nat->Prop)(L:LN)(K:List Nat):Prop where
 perm:K.Perm (jR G L L.length)
 asc:K.Pairwise (WH n G L)
structure TK (n:Nat)(G:List Nat->Prop)(L:LN)(K:List Nat)(hh:H)(v:V):Prop where
 ex: ∃B M N S cp vL ks,v= .ptr B 0/\B<hh.next/\M<hh.next/\N<hh.next/\S<hh.next/\hh.get B=some (.cells false [vL,.mp M,.sl S 0 K.length cp,.sl N 0 L.length (.kn L.length)])/\
  hh.get M=some (.wmap .str (Rz L L.length))/\hh.get N=some (.cells false (rc L.length λj=> aB (iD G L K j:Nat)))/\hh.get S=some (.cells false (Cls.pQ ks))/\cE (KR n G L hh) ks K/\SP hh vL L
theorem TK.mono {n:Nat}{G:List Nat->Prop}{L:LN}{K:List Nat}{h h':H}{v:V}(g:TK n G L K h v)(f:Fr h h'):TK n G L K h' v:=by
 obtain⟨B,M,N,S,cp,vL,ks,e,hB,hM,hN,hS,gB,gM,gN,gS,a,sp⟩:=g.ex;have n1:=f.next;exact⟨B,M,N,S,cp,vL,ks,e,by omega,by omega,by omega,by omega,by rw[f.get _ hB];exact gB,by rw[f.get _ hM];exact gM,by rw[f.get _ hN];exact gN,by rw[f.get _ hS];exact gS,a.mono λ_ _ k=>k.mono f,sp.mono f⟩
section
variable {n:Nat} {G:List Nat->Prop} {L:LN} {K:List Nat} (hG:sW n G) (E:fI G L)
include hG E
omit hG E in
theorem Hk (h0:0<L.length):0∈jR G L L.length:=rG.2 ⟨h0,λj hj=>by omega⟩
theorem Gr (pK:K.Perm (jR G L L.length)){k:Nat}(hk:k<K.length){j:Nat}(hj:j∈jF G L (K.getD k 0)):iD G L K j=k:=by
 classical
 obtain⟨hjl,hc⟩:=mG.1 hj;have hnd:K.Nodup:=pK.nodup_iff.2 (by unfold jR;exact List.Pairwise.filter _ List.nodup_range);have hK: ∀r∈K,r<L.length/\AE G L r:=λr hr=>rG.1 (pK.mem_iff.1 hr)
 unfold iD;rw[List.findIdx_eq hk];have ek:K.getD k 0=K[k]:=Pm.cK hk;rw[ek] at hc;refine⟨by simpa using hc,λi hi=>?_⟩;simp only[decide_eq_false_iff_not];intro hc2;have h1:=hK K[i] (List.getElem_mem _);have h2:=hK K[k] (List.getElem_mem _);have:=GP hG E h1.1 h2.1 h1.2 h2.2 hc2 hc;have hne:=List.pairwise_iff_getElem.1 hnd i k (by omega) hk hi;exact hne this
theorem Eu (pK:K.Perm (jR G L L.length)){j:Nat}(hj:j<L.length): ∃k,k<K.length/\j∈jF G L (K.getD k 0):=by
 obtain⟨r,h1,h2,h3⟩:=XK hG E hj;have hr:r∈K:=pK.mem_iff.2 (rG.2 ⟨by omega,h2⟩);obtain⟨k,hk,ek⟩:=Gg.1 hr;exact⟨k,hk,mG.2 ⟨hj,by rw[Pm.cK hk,ek];exact h3⟩⟩
end
open Classical in
noncomputable def Lb (G:List Nat->Prop)(L:LN)(K:List Nat)(k t j:Nat):Nat:=if (∃k0,k0<k/\j∈jF G L (K.getD k0 0))∨j∈(jF G L (K.getD k 0)).take t then iD G L K j else 0
theorem JP (G:List Nat->Prop)(L:LN)(K:List Nat)(j:Nat):Lb G L K 0 0 j=0:=by
 classical
 unfold Lb;rw[if_neg];rintro (⟨k0,h,_⟩|h)
 ·omega
 ·simp at h
theorem IK (G:List Nat->Prop)(L:LN)(K:List Nat)(k j:Nat):Lb G L K k (jF G L (K.getD k 0)).length j=Lb G L K (k+1) 0 j:=by
 classical
 unfold Lb;rw[List.take_length,List.take_zero]
 have e:((∃k0,k0<k/\j∈jF G L (K.getD k0 0))∨j∈jF G L (K.getD k 0))↔((∃k0,k0<k+1/\j∈jF G L (K.getD k0 0))∨j∈([]:List Nat)):=by
  constructor
  ·rintro (⟨k0,h1,h2⟩|h)
   ·exact .inl ⟨k0,by omega,h2⟩
   ·exact .inl ⟨k,by omega,h⟩
  ·rintro (⟨k0,h1,h2⟩|h)
   ·by_cases e:k0=k
    ·subst e;exact .inr h2
    ·exact .inl ⟨k0,by omega,h2⟩
   ·cases h
 by_cases h:((∃k0,k0<k/\j∈jF G L (K.getD k0 0))∨j∈jF G L (K.getD k 0))
 ·rw[if_pos h,if_pos (e.1 h)]
 ·rw[if_neg h,if_neg (λx=>h (e.2 x))]
theorem LK {n:Nat}{G:List Nat->Prop}{L:LN}{K:List Nat}(hG:sW n G)(E:fI G L)(pK:K.Perm (jR G L L.length)){k:Nat}(hk:k<K.length){t:Nat}(ht:t<(jF G L (K.getD k 0)).length)(j:Nat):
  Lb G L K k (t+1) j=if j=(jF G L (K.getD k 0)).getD t 0 then k else Lb G L K k t j:=by
 classical
 by_cases e:j=(jF G L (K.getD k 0)).getD t 0
 ·rw[if_pos e]
  have hj:j∈jF G L (K.getD k 0):=by rw[e];exact bD ht
  unfold Lb
  rw[if_pos (.inr (by rw[iQ 0 ht,e];simp))]
  exact Gr hG E pK hk hj
 ·rw[if_neg e]
  unfold Lb
  rw[iQ 0 ht]
  simp only[Gl,List.mem_singleton,e,or_false]
theorem KI {n:Nat}{G:List Nat->Prop}{L:LN}{K:List Nat}(hG:sW n G)(E:fI G L)(pK:K.Perm (jR G L L.length)){j:Nat}(hj:j<L.length):Lb G L K K.length 0 j=iD G L K j:=by
 classical
 obtain⟨k,h1,h2⟩:=Eu hG E pK hj;unfold Lb;rw[if_pos (.inl ⟨k,h1,h2⟩)]
theorem En {h:H}{S:Nat}{ro:Bool}: ∀{ks:List Cls.KE} {pre:List V},h.get S=some (.cells ro (pre++Cls.pQ ks))-> ∀{i:Nat} (hi:i<ks.length),h.row S (pre.length+i*4) 4=some ks[i].enc
 | [],_,_,_,hi=>by simp at hi
 |a::r,pre,g,0,_=>by
  unfold H.row;rw[g];show sub (pre++(a.enc++Cls.pQ r)) (pre.length+0*4) 4=some a.enc;simp only[sub,Nat.zero_mul,Nat.add_zero];have:a.enc.length=4:=rfl;rw[if_pos (by rw[oH,oH];omega),List.drop_left,List.take_append,List.take_of_length_le (by omega),this];simp
 |a::r,pre,g,i+1,hi=>by
  have g':h.get S=some (.cells ro ((pre++a.enc)++Cls.pQ r)):=by rw[g,List.append_assoc];rfl
  have:=En g' (i:=i) (by simpa using hi);rw[oH,show a.enc.length=4 from rfl] at this;rw[show pre.length+(i+1)*4=pre.length+4+i*4 by omega];simpa using this
theorem OZ (h:H)(id off:Nat)(a:Cls.KE):Yy h 4 (.ptr id off) (.agg a.enc)=fL (h.get id) h id off a.enc:=zH h id off 4 _ rfl (by simp [Cls.KE.enc,a.hrep.2.1,a.hranks.2.1,show (aB (a.ord:Int)).one=true from rfl,show (aB (a.size:Int)).one=true from rfl])
theorem GN (hh:H)(id:Nat)(a:Cls.KE)(x y z w:V):fL (some (.cells false [x,y,z,w])) hh id 0 a.enc=some (hh.set id (some (.cells false a.enc))):=by
 simp [fL,putAt,Cls.KE.enc]
theorem cE.ex {α β:Type}{R:α->β->Prop}{as:List α}{bs:List β}(h:cE R as bs){a:α}(ha:a∈as): ∃b∈bs,R a b:=by
 obtain⟨i,hi,rfl⟩:=Gg.1 ha;have hl:=cE.length h;exact⟨bs[i]'(by omega),List.getElem_mem _,cE.get h i hi (by omega)⟩
theorem SI.lit {h:H}{v:V}{l:List Int}(s:SI h v l)(hl:0<l.length): ∃id off m cap,v= .sl id off (m+1) cap/\m+1=l.length/\id<h.next/\ ∀i,i<l.length->h.cell id (off+i)=some (aB (l.getD i 0)):=by
 obtain⟨id,off,sh,hid,hc⟩:=s.open;rcases s with ⟨_,h0⟩|⟨id',off',len,cap,ro,vs,e,h2,h3,_⟩
 ·have:l.length=0:=by rw[←aI,h0];rfl
  omega
 ·rw[aI,Nat.mul_one] at h2
  have hx:=sh.ixa .i64 0 (by omega) (by omega);subst e;rw[wE (by omega) (by omega)] at hx;simp only[Option.some.injEq,V.ptr.injEq] at hx;obtain⟨rfl,h5⟩:=hx;have h6:off'=off:=by omega
  subst h6;exact⟨id',off',l.length- 1,cap,by rw[show l.length- 1+1=len by omega],by omega,h3,hc⟩
theorem WE {W0:Nat->Prop}(vc:V)(n:Nat)(O:LN)(R:oV)(G:List Nat->Prop)(h:H)(gc:GC W0 h vc n O R G):
  Ev T 56 [vc] h (λv h'=> ∃p K,v= .tup [p,aB 0]/\TK n G (cX O R n 0 (bH n)) K h' p/\Bi n G (cX O R n 0 (bH n)) K/\Fr h h'):=by
 refine QO vc n O R G h gc _ λL X D vL h2 h5 h7 A g hL e=>?_
 rw[hL]
 have hG:=gc.nH
 have E:=e.el
 obtain⟨vK,ks,WK,gB,owK,aK,bK,wD,wB,wN,wn,wX,xK⟩:=e.j.ex
 have hks:=cE.length aK
 obtain⟨m,hm⟩:=exI L.length
 have h0:0<L.length:=List.length_pos_of_mem ((E.mem _).2 hG.one)
 have hk0:0<ks.length:=by rw[hks];exact List.length_pos_of_mem (Hk h0)
 obtain⟨S,cp,rfl,gS⟩: ∃id cap,vK= .sl id 0 ks.length cap/\h7.get id=some (.cells false (Cls.pQ ks)):=by
  rcases xK with h1|h1
  ·subst h1;simp at hk0
  ·exact h1
 have wS:=bK _ _ _ _ rfl
 have nS:=wn _ wS
 have cB2:h7.cell (X+8) 2=some (.sl S 0 ks.length cp):=by rw[H.aF gB];rfl
 show Wp T none (Pc 2 jW.body) _ h7 _
 simp(disch:=omega)only[go_sem,Pc,HX,jW,cB2]
 have hR: ∀r∈jR G L L.length,r<L.length/\AE G L r:=λr hr=>rG.1 hr
 have hPp: ∀a∈ks,a.Pp h7 h7.next S:=λa ha=>by
  obtain⟨r,hr,k⟩:=cE.ex aK ha;obtain⟨hrl,hri⟩:=hR r hr;obtain⟨l1,l2⟩:=Lm hG E hrl hri;obtain⟨id,off,m',cap,e1,e2,e3,e4⟩:=SI.lit k.ranks.si (by rw[aS];exact l1);have ho:=k.ranks.off;rw[e1] at ho;refine⟨id,off,m',cap,e1,e3,λh1=>ho (h1▸wS),?_⟩;have:=e4 0 (by rw[aS];exact l1);rw[Nat.add_zero] at this;rw[this,zi,oA _ (d:=0) l1,l2,k.fst]
 refine (Cls.GX h7 S h7.next ks cp (by rw[hks];have:=uR (G:=G) (L:=L) L.length;have:=e.le;omega) gS nS (iI _) hPp).mono ?_
 rintro _ h8 ⟨ks',gS8,pm,srt,F8⟩
 obtain⟨K,hK⟩:=exI (ks'.map (λa:Cls.KE=>a.fst))
 have hlK:K.length=ks.length:=by rw[←hK,rF];exact pm.length_eq
 have hkr:ks.map (λa:Cls.KE=>a.fst)=jR G L L.length:=by
  refine List.ext_getElem (by rw[rF];exact hks) λi h1 h2=>?_
  rw[List.getElem_map];exact (cE.get aK i (by simpa using h1) h2).fst
 have pK:K.Perm (jR G L L.length):=by rw[←hK,←hkr];exact pm.map _
 have kK: ∀a∈ks',KO n G L X WK h7 a a.fst:=λa ha=>by
  obtain⟨r,hr,k⟩:=cE.ex aK (pm.mem_iff.1 ha);rw[k.fst];exact k
 have FK:Fx WK h7 h8:=⟨F8.next,λq h1 h2=>F8.get q h1 λh3=>h2 (by have:q=S:=h3;rw[this];exact wS)⟩
 have kK8: ∀a∈ks',KO n G L X WK h8 a a.fst:=λa ha=>(kK a ha).go FK (by have:=wX S wS;omega) wX λ_ _ h1=>h1
 have hSD:=(owK.in _ _ _ _ rfl).2.1
 have xD:=e.xD
 have n8:=F8.next
 have gB8:h8.get (X+8)=some (.cells false [vL,.mp (X+3),.sl S 0 ks.length cp,.sl (X+6) 0 L.length (.kn L.length)]):=by
  rw[F8.get _ (wn _ wB) (λh1=>by have:X+8=S:=h1;omega)];exact gB
 have cB8:h8.cell (X+8) 2=some (.sl S 0 ks.length cp):=by rw[H.aF gB8];rfl
 have gN7:h7.get (X+6)=some (.cells false (rc L.length λ_=> aB 0)):=by
  rw[e.j.old.get _ (by rw[e.n5];omega) (by omega)];exact e.gN
 have gN8:h8.get (X+6)=some (.cells false (rc L.length λj=> aB (Lb G L K 0 0 j:Nat))):=by
  rw[F8.get _ (wn _ wN) (λh1=>by have:X+6=S:=h1;omega),gN7,show (λj=>aB (Lb G L K 0 0 j:Nat))=λ_=>aB 0 from funext λj=>by rw[JP];rfl]
 have hKk: ∀k,k<K.length-> ∃a,ks'[k]? =some a/\KO n G L X WK h8 a (K.getD k 0):=λk hk=>by
  have hk':k<ks'.length:=by rw[pm.length_eq,←hlK];exact hk
  refine⟨ks'[k],gW hk',?_⟩;have:=kK8 _ (List.getElem_mem hk');have e2:K.getD k 0=(ks'[k]).fst:=by rw[Pm.cK hk];subst hK;rw[List.getElem_map]
  rw[e2];exact this
 have le:=e.le
 have hKle:K.length<=L.length:=by rw[hlK,hks];exact uR _
 have nN:=wn _ wN
 rw[←hlK] at cB8 gB8
 simp(disch:=omega)only[go_sem,cB8]
 refine cI (λvs hh=>(∃g:Nat->V,vs= [g 0,g 1,.nilp,aB 0,g 4,g 5,.ptr (X+8) 0,g 7,g 8,g 9,g 10,g 11,g 12,g 13,g 14,g 15,g 16,g 17,g 18,g 19,g 20,g 21,g 22,g 23,g 24,g 25,g 26,g 27,g 28,g 29,g 30,g 31,g 32,g 33,g 34,g 35,g 36,g 37,g 38,g 39,g 40,g 41,g 42,g 43,g 44,g 45])/\hh.get (X+6)=some (.cells false (rc L.length λj=> aB (Lb G L K K.length 0 j:Nat)))/\Fx (· =X+6) h8 hh) ?_ ?_
 ·refine aJ (λk' vs hh=> ∃(k:Nat),(∃g:Nat->V,vs= [g 0,g 1,.nilp,aB 0,g 4,g 5,.ptr (X+8) 0,g 7,g 8,g 9,g 10,g 11,g 12,g 13,g 14,g 15,g 16,g 17,g 18,g 19,g 20,g 21,g 22,g 23,g 24,g 25,g 26,g 27,g 28,g 29,g 30,g 31,g 32,g 33,g 34,g 35,g 36,g 37,.sl S 0 K.length cp,aB (K.length:Int),aB k,g 41,g 42,g 43,g 44,g 45])/\k<=K.length/\hh.get (X+6)=some (.cells false (rc L.length λj=> aB (Lb G L K k 0 j:Nat)))/\Fx (· =X+6) h8 hh/\k'=K.length-k) K.length
   ⟨0,aA rfl,lB _,gN8,Fx.refl _ _,rfl⟩ ?_
  rintro k' vars h9 ⟨k,⟨g,rfl⟩,hk,gN9,F9,rfl⟩
  have n9:=F9.next
  by_cases hlt:(k:Int)<(K.length:Int)
  case neg=>
   have d4:=iV hlt;obtain rfl:k=K.length:=by omega
   simp(disch:=omega)only[go_sem,d4];exact⟨aA rfl,gN9,F9⟩
  have d4:=mO hlt
  have hk':k<K.length:=by omega
  obtain⟨a,ea,ko⟩:=hKk k hk'
  have hkl:k<ks'.length:=by rw[pm.length_eq,←hlK];exact hk'
  have ea':ks'[k]=a:=by rw[gW hkl] at ea;simpa using ea
  have gS9:h9.get S=some (.cells false (Cls.pQ ks')):=by rw[F9.get _ (by omega) (λh1=>by have:S=X+6:=h1;omega)];exact gS8
  have rw9:h9.row S (k*4) 4=some a.enc:=by
   have:=En (pre:= []) (by simpa using gS9) hkl;rw[ea'] at this;simpa using this
  obtain⟨Y,hY⟩:=exI h9.next
  obtain⟨ha,eha,na,ga,oa,fa⟩:=iL hY [.aC,aB 0,aB 0,.aC]
  obtain⟨hb,ehb,nb,gb,ob⟩:=Fj ha Y a.enc
  have cb3:hb.cell Y 3=some a.ranks:=by rw[H.aF gb];rfl
  have lr:=ko.ranks.si.lens
  rw[aS] at lr
  obtain⟨r,hr⟩:=exI (K.getD k 0)
  rw[hr] at ko lr
  simp(disch:=omega)only[go_sem,d4,rw9,hY,eha,OZ,ga,GN,ehb,cb3,lr]
  have hrK:r∈jR G L L.length:=by rw[←hr];exact pK.mem_iff.1 (bD hk')
  obtain⟨hrl,hri⟩:=hR r hrK
  obtain⟨l1,l2⟩:=Lm hG E hrl hri
  obtain⟨idR,offR,mR,capR,e1,e2,e3,e4⟩:=SI.lit ko.ranks.si (by rw[aS];exact l1)
  have ho:=ko.ranks.off
  rw[e1] at ho
  have hRN:idR≠X+6:=λh1=>ho (h1▸wN)
  obtain⟨c,hc⟩:=exI ((jF G L r).length)
  rw[aS,hc] at e2 e4
  have hcl:c<=L.length:=by
   rw[←hc];have:=List.Nodup.length_le_of_subset (Jf (G:=G) (L:=L) r) (l₂:=List.range L.length) λj hj=>Hm.2 (mG.1 hj).1
   rwa [List.length_range] at this
  rw[hc,e1]
  have Fb:Fx (· =X+6) h8 hb:=⟨by omega,λq h1 h2=>by rw[ob q (by omega),oa q (by omega)];exact F9.get q h1 h2⟩
  have gNb:hb.get (X+6)=some (.cells false (rc L.length λj=> aB (Lb G L K k 0 j:Nat))):=by rw[ob _ (by omega),oa _ (by omega)];exact gN9
  have gBb: ∀hh,Fx (· =X+6) h8 hh->hh.cell (X+8) 3=some (.sl (X+6) 0 L.length (.kn L.length)):=λhh f=>by
   have:hh.get (X+8)=h8.get (X+8):=f.get _ (by have:=wn _ wB;omega) (by omega);rw[H.aF (this.trans gB8)];rfl
  refine De (λvs hh=>(∃g:Nat->V,vs= [g 0,g 1,.nilp,aB 0,g 4,g 5,.ptr (X+8) 0,g 7,g 8,g 9,g 10,g 11,g 12,g 13,g 14,g 15,g 16,g 17,g 18,g 19,g 20,g 21,g 22,g 23,g 24,g 25,g 26,g 27,g 28,g 29,g 30,g 31,g 32,g 33,g 34,g 35,g 36,g 37,.sl S 0 K.length cp,aB (K.length:Int),aB k,g 41,g 42,g 43,g 44,g 45])/\hh.get (X+6)=some (.cells false (rc L.length λj=> aB (Lb G L K (k+1) 0 j:Nat)))/\Fx (· =X+6) h8 hh) ?_ ?_
  ·refine aJ (λk' vs hh=> ∃(t:Nat),(∃g:Nat->V,vs= [g 0,g 1,.nilp,aB 0,g 4,g 5,.ptr (X+8) 0,g 7,g 8,g 9,g 10,g 11,g 12,g 13,g 14,g 15,g 16,g 17,g 18,aB k,g 20,g 21,g 22,g 23,g 24,g 25,g 26,g 27,g 28,g 29,g 30,g 31,g 32,g 33,g 34,g 35,g 36,g 37,.sl S 0 K.length cp,aB (K.length:Int),aB k,g 41,.sl idR offR (mR+1) capR,aB c,aB t,g 45])/\t<=c/\hh.get (X+6)=some (.cells false (rc L.length λj=> aB (Lb G L K k t j:Nat)))/\Fx (· =X+6) h8 hh/\k'=c-t) c
    ⟨0,aA rfl,lB _,gNb,Fb,rfl⟩ ?_
   clear gNb Fb gb ob cb3 nb ehb ga oa fa na eha rw9 gN9 F9 n9
   rintro k' vars hc' ⟨t,⟨g2,rfl⟩,ht,gNc,Fc,rfl⟩
   by_cases htl:(t:Int)<(c:Int)
   case neg=>
    have d5:decide ((t:Int)<(c:Int))=false:=decide_eq_false htl;obtain rfl:t=c:=by omega
    simp(disch:=omega)only[go_sem,d5];refine⟨aA rfl,?_,Fc⟩;rw[gNc,show (λj=>aB (Lb G L K k t j:Nat))=λj=>aB (Lb G L K (k+1) 0 j:Nat) from funext λj=>by rw[←IK,hr,hc]]
   have d5:decide ((t:Int)<(c:Int))=true:=decide_eq_true htl
   have ht':t<c:=by omega
   obtain⟨x,hx⟩:=exI ((jF G L r).getD t 0)
   have hxl:x<L.length:=by rw[←hx];exact (mG.1 (bD (by omega))).1
   have cR':hc'.cell idR (offR+t)=some (aB x):=by
    have e5:=e4 t ht';unfold H.cell at e5 ⊢;rw[Fc.get idR e3 hRN,e5,zi,oA _ (d:=0) (by omega),hx]
   have pt:=aY (vs:=rc L.length λj=> aB (Lb G L K k t j:Nat)) (off:=x) (by rw[dJ];exact hxl)
   have tl:(t:Int).toNat=t:=rfl
   simp(disch:=omega)only[go_sem,d5,cR',gBb hc' Fc,gNc,pt]
   rw[jE t]
   refine⟨c-(t+1),by omega,t+1,aA rfl,by omega,?_,⟨Fc.next,λq h1 h2=>by rw[H.aH _ h2];exact Fc.get q h1 h2⟩,rfl⟩
   rw[iX,bI λj hj=>?_]
   rw[LK hG E pK hk' (by rw[hr];omega),hr,hx]
   by_cases ej:j=x
   ·rw[if_pos ej,if_pos ej]
   ·rw[if_neg ej,if_neg ej]
  rintro vars hd ⟨⟨g2,rfl⟩,gNd,Fd⟩
  simp(disch:=omega)only[go_sem]
  rw[jE k]
  exact⟨K.length-(k+1),by omega,k+1,aA rfl,by omega,gNd,Fd,rfl⟩
 rintro vars h9 ⟨⟨g,rfl⟩,gN9,F9⟩
 have n9:=F9.next
 simp(disch:=omega)only[go_sem]
 have n2:=e.x2
 have o9: ∀q,q<D->q≠X+8->q≠X+6->h9.get q=h5.get q:=λq h1 h2 h3=>by
  rw[F9.get q (by have:=e.j.nx;omega) h3,F8.get q (by have:=e.j.nx;omega) (λh4=>by have:q=S:=h4;omega),e.j.old.get q (by rw[e.n5];exact h1) (λh4=>by rcases h4 with h4|h4;exact h2 h4;omega)]
 have nx:=e.j.nx
 have f29:Fr h2 h9:=⟨by omega,λq hq=>by rw[o9 q (by omega) (by omega) (by omega)];exact e.f25.get q hq⟩
 have F89:Fx WK h8 h9:=⟨F9.next,λq h1 h2=>F9.get q h1 λh3=>h2 (by have:q=X+6:=h3;rw[this];exact wN)⟩
 have hnd:K.Nodup:=pK.nodup_iff.2 (by classical exact (by unfold jR;exact List.Pairwise.filter _ List.nodup_range))
 have hlk:ks'.length=K.length:=by rw[←hK,rF]
 refine⟨.ptr (X+8) 0,K,rfl,⟨X+8,X+3,X+6,S,cp,vL,ks',rfl,by omega,by omega,by omega,by omega,?_,?_,?_,?_,?_,e.sp.mono f29⟩,⟨pK,?_⟩,e.f2.trans f29⟩
 ·rw[F9.get _ (by omega) (by omega)];exact gB8
 ·rw[o9 _ (by omega) (by omega) (by omega)];exact e.gM
 ·rw[gN9,bI λj hj=>by rw[KI hG E pK hj]]
 ·rw[F9.get _ (by omega) (by omega)];exact gS8
 ·refine cE.mK hlk λi h1 h2=>?_
  obtain⟨a,ea,ko⟩:=hKk i h2
  have ea':ks'[i]=a:=by rw[gW h1] at ea;simpa using ea
  have k9:=ko.go F89 (by omega) wX λ_ _ h1=>h1
  rw[Pm.cK h2] at k9
  rw[ea']
  exact⟨k9.fst,k9.ord,k9.size,k9.rep.si,k9.ranks.si⟩
 ·have h1:ks'.Pairwise λa b=>a.fst≠b.fst:=by
   have:=hnd;rw[←hK] at this;exact List.pairwise_map.1 this
  rw[←hK,List.pairwise_map];refine List.Pairwise.imp_of_mem ?_ (List.Pairwise.and srt h1);rintro a b ha hb ⟨h2,h3⟩;have ka:=kK a ha;have kb:=kK b hb;have h4: ¬(b.lt a=true):=by rw[h2];simp
  rw[Cls.KE.lt_iff] at h4;unfold WH;rw[←ka.ord,←kb.ord,←ka.size,←kb.size];omega
theorem EI {n:Nat}{G:List Nat->Prop}{L:LN}{r s:Nat}(a:WH n G L r s)(b:WH n G L s r):False:=by
 unfold WH at a b;omega
theorem Bi.uniq {n:Nat}{G:List Nat->Prop}{L:LN}{K K':List Nat}(a:Bi n G L K)(b:Bi n G L K'):K=K':=
 (a.perm.trans b.perm.symm).eq_of_pairwise (λ_ _ _ _ h1 h2=>(EI h1 h2).elim) a.asc b.asc
noncomputable def xP (G:List Nat->Prop)(L:LN)(K:List Nat):List Nat:=(List.range L.length).map (iD G L K)
theorem UX (G:List Nat->Prop)(L:LN)(K:List Nat):(rc L.length λj=>aB (iD G L K j:Nat))=ints (zi (xP G L K)):=by
 refine Is (by rw[aI,aS];simp [xP]) λi hi=>?_
 rw[Ap (by simpa [xP] using hi)];have:(xP G L K).getD i 0=iD G L K i:=by simp [xP,hi]
 rw[this]
theorem aaC {W0:Nat->Prop}(vc:V)(n:Nat)(O:LN)(R:oV)(G:List Nat->Prop)(h:H)(gc:GC W0 h vc n O R G)(L:LN)(hL:cX O R n 0 (bH n)=L):
  Ev T 21 [vc] h (λv h'=> ∃vl K,v= .tup [vl,aB 0]/\Bi n G L K/\SI h' vl (zi (xP G L K))/\Fr h h'):=by
 obtain⟨vO,vR,e,sO,sR⟩:=gc.ch
 subst e
 refine bL uG rfl rfl ?_
 have oneO:vO.one=true:=PE sO
 have oneR:vR.one=true:=PC sR
 obtain⟨A,hA⟩:=exI h.next
 obtain⟨h1,e1,n1,g1,o1,f1⟩:=iL hA [aB n,vO,vR]
 have bx:=eZ h (v:= aB n) (u:=vO) (w:=vR) rfl oneO oneR
 have rB:=bW g1
 simp(disch:=omega)only[go_sem,uG,aE,bx,hA,e1,rB]
 refine (WE _ n O R G h1 (gc.mono f1)).mono ?_
 rw[hL]
 rintro _ h2 ⟨p,K,rfl,go,ik,f2⟩
 obtain⟨B,M,N,S,cp,vL,ks,rfl,hB,hM,hN,hS,gB,gM,gN,gS,a,sp⟩:=go.ex
 have c3:h2.cell B 3=some (.sl N 0 L.length (.kn L.length)):=by rw[H.aF gB];rfl
 simp(disch:=omega)only[go_sem]
 refine aX (λhc=>(hc rfl).elim) (λ_=>?_)
 simp(disch:=omega)only[go_sem,c3]
 rw[UX] at gN
 exact⟨_,K,rfl,ik,SV.all (by rw[aI,aS];simp [xP]) hN gN _,f1.trans f2⟩
def qT (ks:List Cls.KE):List V:=ks.flatMap λa=> [a.rep,aB (a.ord:Int),aB (a.size:Int)]
theorem zA (ks:List Cls.KE):(qT ks).length=ks.length*3:=by
 induction ks with
 |nil=>rfl
 |cons a r ih=>
  show ([a.rep,aB (a.ord:Int),aB (a.size:Int)]++qT r).length=_;rw[oH,ih];show 3+r.length*3=(r.length+1)*3;omega
theorem RS {h:H}{Y:Nat}{ro:Bool}{a:Cls.KE}(g:h.get Y=some (.cells ro a.enc)):h.row Y 0 3=some [a.rep,aB (a.ord:Int),aB (a.size:Int)]:=by
 simp [H.row,g,sub,Cls.KE.enc]
theorem EY {v:V}(ho:v.one=true)(x y:Int)(h:H):tN h 3 [.aC,aB 0,aB 0] 1 [(0,3,.agg [v,aB x,aB y])]=some (.sl h.next 0 1 (.kn 1),h.new (.cells false [v,aB x,aB y])):=by
 have e:dS [V.aC,aB 0,aB 0] 3= [V.aC,aB 0,aB 0]:=rfl;simp [tN,jK,putAt,e,ho,show ∀l,(V.agg l).cells=l from λ_=>rfl,show ∀z,(aB z).one=true from λ_=>rfl]
theorem Te {W0:Nat->Prop}(vc:V)(n:Nat)(O:LN)(R:oV)(G:List Nat->Prop)(h:H)(gc:GC W0 h vc n O R G)(L:LN)(hL:cX O R n 0 (bH n)=L):
  Ev T 20 [vc] h (λv h'=> ∃vl K ks,v= .tup [vl,aB 0]/\Bi n G L K/\SV h' vl 3 (qT ks)/\cE (KR n G L h') ks K/\Fr h h'):=by
 obtain⟨vO,vR,e,sO,sR⟩:=gc.ch
 subst e
 refine bL sQ rfl rfl ?_
 have oneO:vO.one=true:=PE sO
 have oneR:vR.one=true:=PC sR
 obtain⟨A,hA⟩:=exI h.next
 obtain⟨h1,e1,n1,g1,o1,f1⟩:=iL hA [aB n,vO,vR]
 have bx:=eZ h (v:= aB n) (u:=vO) (w:=vR) rfl oneO oneR
 have rB:=bW g1
 simp(disch:=omega)only[go_sem,sQ,aE,bx,hA,e1,rB]
 refine (WE _ n O R G h1 (gc.mono f1)).mono ?_
 rw[hL]
 rintro _ h2 ⟨p,K,rfl,go,ik,f2⟩
 obtain⟨B,M,N,S,cp,vL,ks,rfl,hB,hM,hN,hS,gB,gM,gN,gS,aK,sp⟩:=go.ex
 have c2:h2.cell B 2=some (.sl S 0 K.length cp):=by rw[H.aF gB];rfl
 have hlk:=cE.length aK
 have hKle:K.length<=5040:=by
  have h1:=ik.perm.length_eq;have h2:=uR (G:=G) (L:=L) L.length;have h3:=nI gc;have h4:=(jN gc.nH gc.isc).2;rw[hL] at h4;omega
 simp(disch:=omega)only[go_sem]
 refine aX (λhc=>(hc rfl).elim) (λ_=>?_)
 simp(disch:=omega)only[go_sem,c2]
 refine cI (λvs hh=> ∃v6,(∃g:Nat->V,vs= [g 0,g 1,g 2,g 3,g 4,g 5,v6,g 7,g 8,g 9,g 10,g 11,g 12])/\SV hh v6 3 (qT ks)/\Fr h2 hh) ?_ ?_
 ·refine aJ (λk' vs hh=> ∃(k:Nat) (v6:V),(∃g:Nat->V,vs= [g 0,g 1,g 2,g 3,.ptr B 0,g 5,v6,g 7,g 8,.sl S 0 K.length cp,aB (K.length:Int),aB k,g 12])/\k<=K.length/\dQ hh v6 3 (qT (ks.take k)) h2.next/\Fr h2 hh/\k'=K.length-k) K.length
   ⟨0,.aC,aA rfl,lB _,dQ.aC _ _ _,Fr.refl _,rfl⟩ ?_
  rintro k' vars h9 ⟨k,v6,⟨g,rfl⟩,hk,ow,F9,rfl⟩
  by_cases hlt:(k:Int)<(K.length:Int)
  case neg=>
   have d4:=iV hlt;obtain rfl:k=K.length:=by omega
   simp(disch:=omega)only[go_sem,d4];rw[List.take_of_length_le (by omega)] at ow;exact⟨v6,aA rfl,ow.sv,F9⟩
  have d4:=mO hlt
  have hk':k<K.length:=by omega
  have hkl:k<ks.length:=by omega
  obtain⟨a,ea⟩:=exI (ks[k])
  have gS9:h9.get S=bY (Cls.pQ ks):=by rw[F9.get _ hS];exact gS
  have rw9:h9.row S (k*4) 4=some a.enc:=by
   have:=En (pre:= []) (by simpa using gS9) hkl;rw[ea] at this;simpa using this
  obtain⟨Y,hY⟩:=exI h9.next
  obtain⟨ha,eha,na,ga,oa,fa⟩:=iL hY [.aC,aB 0,aB 0,.aC]
  obtain⟨hb,ehb,nb,gb,ob⟩:=Fj ha Y a.enc
  obtain⟨Z,hZ⟩:=exI hb.next
  obtain⟨hc',ehc,nc,gc',oc,fc⟩:=iL hZ [a.rep,aB (a.ord:Int),aB (a.size:Int)]
  have F9c:Fr h9 hc':=⟨by omega,λq hq=>by rw[oc q (by omega),ob q (by omega),oa q (by omega)]⟩
  have owc:dQ hc' v6 3 (qT (ks.take k)) h2.next:=ow.fr F9c
  obtain⟨hd,ad,pd⟩:=owc.push (bytes:=40) (y:= .sl Z 0 1 (.kn 1)) (us:= [a.rep,aB (a.ord:Int),aB (a.size:Int)]) (SV.all rfl (by omega) gc' _) (n:=k) (m:=1) (by rw[zA,Ky];omega) rfl (by omega) (by omega) (by omega)
  simp(disch:=omega)only[go_sem,d4,rw9,hY,eha,OZ,ga,GN,ehb,RS gb,EY a.hrep.2.1,hZ,ehc,ad]
  rw[jE k]
  have el:qT (ks.take (k+1))=qT (ks.take k)++ [a.rep,aB (a.ord:Int),aB (a.size:Int)]:=by
   rw[List.take_succ_eq_append_getElem hkl,ea];simp [qT]
  have n9:=F9.next
  have nd:=pd.next
  have F9d:Fr h2 hd:=⟨by omega,λq hq=>by rw[pd.old q (by omega) (λid off n' c e e2=>by have:=(ow.in _ _ _ _ e).2.1;omega),F9c.get q (by omega)];exact F9.get q hq⟩
  exact⟨K.length-(k+1),by omega,k+1,_,aA rfl,by omega,by rw[el];exact pd.own (by rw[zA,Ky];omega) rfl (by omega),F9d,rfl⟩
 rintro vars h9 ⟨v6,⟨g,rfl⟩,sv,F9⟩
 simp(disch:=omega)only[go_sem]
 exact⟨v6,K,ks,rfl,ik,sv,aK.mono λ_ _ k=>k.mono F9,(f1.trans f2).trans F9⟩
set_option maxRecDepth 100000
set_option maxRecDepth 100000
theorem Rl {n:Nat}{a:List Nat}(A:bE n a)(hn:n<=7):kV a n∣420:=by
 unfold kV;rw[Bx];intro c hc;obtain⟨l,hl,rfl⟩:=vT.1 hc;obtain⟨i,hi,rfl⟩:=vT.1 hl;have hin:i<n:=by unfold Kv at hi;exact Hm.1 (KW.1 hi).1
 rw[zI];have h1:=(nT A hin).1;have h2:=Xy A hin;have: ∀k,k<8->0<k->k∣420:=by decide
 exact this _ (by omega) h1
theorem Jt {n:Nat}{G:List Nat->Prop}{L:LN}{K:List Nat}(hG:sW n G)(E:fI G L)(pK:K.Perm (jR G L L.length)){k:Nat}(hk:k<K.length){j:Nat}(hj:j<L.length):iD G L K j=k↔cR G L (K.getD k 0) j:=by
 constructor
 ·intro h
  obtain⟨k2,h1,h2⟩:=Eu hG E pK hj;have h3:=Gr hG E pK h1 h2;obtain rfl:k2=k:=by omega
  exact (mG.1 h2).2
 ·intro h
  exact Gr hG E pK hk (mG.2 ⟨hj,h⟩)
theorem WI {n:Nat}{a:List Nat}(A:bE n a): ∀k,pw n (aT a a) k=pw n a (2*k)
 |0=>rfl
 |k+1=>by
  show aT (pw n (aT a a) k) (aT a a)=pw n a (2*k+2);rw[WI A k,←aV (lY A _) A A];rfl
theorem Oh {n:Nat}{a:List Nat}(A:bE n a):pw n a 1=a:=fA A
theorem Sh {n:Nat}{G:List Nat->Prop}{L:LN}(hG:sW n G)(E:fI G L):0<L.length/\L.getD 0 []=bH n:=by
 have hm:=(E.mem _).2 hG.one;have h0:=List.length_pos_of_mem hm;refine⟨h0,?_⟩;obtain⟨i,hi,ei⟩:=Gg.1 hm;have e0:L.getD 0 []=L[0]:=by rw[List.getD,gW h0];rfl
 by_cases h:i=0
 ·subst h;rw[e0,ei]
 ·have h1:=List.pairwise_iff_getElem.1 E.asc 0 i h0 hi (by omega)
  rw[ei] at h1;have X:=mP hG E h0;rw[e0] at X;rcases one_le X with h2|h2
  ·rw[e0,←h2]
  ·exact (h1.asymm h2).elim
section
variable {n:Nat} {G:List Nat->Prop} {L:LN} (hG:sW n G) (E:fI G L)
include hG E in
end
set_option maxRecDepth 100000
set_option maxRecDepth 100000
structure Plc (l:LN)(x:List Nat)(k:Nat):Prop where
 le:k<=l.length
 lo: ∀i,i<k->rN (l.getD i []) x=true
 hi: ∀i,k<=i->i<l.length->rN (l.getD i []) x=false
theorem KS (vl vx:V)(n:Nat)(l:LN)(x:List Nat)(h:H)(hn:n<1000)(hl:l.length<1000000)(hP: ∀g∈l,bE n g)(X:bE n x)(asc:l.Pairwise Lt)(hv:SP h vl l)(hx:SI h vx (zi x)):
  Ev T 54 [vl,vx] h (λv h'=> ∃k:Nat,v= .tup [aB k,.bool (decide (x∈l))]/\Plc l x k/\(x∈l->k<l.length/\l.getD k []=x)/\Fr h h'):=by
 obtain⟨ws,sv,al⟩:=hv
 have hws:=cE.length al
 rw[rF] at hws
 refine bL yL rfl rfl ?_
 have lv:dY vl=some (aB (l.length:Int)):=by unfold dY;rw[SV.len sv (n:=l.length) (by omega) (by omega)];rfl
 obtain⟨id,off,sh,hid,hc⟩:=SV.shape sv l.length (by omega) (by omega)
 have hlen: ∀i,i<l.length->(l.getD i []).length=n:=λi hi=>(hP _ (bD hi)).len
 have mono: ∀i j,i<j->j<l.length->Lt (l.getD i []) (l.getD j []):=λi j h1 h2=>by
  have ei:l.getD i []=l[i]:=by rw[List.getD,gW (by omega)];rfl
  have ej:l.getD j []=l[j]:=by rw[List.getD,gW h2];rfl
  rw[ei,ej];exact List.pairwise_iff_getElem.1 asc i j (by omega) h2 h1
 have cell: ∀hh,Fr h hh-> ∀i,i<l.length->hh.cell id (off+i)=some (ws.getD i .undef):=λhh f i hi=>by
  rw[f.cell (hid (by omega)),hc i (by omega)];simp [List.getD,show i<ws.length by omega]
 simp(disch:=omega)only[go_sem,yL,aE,lv]
 refine cI (λvs hh=> ∃k,(∃g:Nat->V,vs= [vl,vx,g 2,g 3,aB (k:Nat),g 5,g 6,g 7,g 8])/\Plc l x k/\Fr h hh) ?_ ?_
 ·refine aJ (λk' vars hh=> ∃(i j:Nat),(∃g:Nat->V,vars= [vl,vx,g 2,g 3,aB i,aB j,g 6,g 7,g 8])/\i<=j/\j<=l.length/\(∀q,q<i->rN (l.getD q []) x=true)/\(∀q,j<=q->q<l.length->rN (l.getD q []) x=false)/\Fr h hh/\k'=j-i) l.length
   ⟨0,l.length,aA rfl,by omega,by omega,λm hm=>by omega,λm h1 h2=>by omega,Fr.refl h,rfl⟩ ?_
  rintro k' vars hh ⟨i,j,⟨g,rfl⟩,hij,hj,hlo,hhi,F,rfl⟩
  by_cases hlt:(i:Int)<(j:Int)
  case neg=>
   have e1:=iV hlt;obtain rfl:i=j:=by omega
   simp(disch:=omega)only[go_sem,e1];exact⟨i,aA rfl,⟨hj,hlo,hhi⟩,F⟩
  have e1:=mO hlt
  obtain⟨m,hm⟩:=exI ((i+j)/2)
  have ea:(i:Int)+(j:Int)=((i+j:Nat):Int):=by omega
  have ed:((i+j:Nat):Int).tdiv 2=(m:Int):=by rw[Int.tdiv_eq_ediv_of_nonneg (by omega)];omega
  have cm:=cell hh F m (by omega)
  have sm:=Tn al (i:=m) (by omega)
  generalize ws.getD m .undef=vm at cm sm
  simp(disch:=omega)only[go_sem,e1,ea,ed,sh.ixa,cm]
  refine (VA vm vx n _ x hh (by omega) (hlen m (by omega)) X.len (sm.mono F) (hx.mono F)).mono ?_
  rintro _ h3 ⟨rfl,f3⟩
  cases hl2:rN (l.getD m []) x with
  |true=>
   simp(disch:=omega)only[go_sem];rw[jE m];refine⟨j-(m+1),by omega,m+1,j,aA rfl,by omega,hj,λq hq=>?_,hhi,F.trans f3,rfl⟩
   by_cases e:q=m
   ·rw[e];exact hl2
   ·have h1:=mono q m (by omega) (by omega)
    have h2:=(nC (by rw[hlen m (by omega),X.len])).1 hl2;exact (nC (by rw[hlen q (by omega),X.len])).2 (Lt.trans (by rw[hlen q (by omega),hlen m (by omega)]) h1 h2)
  |false=>
   simp(disch:=omega)only[go_sem];refine⟨m-i,by omega,i,m,aA rfl,by omega,by omega,hlo,λq h1 h2=>?_,F.trans f3,rfl⟩
   by_cases e:q=m
   ·rw[e];exact hl2
   ·rw[←Bool.not_eq_true]
    intro h3;have h4:=mono m q (by omega) h2;have h5:=(nC (by rw[hlen q h2,X.len])).1 h3;rw[(nC (by rw[hlen m (by omega),X.len])).2 (Lt.trans (by rw[hlen q h2,hlen m (by omega)]) h4 h5)] at hl2;cases hl2
 rintro vars h2 ⟨k,⟨g,rfl⟩,pk,F⟩
 have hmem:x∈l->k<l.length/\l.getD k []=x:=λhx2=>by
  obtain⟨q,hq,eq⟩:=Gg.1 hx2;have eq':l.getD q []=x:=by rw[List.getD,gW hq,←eq];rfl
  have h1:k<=q:=Nat.le_of_not_lt λh3=>by
   have:=pk.lo q h3;rw[eq',wI] at this;cases this
  have h2:k=q:=Nat.le_antisymm h1 (Nat.le_of_not_lt λh3=>by
   have h4:=mono k q h3 hq;rw[eq'] at h4;have h5:=pk.hi k (iI _) (by omega);rw[(nC (by rw[hlen k (by omega),X.len])).2 h4] at h5
   cases h5)
  exact⟨by omega,by rw[h2];exact eq'⟩
 by_cases hk:(k:Int)<(l.length:Int)
 ·have e1:=mO hk
  have cm:=cell h2 F k (by omega)
  have sm:=Tn al (i:=k) (by omega)
  generalize ws.getD k .undef=vm at cm sm
  simp(disch:=omega)only[go_sem,lv,e1,sh.ixa,cm]
  refine (wY vm vx _ _ h2 (sm.mono F) (hx.mono F) (by rw[aS,hlen k (by omega)];omega) (by rw[aS,X.len];omega)).mono ?_
  rintro _ h3 ⟨rfl,f3⟩
  have ed:decide (zi (l.getD k [])=zi x)=decide (x∈l):=by
   rw[decide_eq_decide];constructor
   ·intro h4
    have h5:l.getD k []=x:=List.map_inj_right (λu v h2=>by omega)|>.1 h4;rw[←h5];exact bD (by omega)
   ·intro h4;rw[(hmem h4).2]
  simp(disch:=omega)only[go_sem,ed]
  exact⟨k,rfl,pk,hmem,F.trans f3⟩
 ·have e1:=iV hk
  have ed:decide (x∈l)=false:=decide_eq_false λh4=>by have:=(hmem h4).1;omega
  simp(disch:=omega)only[go_sem,lv,e1]
  exact⟨k,by rw[ed],pk,hmem,F⟩
theorem Ql {g:Nat}(hgt:T g=some gJ)(u w:V)(a b:List (List Int))(h:H)(hu:SR h u a)(hw:SR h w b)(la:a.length<1000000)(lb:b.length<1000000)(ra: ∀x∈a,x.length<1000000)(rb: ∀x∈b,x.length<1000000):
  Ev T g [u,w] h (λv h'=>v= .bool (decide (a=b))/\Fr h h'):=by
 refine Ft hgt rfl ?_
 have lu:=hu.lens
 have lw:=hw.lens
 obtain⟨wa,sa,aa⟩:=hu
 obtain⟨wb,sb,ab⟩:=hw
 have hwa:=cE.length aa
 have hwb:=cE.length ab
 obtain⟨id,off,sh,hid,hc⟩:=SV.shape sa a.length (by omega) (by omega)
 obtain⟨id2,off2,sh2,hid2,hc2⟩:=SV.shape sb b.length (by omega) (by omega)
 by_cases hl:(a.length:Int)=(b.length:Int)
 case neg=>
  have d1:decide ((a.length:Int)≠(b.length:Int))=true:=decide_eq_true hl;simp(disch:=omega)only[go_sem,gJ,aE,lu,lw,d1];exact⟨by rw[decide_eq_false];intro e;exact hl (by rw[e]),Fr.refl h⟩
 have hl':a.length=b.length:=by omega
 have d1:decide ((a.length:Int)≠(b.length:Int))=false:=decide_eq_false (by simpa using hl)
 simp(disch:=omega)only[go_sem,gJ,aE,lu,lw,d1]
 refine aJ (λk' vars hh=> ∃(i:Nat),(∃g:Nat->V,vars= [u,w,g 2,aB i,g 4,g 5,g 6])/\i<=a.length/\(∀j,j<i->a.getD j []=b.getD j [])/\Fr h hh/\k'=a.length-i) a.length
  ⟨0,aA rfl,lB _,λj hj=>by omega,Fr.refl h,rfl⟩ ?_
 rintro k' vars hh ⟨i,⟨g,rfl⟩,hi,hs,F,rfl⟩
 by_cases hlt:(i:Int)<(a.length:Int)
 case neg=>
  have e1:=iV hlt;obtain rfl:i=a.length:=by omega
  simp(disch:=omega)only[go_sem,lu,e1]
  have:a=b:=by
   refine List.ext_getElem hl' λj h1 h2=>?_
   have:=hs j h1;rwa [List.getD,gW h1,List.getD,gW h2] at this
  exact⟨by rw[decide_eq_true this],F⟩
 have e1:=mO hlt
 have c1:hh.cell id (off+i)=some (wa.getD i .undef):=by
  rw[F.cell (hid (by omega)),hc i (by omega)];simp [List.getD,show i<wa.length by omega]
 have c2:hh.cell id2 (off2+i)=some (wb.getD i .undef):=by
  rw[F.cell (hid2 (by omega)),hc2 i (by omega)];simp [List.getD,show i<wb.length by omega]
 have s1:=Xh aa (i:=i) (by omega)
 have s2:=Xh ab (i:=i) (by omega)
 generalize wa.getD i .undef=va at c1 s1
 generalize wb.getD i .undef=vb at c2 s2
 have ev1:=s1.eM
 have ev2:=s2.eM
 simp(disch:=omega)only[go_sem,lu,e1,sh.ixa,c1,sh2.ixa,c2]
 refine (wY va vb _ _ _ (s1.mono (F.trans ((Fr.refl hh).bM (by omega)))) (s2.mono (F.trans ((Fr.refl hh).bM (by omega)))) (ra _ (bD (by omega))) (rb _ (bD (by omega)))).mono ?_
 rintro _ h3 ⟨rfl,f3⟩
 have F3:=F.trans (((Fr.refl hh).bM (by omega)).trans f3)
 have c1':h3.cell id (off+i)=some va:=by
  have h4:Fr hh h3:=((Fr.refl hh).bM (by omega)).trans f3;rw[h4.cell (by have:=hid (by omega);have:=F.next;omega)];exact c1
 have c2':h3.cell id2 (off2+i)=some vb:=by
  have h4:Fr hh h3:=((Fr.refl hh).bM (by omega)).trans f3;rw[h4.cell (by have:=hid2 (by omega);have:=F.next;omega)];exact c2
 by_cases he:a.getD i []=b.getD i []
 ·have d2:decide (a.getD i []=b.getD i [])=true:=decide_eq_true he
  simp(disch:=omega)only[go_sem,d2,c1',c2',ev1,ev2]
  rw[jE i]
  refine⟨a.length-(i+1),by omega,i+1,aA rfl,by omega,λj hj=>?_,F3,rfl⟩
  by_cases e:j=i
  ·rw[e];exact he
  ·exact hs j (by omega)
 ·have d2:decide (a.getD i []=b.getD i [])=false:=decide_eq_false he
  simp(disch:=omega)only[go_sem,d2,c1',c2',ev1,ev2]
  exact⟨by rw[decide_eq_false];intro e;exact he (by rw[e]),F3⟩
theorem Qk (u w:V)(a b:List (List Int))(h:H)(hu:SR h u a)(hw:SR h w b)(la:a.length<1000000)(lb:b.length<1000000)(ra: ∀x∈a,x.length<1000000)(rb: ∀x∈b,x.length<1000000):
  Ev T 32 [u,w] h (λv h'=>v= .bool (decide (a=b))/\Fr h h'):=Ql (rfl:T 32=some gJ) u w a b h hu hw la lb ra rb
set_option maxRecDepth 100000
set_option maxRecDepth 100000
set_option maxRecDepth 100000
set_option maxRecDepth 100000
theorem OV {ks:List Cls.KE}{i:Nat}(hi:i<ks.length):(qT ks)[i*3]? =some ks[i].rep/\(qT ks)[i*3+1]? =some (aB (ks[i].ord:Int))/\(qT ks)[i*3+2]? =some (aB (ks[i].size:Int)):=by
 induction ks generalizing i with
 |nil=>simp at hi
 |cons a r ih=>
  have e:qT (a::r)= [a.rep,aB (a.ord:Int),aB (a.size:Int)]++qT r:=rfl
  cases i with
  |zero=>exact⟨rfl,rfl,rfl⟩
  |succ i=>
   have h1:=ih (i:=i) (by simpa using hi);rw[e,show (i+1)*3=i*3+3 by omega];refine⟨?_,?_,?_⟩
   ·rw[List.getElem?_append_right (by simp)];exact h1.1
   ·rw[List.getElem?_append_right (by simp)];exact h1.2.1
   ·rw[List.getElem?_append_right (by simp)];exact h1.2.2
end Go.Proofs.YtapfcpkecmmagaaGreat
namespace Go.Pm
set_option maxRecDepth 100000
section
variable {n:Nat} {t:Cc}
theorem vE.gt (T:vE n t){i p:Nat}{y:List Nat}(h:t i p=some y):i<p:=by
 have Y:=T.dV _ _ _ h;have F:=T.fix _ _ _ h;obtain⟨h1,h2,h3⟩:=T.lt _ _ _ h;have m:=T.maps _ _ _ h;rcases Nat.lt_or_ge p i with h4|h4
 ·exact absurd (Y.inj h1 h2 (m.trans (F p h4).symm)) (by omega)
 ·omega
def eR (t:Cc)(i p:Nat):xO:=(List.range p).filterMap (t i)
def eB (n:Nat)(t:Cc)(i:Nat):xO:=(List.range i).flatMap λi=>eR t i n
theorem XN:eB n t n=iO n t 0:=by
 unfold eB iO eR;simp
theorem Az (T:vE n t):(iO n t 0).Nodup:=by
 have key: ∀i p i' p' y,t i p=some y->t i' p'=some y->i=i'/\p=p':=λi p i' p' y h1 h2=>by
  have g1:=T.gt h1;have g2:=T.gt h2;have f1:=T.fix _ _ _ h1;have f2:=T.fix _ _ _ h2;have m1:=T.maps _ _ _ h1;have m2:=T.maps _ _ _ h2
  have e:i=i':=by
   rcases Nat.lt_trichotomy i i' with h|h|h
   ·have:=f2 i h;omega
   ·exact h
   ·have:=f1 i' h;omega
  subst e;exact⟨rfl,m1.symm.trans m2⟩
 rw[←XN];unfold eB;rw[List.Nodup,List.pairwise_flatMap];refine⟨λi _=>?_,?_⟩
 ·unfold eR
  rw[List.pairwise_filterMap];refine (List.nodup_range (n:=n)).imp ?_;intro p p' hne y hy y' hy' e;subst e;exact hne (key _ _ _ _ _ hy hy').2
 ·refine (List.nodup_range (n:=n)).imp ?_
  intro i i' hne y hy y' hy' e;subst e;obtain⟨p,_,h1⟩:=List.mem_filterMap.1 hy;obtain⟨p',_,h2⟩:=List.mem_filterMap.1 hy';exact hne (key _ _ _ _ _ h1 h2).1
def frF (n:Nat)(t:Cc)(l:xO):xO:=(iO n t 0).filter λy=>decide (y∉l)
def clF (n:Nat)(t:Cc)(x:List Nat)(l:xO):xO:=if (iO n t 0).length<(iO n (tS t n x) 0).length then l++frF n (tS t n x) l else l
structure Px (n:Nat)(L:List Nat->Prop)(t:Cc)(l:xO):Prop where
 tl:Wt n L t
 nd:l.Nodup
 mem: ∀y,y∈l↔y∈iO n t 0
variable {L:List Nat->Prop} {l:xO}
theorem Px.dV (c:Px n L t l): ∀y∈l,bE n y:=λy hy=>c.tl.Hy.KA y ((c.mem y).1 hy)
theorem Px.start (c:Wt n L t):Px n L t (iO n t 0):=⟨c,Az c.Hy,λ_=>Iff.rfl⟩
theorem Si {t':Cc}(s:Sub t t'): ∀y,y∈iO n t 0->y∈iO n t' 0:=λy hy=>by
 obtain⟨i,p,h1,h2,h3,h4⟩:=fS.1 hy;exact fS.2 ⟨i,p,h1,h2,h3,s _ _ _ h4⟩
theorem Px.step (c:Px n L t l)(hL: ∀g,L g->bE n g){x:List Nat}(hx:fC n L x):
  Px n L (tS t n x) (clF n t x l)/\Sub t (tS t n x)/\ins (tS t n x) n 0 x=none/\ ∃m,clF n t x l=l++m:=by
 obtain⟨a1,a2,a3⟩:=c.tl.ins hL hx
 have nd':=Az a1.Hy
 refine⟨?_,a2,a3,?_⟩
 ·cases h:ins t n 0 x with
  |none=>
   have e:tS t n x=t:=by unfold tS;rw[h]
   unfold clF;rw[e,if_neg (Nat.lt_irrefl _)];exact c
  |some q=>
   obtain⟨i,r⟩:=q;have e:tS t n x=put t i (r.getD i 0) r:=by unfold tS;rw[h]
   obtain⟨b1,b2,b3,b4,b5,b6,_⟩:=yQ c.tl.Hy n 0 x i r (by omega) (hx.dV hL) (λk hk=>by omega) h;have hr:r∈iO n (tS t n x) 0:=fS.2 ⟨i,r.getD i 0,Nat.zero_le _,b2,b3.fH b2,by rw[e];unfold put;rw[if_pos ⟨rfl,rfl⟩]⟩
   have hr2:r∉iO n t 0:=λh=>by
    obtain⟨j,q,_,_,_,h4⟩:=fS.1 h;have h5:=a2 _ _ _ h4;have g1:=a1.Hy.gt h5;have f1:=a1.Hy.fix _ _ _ h5;have m1:=a1.Hy.maps _ _ _ h5;have h6:tS t n x i (r.getD i 0)=some r:=by rw[e];unfold put;rw[if_pos ⟨rfl,rfl⟩]
    have g2:=a1.Hy.gt h6
    have eij:i=j:=by
     rcases Nat.lt_trichotomy i j with h|h|h
     ·have:=f1 i h;omega
     ·exact h
     ·have:=b4 j h;omega
    subst eij;rw[←m1] at h4;rw[b6] at h4;cases h4
   have hlt:(iO n t 0).length<(iO n (tS t n x) 0).length:=by
    have:(r::iO n t 0).length<=(iO n (tS t n x) 0).length:=List.Nodup.length_le_of_subset (List.nodup_cons.2 ⟨hr2,Az c.tl.Hy⟩) (λy hy=>by
     rcases List.mem_cons.1 hy with rfl|hy
     ·exact hr
     ·exact Si a2 y hy)
    rw[List.length_cons] at this;omega
   unfold clF;rw[if_pos hlt];refine⟨a1,List.nodup_append.2 ⟨c.nd,nd'.filter _,λy hy z hz e2=>?_⟩,λy=>?_⟩
   ·subst e2
    have:=(List.mem_filter.1 hz).2;simp at this;exact this hy
   ·rw[List.mem_append]
    unfold frF;rw[List.mem_filter];constructor
    ·rintro (h|h)
     ·exact Si a2 y ((c.mem y).1 h)
     ·exact h.1
    ·intro h
     by_cases h2:y∈l
     ·exact .inl h2
     ·exact .inr ⟨h,by simpa using h2⟩
 ·unfold clF
  split
  ·exact⟨_,rfl⟩
  ·exact⟨[],(List.append_nil _).symm⟩
theorem Px.gen (c:Px n L t l): ∀y∈l,fC n L y:=λy hy=>c.tl.gen y ((c.mem y).1 hy)
def Pr (n:Nat)(t:Cc)(l:xO)(a b:Nat):Prop:=ins t n 0 (aT (l.getD a []) (l.getD b []))=none
theorem Pr.mono {t':Cc}{m:xO}{a b:Nat}(h:Pr n t l a b)(s:Sub t t')(ha:a<l.length)(hb:b<l.length):Pr n t' (l++m) a b:=by
 have e: ∀k,k<l.length->(l++m).getD k []=l.getD k []:=λk hk=>by rw[List.getD,List.getD,List.getElem?_append_left hk]
 unfold Pr;rw[e a ha,e b hb];exact Pe s _ _ _ h
end
end Go.Pm
namespace Go.Proofs.YtapfcpkecmmagaaGreat
open Go Go.Ay Go.Pm
set_option maxRecDepth 100000
theorem Jm (h:H)(x:Int):tN h 1 [aB 0] 1 [(0,1,aB x)]=some (.sl h.next 0 1 (.kn 1),h.new (.cells false (ints [x]))):=by
 have e:dS [aB 0] 1= [aB 0]:=rfl;simp [tN,jK,e,putAt,V.cells,V.one,ints]
theorem MT {h:H}{v:V}{sz b:Nat}{ws:List V}(o:dQ h v sz ws b): ∀id off len cap,v= .sl id off len cap->b<=id:=by
 rcases o with ⟨rfl,_⟩|⟨id,n,cap,rest,rfl,_,_,h3,_⟩
 ·intro _ _ _ _ e;cases e
 ·intro _ _ _ _ e;cases e;exact h3
theorem Gy (l:List Nat)(x:Nat):zi (l++ [x])=zi l++ [(x:Int)]:=by simp [zi]
theorem Dj {l:List Nat}{i:Nat}(hi:i<l.length):l.take (i+1)=l.take i++ [l.getD i 0]:=by
 rw[List.take_add_one,gW hi,cK hi];rfl
theorem AX (u w:V)(a b:List Nat)(h:H)(hN:a.length<=1000)(hu:SI h u (zi a))(hw:SI h w (zi b))(hr: ∀i,i<a.length->a.getD i 0<b.length):
  Ev T 24 [u,w] h (λv h'=>SI h' v (zi (aT a b))/\Fr h h'/\ ∀id off len cap,v= .sl id off len cap->h.next<=id):=by
 refine bL Eg rfl rfl ?_
 have lu:=hu.lens
 rw[aS] at lu
 obtain⟨id,off,sh,hid,hc⟩:=hu.open
 rw[aS] at sh hid hc
 obtain⟨id2,off2,sh2,hid2,hc2⟩:=hw.open
 rw[aS] at sh2 hid2 hc2
 simp(disch:=omega)only[go_sem,Eg,aE]
 refine aJ (λk' vars hh=> ∃(i:Nat) (o:V),(∃j:Nat->V,vars= [u,w,j 2,o,aB i,j 5])/\i<=a.length/\dQ hh o 1 (ints (zi ((aT a b).take i))) h.next/\Fr h hh/\k'=a.length-i) a.length
  ⟨0,.aC,aA rfl,lB _,dQ.aC _ _ _,Fr.refl h,rfl⟩ ?_
 rintro k' vars h2 ⟨i,o,⟨jk,rfl⟩,hi,oO,F,rfl⟩
 simp(disch:=omega)only[go_sem,lu]
 by_cases hlt:(i:Int)<(a.length:Int)
 ·rw[decide_eq_true hlt]
  have hi':i<a.length:=by omega
  have ci:h2.cell id (off+i)=some (aB (a.getD i 0:Nat)):=by rw[F.cell (hid (by omega)),hc i hi'];congr 2;simp [zi,hi']
  have r:=hr i hi'
  have hm:=cT (b:=b) hi'
  generalize hk:a.getD i 0=k at ci r hm
  have ck:h2.cell id2 (off2+k)=some (aB (b.getD k 0:Nat)):=by rw[F.cell (hid2 (by omega)),hc2 k r];congr 2;simp [zi,r]
  simp(disch:=omega)only[go_sem,sh.ixa,ci,sh2.ixa,ck,Jm]
  have hf31:Fr h2 (h2.new (.cells false (ints [((b.getD k 0:Nat):Int)]))):=(Fr.refl h2).new _
  have hg31:(h2.new (.cells false (ints [((b.getD k 0:Nat):Int)]))).get h2.next=some (.cells false (ints [((b.getD k 0:Nat):Int)])):=H.aL ..
  have hn31:(h2.new (.cells false (ints [((b.getD k 0:Nat):Int)]))).next=h2.next+1:=H.aU ..
  generalize h2.new (.cells false (ints [((b.getD k 0:Nat):Int)]))=h31 at*
  have sx:SV h31 (.sl h2.next 0 1 (.kn 1)) 1 (ints [((b.getD k 0:Nat):Int)]):=SV.all rfl (by omega) hg31 _
  have nF:=F.next
  have hl:(aT a b).length=a.length:=eY a b
  obtain⟨v2,h32,e32,a32⟩:=(oO.fr hf31).app (bytes:=8) (n:=i) (m:=1) (by omega) sx (by rw[aI,aS,Ky,Nat.mul_one];omega) rfl (by omega) (by omega)
  simp(disch:=omega)only[go_sem,e32]
  have t32:=a32.own
  rw[←lG,←hm,←Gy,←Dj (by omega)] at t32
  rw[jE i]
  exact⟨a.length-(i+1),by omega,i+1,v2,aA rfl,by omega,t32,a32.fr h (F.trans hf31) (iI _),rfl⟩
 rw[decide_eq_false hlt]
 obtain rfl:i=a.length:=by omega
 simp(disch:=omega)only[go_sem]
 rw[List.take_of_length_le (by rw[eY];omega)] at oO
 exact⟨oO.sv,F,MT oO⟩
theorem AR (n:Nat)(h:H)(hN:n<=1000):
  Ev T 51 [aB n] h (λv h'=>SI h' v (zi (bH n))/\Fr h h'/\ ∀id off len cap,v= .sl id off len cap->h.next<=id):=by
 refine bL uZ rfl rfl ?_
 simp(disch:=omega)only[go_sem,uZ,aE]
 refine aJ (λk' vars hh=> ∃(i:Nat) (o:V),(∃j:Nat->V,vars= [aB n,j 1,o,aB i,j 4])/\i<=n/\dQ hh o 1 (ints (zi ((bH n).take i))) h.next/\Fr h hh/\k'=n-i) n
  ⟨0,.aC,aA rfl,lB _,dQ.aC _ _ _,Fr.refl h,rfl⟩ ?_
 rintro k' vars h2 ⟨i,o,⟨jk,rfl⟩,hi,oO,F,rfl⟩
 simp(disch:=omega)only[go_sem]
 by_cases hlt:(i:Int)<(n:Int)
 ·rw[decide_eq_true hlt]
  have hi':i<n:=by omega
  simp(disch:=omega)only[go_sem,Jm]
  have hf31:Fr h2 (h2.new (.cells false (ints [(i:Int)]))):=(Fr.refl h2).new _
  have hg31:(h2.new (.cells false (ints [(i:Int)]))).get h2.next=some (.cells false (ints [(i:Int)])):=H.aL ..
  have hn31:(h2.new (.cells false (ints [(i:Int)]))).next=h2.next+1:=H.aU ..
  generalize h2.new (.cells false (ints [(i:Int)]))=h31 at*
  have sx:SV h31 (.sl h2.next 0 1 (.kn 1)) 1 (ints [(i:Int)]):=SV.all rfl (by omega) hg31 _
  have nF:=F.next
  have hl:=gI n
  obtain⟨v2,h32,e32,a32⟩:=(oO.fr hf31).app (bytes:=8) (n:=i) (m:=1) (by omega) sx (by rw[aI,aS,Ky,Nat.mul_one];omega) rfl (by omega) (by omega)
  simp(disch:=omega)only[go_sem,e32]
  have t32:=a32.own
  have hm:=eS hi'
  have e1:zi ((bH n).take i)++ [(i:Int)]=zi ((bH n).take (i+1)):=by rw[Dj (by omega),Gy,hm]
  rw[←lG,e1] at t32
  rw[jE i]
  exact⟨n-(i+1),by omega,i+1,v2,aA rfl,by omega,t32,a32.fr h (F.trans hf31) (iI _),rfl⟩
 rw[decide_eq_false hlt]
 obtain rfl:i=n:=by omega
 simp(disch:=omega)only[go_sem]
 rw[List.take_of_length_le (by rw[gI];omega)] at oO
 exact⟨oO.sv,F,MT oO⟩
structure EL (b:Nat)(W:Nat->Prop)(h:H)(n:Nat)(tv:V)(ρ:Nat->Nat)(F:Nat->Nat->V)(t:Cc):Prop where
 sv:SV h tv 1 (rc n λi=> .sl (ρ i) 0 n (.kn n))
 off:DW W tv
 row: ∀i,i<n->h.get (ρ i)=some (.cells false (rc n (F i)))
 wb: ∀i,i<n->W (ρ i)
 BZ: ∀id,W id->id<h.next
 low: ∀id,W id->b<=id
 inj: ∀i j,i<n->j<n->ρ i=ρ j->i=j
 ent: ∀i p,i<n->p<n->Slot W h (F i p) (t i p)
section
variable {b:Nat} {W:Nat->Prop} {h h':H} {n:Nat} {tv:V} {ρ:Nat->Nat} {F:Nat->Nat->V} {t:Cc}
theorem EL.open (R:EL b W h n tv ρ F t):dY tv=some (aB n)/\ ∃id off,Sl tv 1 n id off/\ ∀i,i<n->h.cell id (off+i)=some (.sl (ρ i) 0 n (.kn n)):=by
 have s:=R.sv;have hl:(rc n λi=>V.sl (ρ i) 0 n (.kn n)).length=n:=dJ n _;refine⟨by unfold dY;rw[SV.len s (n:=n) (by omega) (by omega)];rfl,?_⟩;obtain⟨id,off,sh,hid,hc⟩:=SV.shape s n (by omega) (by omega);refine⟨id,off,sh,λi hi=>?_⟩;rw[hc i (by omega),uN hi]
theorem EL.cell (R:EL b W h n tv ρ F t){i p:Nat}(hi:i<n)(hp:p<n):h.cell (ρ i) p=some (F i p):=zE (R.row i hi) hp
theorem EL.mono (R:EL b W h n tv ρ F t)(f:Fr h h'):EL b W h' n tv ρ F t:=
 ⟨R.sv.mono f,R.off,λi hi=>by rw[f.get _ (R.BZ _ (R.wb i hi))];exact R.row i hi,R.wb,λid hid=>kL (R.BZ id hid) f.next,R.low,R.inj,λi p hi hp=>(R.ent i p hi hp).fx (Fx.of f)⟩
theorem EL.go (R:EL b W h n tv ρ F t){W':Nat->Prop}(f:Fx W h h')(hr: ∀i,i<n->h'.get (ρ i)=h.get (ρ i))(hw: ∀id,id<h.next->W' id->W id)(hw2: ∀id,W id->W' id)(BZ: ∀id,W' id->id<h'.next)(low: ∀id,W' id->b<=id):EL b W' h' n tv ρ F t:=
 ⟨R.sv.fx R.off f,R.off.sX R.sv hw,λi hi=>by rw[hr i hi];exact R.row i hi,λi hi=>hw2 _ (R.wb i hi),BZ,low,R.inj,λi p hi hp=>(R.ent i p hi hp).go f hw⟩
def WB (n:Nat)(ρ:Nat->Nat)(id:Nat):Prop:= ∃i,i<n/\ρ i=id
def F2 (F:Nat->Nat->V)(i p:Nat)(v:V):Nat->Nat->V:=λj q=>if j=i/\q=p then v else F j q
theorem EL.put (R:EL b W h n tv ρ F t){i p:Nat}(hi:i<n)(hp:p<n){vx:V}{x:List Nat}(hx:PV W h vx x):
  ∃h',fL (h.get (ρ i)) h (ρ i) p [vx]=some h'/\EL b W h' n tv ρ (F2 F i p vx) (Pm.put t i p x)/\Fx (WB n ρ) h h'/\h'.next=h.next:=by
 have pt:=aY (vs:=rc n (F i)) (off:=p) (by rw[dJ];exact hp) h (ρ i) vx
 rw[R.row i hi,pt,iX]
 refine⟨_,rfl,?_,Fx.set h (W:=WB n ρ) ⟨i,hi,rfl⟩ _,rfl⟩
 have f:Fx W h (h.set (ρ i) (some (.cells false (rc n λj=>if j=p then vx else F i j)))):=Fx.set h (R.wb i hi) _
 refine⟨R.sv.fx R.off f,R.off,λj hj=>?_,R.wb,R.BZ,R.low,R.inj,λj q hj hq=>?_⟩
 ·by_cases e:j=i
  ·subst e
   rw[H.aQ]
   congr 2
   refine bI λq _=>?_
   unfold F2
   by_cases e2:q=p
   ·rw[if_pos e2,if_pos ⟨rfl,e2⟩]
   ·rw[if_neg e2,if_neg (λh=>e2 h.2)]
  ·rw[H.aH h (λe2=>e (R.inj _ _ hj hi e2)),R.row j hj]
   congr 2
   refine bI λq _=>?_
   unfold F2
   rw[if_neg (λh=>e h.1)]
 ·unfold F2 Pm.put
  by_cases e:j=i/\q=p
  ·rw[if_pos e,if_pos e]
   exact PV.fx hx f
  ·rw[if_neg e,if_neg e]
   exact (R.ent j q hj hq).fx f
theorem PV.fresh {v:V}{l:List Nat}(s:SI h' v (zi l))(hf: ∀id off len cap,v= .sl id off len cap->h.next<=id)(hw: ∀id,W id->id<h.next):PV W h' v l:=by
 refine⟨s,?_⟩
 cases v with
 |sl id off len cap=>exact λhx=>by have:=hf _ _ _ _ rfl;have:=hw id hx;omega
 |_=>trivial
theorem Slot.nil {v:V}(s:Slot W h v none):v= .aC:=s
end
theorem tB.frb {h0 h h':H}{x:V}{n m sz:Nat}{ws us:List V}(p:tB h x n m sz ws us h')(f:Fr h0 h){sz':Nat}{ws':List V}(o:dQ h x sz' ws' h0.next):Fr h0 h':=by
 have fn:=f.next;refine⟨by rw[p.next];omega,λid hid=>?_⟩;rw[p.old id (by omega) (λid' off n c e e2=>by have:=(o.in _ _ _ _ e).2.1;omega)];exact f.get id hid
theorem PN {h0 h:H}{vl v:V}{ws:List V}(o:dQ h vl 1 ws h0.next)(f:Fr h0 h)(hl:ws.length<1000000){bytes:Nat}(hb:bytes<=24):
  ∃h2,xJ (h.new (.cells false [v])) 1 bytes vl (.sl h.next 0 1 (.kn 1))=some (.sl (h.next+1) 0 (ws.length+1) (.un 1),h2)/\dQ h2 (.sl (h.next+1) 0 (ws.length+1) (.un 1)) 1 (ws++ [v]) h0.next/\Fr h0 h2/\h2.next=h.next+2/\ ∀id,id<h.next->dI vl id->h2.get id=h.get id:=by
 obtain⟨h1,e1,n1,g1,o1,f1⟩:=iL (h:=h) rfl [v]
 rw[e1]
 have o2:=o.fr f1
 obtain⟨h2,a2,p2⟩:=o2.push (bytes:=bytes) (SV.one (by omega) g1 (.kn 1)) (n:=ws.length) (m:=1) (by omega) rfl (by omega) (by omega) ⟨by
  have:(2*(ws.length+1)+1000)*bytes<=(2*(ws.length+1)+1000)*24:=Nat.mul_le_mul_left _ hb
  omega,by omega⟩
 rw[n1] at a2
 have fn:=f.next
 have ow:=p2.own (by omega) rfl (b:=h0.next) (by omega)
 rw[n1] at ow
 have nx:=p2.next
 exact⟨h2,a2,ow,tB.frb p2 (f.trans f1) o2,by omega,λid h1 h2=>by rw[p2.old id (by omega) h2,o1 id (by omega)]⟩
theorem jH.open {W:Nat->Prop}{h:H}{v:V}{ws:List V}{l:LN}(sv:SV h v 1 ws)(p:jH W h ws l):dY v=some (aB (l.length:Int))/\ ∃id off,Sl v 1 l.length id off/\ ∀i,i<l.length->id<h.next/\h.cell id (off+i)=some (ws.getD i .undef)/\PV W h (ws.getD i .undef) (l.getD i []):=by
 have hl:=cE.length p;refine⟨by unfold dY;rw[SV.len sv (n:=l.length) (by omega) (by omega)];rfl,?_⟩;obtain⟨id,off,sh,hid,hc⟩:=SV.shape sv l.length (by omega) (by omega);refine⟨id,off,sh,λi hi=>⟨hid (by omega),?_,?_⟩⟩
 ·rw[hc i (by omega)];simp [List.getD,show i<ws.length by omega]
 ·obtain⟨w,h1,h2⟩:=jH.at p hi
  rw[List.getD,h1];exact h2
theorem LD {α:Type}{l:List α}{x d:α}{k:Nat}:x∈l.take k↔ ∃q,q<k/\q<l.length/\l.getD q d=x:=by
 constructor
 ·intro h
  obtain⟨q,hq,e⟩:=Gg.1 h;rw[Ky] at hq;refine⟨q,by omega,by omega,?_⟩;rw[List.getElem_take] at e;rw[List.getD,gW (by omega),←e];rfl
 ·rintro⟨q,h1,h2,e⟩
  rw[List.getD,gW h2] at e;refine Gg.2 ⟨q,by rw[Ky];omega,?_⟩;rw[List.getElem_take];exact e
set_option maxRecDepth 100000
set_option maxRecDepth 100000
set_option maxRecDepth 100000
theorem IS (h:H)(n:Nat)(hn:n<=100000):Du h 1 24 [.aC] (aB n) (aB n)=some (.sl h.next 0 n (.kn n),h.new (.cells false (rc n λ_=> .aC))):=by
 have e:dS [V.aC] n=rc n λ_=> .aC:=(Is (by simp [dS]) λi hi=>by simp [dS,hi,Nat.mod_one]).symm
 rw[rK (by omega) (Int.le_refl _) (by omega) (by omega),Int.toNat_natCast,Nat.mul_one,e]
section
variable {h:H} {v:V} {n:Nat} {l:List Nat}
theorem mF (x:Nat)(l:List Int)(n:Int)(h:H)(ht:Tk h x l)(hl:l.length<9223372036854775808)(hn:1<=n)(hn2:n<1000000000):
  Ev T 50 [.ptr x 0,aB n] h (λv h'=> ∃z,v= aB z/\0<=z/\z<n/\Tk h' x l/\sZ x h h'):=by
 obtain⟨vl,a,hg,hs,hne,ha,hx⟩:=ht
 refine bL oX rfl rfl ?_
 have g0:h.cell x 0=some vl:=by rw[H.aF hg];rfl
 have g1:h.cell x 1=some (aB a):=by rw[H.aF hg];rfl
 have ev:eM vl vl=true:=SV.eM hs
 obtain⟨id,off,hsl,hid,hc⟩:=hs.open
 simp (disch:=first|omega|(simp only[Qn];(try omega);done)|fail) only[go_sem,oX,aE,g0,g1,hs.lens,ev]
 by_cases hal:(l.length:Int)<=(a:Int)
 ·rw[decide_eq_true hal]
  simp (disch:=first|omega|(simp only[Qn];(try omega);done)|fail) only[go_sem]
  exact⟨0,rfl,by omega,by omega,⟨vl,a,hg,hs.mono ((Fr.refl h).bM (by omega)),hne,ha,by show x<h.next+14;omega⟩,sZ.of ((Fr.refl h).bM (by omega))⟩
 ·rw[decide_eq_false hal]
  simp (disch:=first|omega|(simp only[Qn];(try omega);done)|fail) only[go_sem]
  rw[decide_eq_false (show ¬n<1 by omega)]
  simp (disch:=first|omega|(simp only[Qn];(try omega);done)|fail) only[go_sem,g1,hg]
  have hne2:id≠x:=by
   intro e;have:=hsl.ixa .i64 0 (by omega) (by omega);rcases hs with ⟨_,h0⟩|⟨id',o',len',cap',_,_,rfl,_⟩
   ·have:(ints l).length=0:=by rw[h0];rfl
    rw[aI] at this;omega
   ·have hll:len'=l.length:=Option.some.inj hsl.len
    rw[wE (by omega) (by omega)] at this;simp only[Option.some.injEq,V.ptr.injEq] at this;have:=hne _ _ _ _ rfl;omega
  have c0:h.cell id (off+a)=some (aB (l.getD a 0)):=hc a (by omega)
  have ea:((a:Int)+1- 1).toNat=a:=by omega
  simp (disch:=first|omega|(simp only[Qn];(try omega);done)|fail) only[go_sem,g0,g1,hg,hsl.ixa,c0,ev,ea]
  have hgg: ∀m,(H.mk ((H.mk h.tr (h.next+14)).set x (some (.cells false [vl,aB ((a:Int)+1)]))).tr m).get x=some (.cells false [vl,aB ((a:Int)+1)]):=λm=>H.aQ ..
  have hfx:sZ x h (H.mk ((H.mk h.tr (h.next+14)).set x (some (.cells false [vl,aB ((a:Int)+1)]))).tr (h.next+14+14)):=⟨by show h.next<=h.next+14+14;omega,λid hid hne=>H.aH _ hne _⟩
  have hnn:(H.mk ((H.mk h.tr (h.next+14)).set x (some (.cells false [vl,aB ((a:Int)+1)]))).tr (h.next+14+14)).next=h.next+14+14:=rfl
  have hgx:=hgg (h.next+14+14)
  generalize H.mk ((H.mk h.tr (h.next+14)).set x (some (.cells false [vl,aB ((a:Int)+1)]))).tr (h.next+14+14)=h2 at*
  refine (RG (l.getD a 0) n h2 (by omega) hn2).mono ?_
  rintro v h3 ⟨rfl,rfl⟩
  have k0:h3.cell x 0=some vl:=by rw[H.aF hgx];rfl
  have k1:h3.cell x 1=some (aB ((a:Int)+1)):=by rw[H.aF hgx];rfl
  simp (disch:=first|omega|(simp only[Qn];(try omega);done)|fail) only[go_sem,k0,k1,ev]
  have hr:=Vy (l.getD a 0) (show 0<n by omega)
  refine⟨_,rfl,hr.1,hr.2,⟨vl,a+1,?_,?_,hne,by omega,by omega⟩,hfx⟩
  ·rw[hgx];simp
  ·rcases hs with h0|⟨id',o',len',cap',ro,vs,rfl,q2,q3,q4,q5,q6⟩
   ·exact .inl h0
   ·exact .inr ⟨id',o',len',cap',ro,vs,rfl,q2,by omega,(hfx.get id' q3 (λe=>by have:=hne _ _ _ _ rfl;omega)).trans q4,q5,q6⟩
theorem Hw (n:Nat)(h:H)(hN:n<=1000):
  Ev T 51 [aB n] h (λv h'=>dQ h' v 1 (ints (zi (bH n))) h.next/\Fr h h'):=by
 refine bL uZ rfl rfl ?_
 simp (disch:=first|omega|(simp only[Qn];(try omega);done)|fail) only[go_sem,uZ,aE]
 refine aJ (λk' vars hh=> ∃(i:Nat) (o:V),(∃j:Nat->V,vars= [aB n,j 1,o,aB i,j 4])/\i<=n/\dQ hh o 1 (ints (zi ((bH n).take i))) h.next/\Fr h hh/\k'=n-i) n
  ⟨0,.aC,aA rfl,lB _,dQ.aC _ _ _,Fr.refl h,rfl⟩ ?_
 rintro k' vars h2 ⟨i,o,⟨jk,rfl⟩,hi,oO,F,rfl⟩
 simp (disch:=first|omega|(simp only[Qn];(try omega);done)|fail) only[go_sem]
 by_cases hlt:(i:Int)<(n:Int)
 ·rw[decide_eq_true hlt]
  have hi':i<n:=by omega
  simp (disch:=first|omega|(simp only[Qn];(try omega);done)|fail) only[go_sem,Jm]
  have hf31:Fr h2 (h2.new (.cells false (ints [(i:Int)]))):=(Fr.refl h2).new _
  have hg31:(h2.new (.cells false (ints [(i:Int)]))).get h2.next=some (.cells false (ints [(i:Int)])):=H.aL ..
  have hn31:(h2.new (.cells false (ints [(i:Int)]))).next=h2.next+1:=H.aU ..
  generalize h2.new (.cells false (ints [(i:Int)]))=h31 at*
  have sx:SV h31 (.sl h2.next 0 1 (.kn 1)) 1 (ints [(i:Int)]):=SV.all rfl (by omega) hg31 _
  have nF:=F.next
  have hl:=gI n
  obtain⟨v2,h32,e32,a32⟩:=(oO.fr hf31).app (bytes:=8) (n:=i) (m:=1) (by omega) sx (by rw[aI,aS,Ky,Nat.mul_one];omega) rfl (by omega) (by omega)
  simp (disch:=first|omega|(simp only[Qn];(try omega);done)|fail) only[go_sem,e32]
  have t32:=a32.own
  have hm:=eS hi'
  have e1:zi ((bH n).take i)++ [(i:Int)]=zi ((bH n).take (i+1)):=by rw[Dj (by omega),Gy,hm]
  rw[←lG,e1] at t32
  rw[jE i]
  exact⟨n-(i+1),by omega,i+1,v2,aA rfl,by omega,t32,a32.fr h (F.trans hf31) (iI _),rfl⟩
 rw[decide_eq_false hlt]
 obtain rfl:i=n:=by omega
 simp (disch:=first|omega|(simp only[Qn];(try omega);done)|fail) only[go_sem]
 rw[List.take_of_length_le (by rw[gI];omega)] at oO
 exact⟨oO,F⟩
structure Mp (h:H)(v:V)(n id:Nat)(l:List Nat):Prop where
 ex: ∃cap rest,v= .sl id 0 n cap/\id<h.next/\h.get id=some (.cells false (ints (zi l)++rest))
 dV:bE n l
theorem Mp.of {b:Nat}(h0:0<n)(X:bE n l)(o:dQ h v 1 (ints (zi l)) b): ∃id,Mp h v n id l/\b<=id:=by
 rcases o with ⟨_,e⟩|⟨id,m,cap,rest,rfl,e2,e3,e4,e5,e6⟩
 ·have:=congrArg List.length e
  rw[aI,aS,List.length_nil,X.len] at this;omega
 ·rw[aI,aS,Nat.mul_one,X.len] at e2
  subst e2;exact⟨id,⟨⟨cap,rest,rfl,e5,e6⟩,X⟩,e4⟩
theorem Mp.si {id:Nat}(m:Mp h v n id l):SI h v (zi l):=by
 obtain⟨⟨cap,rest,rfl,h1,h2⟩,X⟩:=m;refine .inr ⟨id,0,n,cap,false,_,rfl,by rw[aI,aS,X.len,Nat.mul_one],h1,h2,by rw[oH,aI,aS,X.len];omega,?_⟩;rw[List.drop_zero,Nat.mul_one,List.take_left' (by rw[aI,aS,X.len])]
theorem Mp.mono {h':H}{id:Nat}(m:Mp h v n id l)(hn:h.next<=h'.next)(hg:h'.get id=h.get id):Mp h' v n id l:=by
 obtain⟨⟨cap,rest,h1,h2,h3⟩,X⟩:=m;exact⟨⟨cap,rest,h1,by omega,by rw[hg];exact h3⟩,X⟩
theorem Uo {rest:List V}{i:Nat}(hi:i<l.length)(x:Nat):(ints (zi l)++rest).set i (aB x)=ints (zi (l.set i x))++rest:=by
 rw[List.set_append_left _ _ (by rw[aI,aS];exact hi)];congr 1;simp [ints,zi,List.map_set]
def SC (n a b:Nat):List Nat:=(List.range n).map λj=>if j=b- 1 then a else if a<=j/\j<b then j+1 else j
theorem Hg {f:Nat->Nat}{j:Nat}(hj:j<n):((List.range n).map f).getD j 0=f j:=by simp [List.getD,hj]
theorem KZ {a b:Nat}(h1:a<b)(h2:b<=n):bE n (SC n a b):=by
 unfold SC;refine bE.Oa (by simp) (λi hi=>?_) (λi j hi hj h=>?_)
 ·rw[Hg hi]
  split
  ·omega
  ·split<;>omega
 ·rw[Hg hi,Hg hj] at h
  split at h<;>split at h<;>(try split at h)<;>(try split at h)<;>omega
theorem MU (f:Nat->Nat):(rc n λj=>aB (f j:Nat))=ints (zi ((List.range n).map f)):=by
 have e:=Rb ((List.range n).map f);rw[rF,List.length_range] at e;rw[←e];exact bI λj hj=>by rw[Hg hj]
theorem Ts (h:H)(v:V)(n id a b:Nat)(hn:n<=64)(m:Mp h v n id (bH n))(h1:a<b)(h2:b<=n):
  Ev T 53 [v,aB a,aB b] h (λw h'=>w=v/\Mp h' v n id (SC n a b)/\sZ id h h'):=by
 refine bL yB rfl rfl ?_
 obtain⟨⟨cap,rest,rfl,hid,hg⟩,_⟩:=m
 have e0:ints (zi (bH n))=rc n λj=> aB (((if a<=j/\j<a then j+1 else j:Nat)):Int):=by
  rw[MU];congr 2;refine (rZ (by simp [bH]) λi hi=>?_).symm;rw[rF,List.length_range] at hi;rw[Hg hi,eS hi,if_neg (by omega)]
 rw[e0] at hg
 simp (disch:=first|omega|(simp only[Qn];(try omega);done)|fail) only[go_sem,yB,aE]
 refine cI (λvs hh=>(∃g:Nat->V,vs= [.sl id 0 n cap,aB a,aB b,g 3,g 4,g 5])/\hh.get id=some (.cells false ((rc n λj=> aB (((if a<=j/\j<b then j+1 else j:Nat)):Int))++rest))/\sZ id h hh) ?_ ?_
 ·refine aJ (λk' vars hh=> ∃(i:Nat),(∃g:Nat->V,vars= [.sl id 0 n cap,aB a,aB b,g 3,aB i,g 5])/\a<=i/\i<=b/\hh.get id=some (.cells false ((rc n λj=> aB (((if a<=j/\j<i then j+1 else j:Nat)):Int))++rest))/\sZ id h hh/\k'=b-i) (b-a)
   ⟨a,aA rfl,iI _,by omega,hg,sZ.refl _ _,rfl⟩ ?_
  rintro k' vars h3 ⟨i,⟨g,rfl⟩,hi1,hi2,g3,f3,rfl⟩
  by_cases hlt:(i:Int)<(b:Int)
  case neg=>
   have e1:=iV hlt;obtain rfl:i=b:=by omega
   simp (disch:=first|omega|(simp only[Qn];(try omega);done)|fail) only[go_sem,e1];exact⟨aA rfl,g3,f3⟩
  have e1:=mO hlt
  have hin:i<n:=by omega
  have e3:decide ((i:Int)<0)=false:=iV (by omega)
  have e4:decide ((n:Int)<=(i:Int))=false:=iV (by omega)
  have pt:=aY (vs:=(rc n λj=> aB (((if a<=j/\j<i then j+1 else j:Nat)):Int))++rest) (off:=i) (by rw[oH,dJ];omega) h3 id (aB ((i:Int)+1))
  rw[List.set_append_left _ _ (by rw[dJ];exact hin),iX] at pt
  simp (disch:=first|omega|(simp only[Qn];(try omega);done)|fail) only[go_sem,e1,e3,e4,g3,pt]
  rw[jE i]
  refine⟨b-(i+1),by omega,i+1,aA rfl,by omega,by omega,?_,f3.set _,rfl⟩
  congr 3
  refine bI λj hj=>?_
  by_cases e:j=i
  ·rw[if_pos e,if_pos ⟨by omega,by omega⟩,e]
  ·rw[if_neg e]
   by_cases e5:a<=j/\j<i
   ·rw[if_pos e5,if_pos ⟨e5.1,by omega⟩]
   ·rw[if_neg e5,if_neg (by omega)]
 rintro vars h3 ⟨⟨g,rfl⟩,g3,f3⟩
 have eb:(b:Int)- 1=((b- 1:Nat):Int):=by omega
 have e3:decide (((b- 1:Nat):Int)<0)=false:=iV (by omega)
 have e4:decide ((n:Int)<=((b- 1:Nat):Int))=false:=iV (by omega)
 have pt:=aY (vs:=(rc n λj=> aB (((if a<=j/\j<b then j+1 else j:Nat)):Int))++rest) (off:=b- 1) (by rw[oH,dJ];omega) h3 id (aB a)
 rw[List.set_append_left _ _ (by rw[dJ];omega),iX] at pt
 simp (disch:=first|omega|(simp only[Qn];(try omega);done)|fail) only[go_sem,eb,e3,e4,g3,pt]
 refine⟨⟨⟨cap,rest,rfl,kL hid f3.next,?_⟩,KZ h1 h2⟩,f3.set _⟩
 rw[H.aQ]
 congr 3
 unfold SC
 rw[←MU]
 refine bI λj hj=>?_
 by_cases e:j=b- 1
 ·rw[if_pos e,if_pos e]
 ·rw[if_neg e,if_neg e]
def BL (l:List Nat)(i k:Nat):List Nat:=(l.set i (l.getD k 0)).set k (l.getD i 0)
theorem GR (X:bE n l){i k:Nat}(hi:i<n)(hk:k<n):bE n (BL l i k):=by
 have hl:=X.len
 have at': ∀j,j<n->(BL l i k).getD j 0=if j=k then l.getD i 0 else if j=i then l.getD k 0 else l.getD j 0:=λj hj=>by
  unfold BL;rw[cK (by simp;omega),List.getElem_set]
  by_cases e:k=j
  ·rw[if_pos e,if_pos e.symm]
  ·rw[if_neg e,if_neg (Ne.symm e),List.getElem_set]
   by_cases e2:i=j
   ·rw[if_pos e2,if_pos e2.symm]
   ·rw[if_neg e2,if_neg (Ne.symm e2)];exact (cK (by omega)).symm
 refine bE.Oa (by unfold BL;simp [hl]) (λj hj=>?_) (λa c ha hc h=>?_)
 ·rw[at' j hj]
  split
  ·exact X.fH hi
  ·split
   ·exact X.fH hk
   ·exact X.fH hj
 ·rw[at' a ha,at' c hc] at h
  split at h<;>split at h<;>(try split at h)<;>(try split at h)
  all_goals first
   |omega
   |(have:=X.inj hi hi h;omega)
   |(have:=X.inj hi hk h;omega)
   |(have:=X.inj hk hi h;omega)
   |(have:=X.inj hi hc h;omega)
   |(have:=X.inj ha hi h;omega)
   |(have:=X.inj hk hk h;omega)
   |(have:=X.inj hk hc h;omega)
   |(have:=X.inj ha hk h;omega)
   |(have:=X.inj ha hc h;omega)
theorem JJ (x:Nat)(l:List Int)(n:Nat)(h:H)(hn:n<=64)(n0:0<n)(ht:Tk h x l)(hl:l.length<9223372036854775808):
  Ev T 52 [.ptr x 0,aB n] h (λv h'=> ∃id q,Mp h' v n id q/\h.next<=id/\Tk h' x l/\sZ x h h'):=by
 refine bL Bd rfl rfl ?_
 simp (disch:=first|omega|(simp only[Qn];(try omega);done)|fail) only[go_sem,Bd,aE]
 refine (Hw n h (by omega)).mono ?_
 rintro v h1 ⟨o1,f1⟩
 obtain⟨id,m1,hid⟩:=Mp.of n0 (bE.one n) o1
 have m1':=m1
 obtain⟨⟨cap,rest0,rfl,_,_⟩,_⟩:=m1'
 have hxn:x<h.next:=by obtain⟨_,_,_,_,_,_,hx⟩:=ht;exact hx
 have hne:id≠x:=by omega
 simp (disch:=first|omega|(simp only[Qn];(try omega);done)|fail) only[go_sem]
 refine aJ (λk' vars hh=> ∃(i:Nat) (q:List Nat),(∃g:Nat->V,vars= [.ptr x 0,aB n,g 2,.sl id 0 n cap,aB i,g 5,g 6])/\i<n/\Mp hh (.sl id 0 n cap) n id q/\Tk hh x l/\sZ x h hh/\k'=n-i) n
  ⟨0,bH n,aA rfl,n0,m1,ht.mono f1,sZ.of f1,rfl⟩ ?_
 rintro k' vars h2 ⟨i,q,⟨g,rfl⟩,hi,m2,t2,f2,rfl⟩
 by_cases hlt:(i:Int)+1<(n:Int)
 case neg=>
  have e1:=iV hlt;simp (disch:=first|omega|(simp only[Qn];(try omega);done)|fail) only[go_sem,e1];exact⟨id,q,m2,hid,t2,f2⟩
 have e1:=mO hlt
 simp (disch:=first|omega|(simp only[Qn];(try omega);done)|fail) only[go_sem,e1]
 refine (mF x l ((n:Int)-(i:Int)) h2 t2 hl (by omega) (by omega)).mono ?_
 rintro _ h3 ⟨z,rfl,hz0,hz1,t3,f3⟩
 obtain⟨c,rfl⟩: ∃c:Nat,z=(c:Int):=⟨z.toNat,by omega⟩
 obtain⟨k,hk⟩: ∃k,k=i+c:=⟨_,rfl⟩
 have ek:(i:Int)+(c:Int)=(k:Int):=by omega
 have hkn:k<n:=by omega
 have m3:=m2.mono f3.next (f3.get id (by obtain⟨⟨_,_,_,h5,_⟩,_⟩:=m2;exact h5) hne)
 obtain⟨⟨cap',rest,e,hid3,g3⟩,Q⟩:=m3
 cases e
 have ql:=Q.len
 have cell: ∀hh:H,∀l':List Nat,l'.length=n->hh.get id=some (.cells false (ints (zi l')++rest))-> ∀j,j<n->hh.cell id j=some (aB (l'.getD j 0:Nat)):=λhh l' hl' hg j hj=>by
  rw[H.aF hg,Io (by rw[aI,aS];omega),Ap (by omega)]
 have ci:=cell h3 q ql g3 i hi
 have ck:=cell h3 q ql g3 k hkn
 have a1:decide ((i:Int)<0)=false:=iV (by omega)
 have a2:decide ((n:Int)<=(i:Int))=false:=iV (by omega)
 have a3:decide ((k:Int)<0)=false:=iV (by omega)
 have a4:decide ((n:Int)<=(k:Int))=false:=iV (by omega)
 have pt: ∀(hh:H) (l':List Nat) (j y:Nat),l'.length=n->j<n->fL (some (.cells false (ints (zi l')++rest))) hh id j [aB y]=some (hh.set id (some (.cells false (ints (zi (l'.set j y))++rest)))):=λhh l' j y hl' hj=>by
  rw[aY (by rw[oH,aI,aS];omega),Uo (by omega)]
 simp (disch:=first|omega|(simp only[Qn];(try omega);done)|fail) only[go_sem,ek]
 simp (disch:=first|omega|(simp only[Qn];(try omega);done)|fail) only[go_sem,a1,a2,a3,a4,ci,ck,g3,pt _ q i (q.getD k 0) ql hi,pt _ (q.set i (q.getD k 0)) k (q.getD i 0) (by simp [ql]) hkn]
 rw[jE i]
 obtain⟨h4,h4e⟩: ∃h4:H,h4=((H.mk h3.tr (h3.next+16)).set id (some (.cells false (ints (zi (q.set i (q.getD k 0)))++rest)))).set id (some (.cells false (ints (zi ((q.set i (q.getD k 0)).set k (q.getD i 0)))++rest))):=⟨_,rfl⟩
 rw[←h4e]
 have n4:h4.next=h3.next+16:=by rw[h4e];rfl
 have o4: ∀j,j≠id->h4.get j=h3.get j:=λj hj=>by rw[h4e,H.aH _ hj,H.aH _ hj];rfl
 have g4:h4.get id=some (.cells false (ints (zi (BL q i k))++rest)):=by rw[h4e,H.aQ];rfl
 refine⟨n-(i+1),by omega,i+1,BL q i k,aA rfl,by omega,⟨⟨cap,rest,rfl,by omega,g4⟩,GR Q hi hkn⟩,t3.low (by omega) (λj hj=>o4 j (by omega)),?_,rfl⟩
 have f23:=f2.trans f3
 have:=f23.next
 exact⟨by omega,λj hj hjx=>by rw[o4 j (by omega)];exact f23.get j hj hjx⟩
end
theorem Uq (h:H){v u:V}(hv1:v.one=true)(hu1:u.one=true):Fz h (.agg [v,u])=some (.ptr h.next 0,h.new (.cells false [v,u])):=uX h _ (by simp [hv1,hu1])
theorem KC {x y:V}(h:H)(id:Nat)(u:V):fL (bY [x,y]) h id 1 [u]=some (h.set id (bY [x,u])):=by
 simp [fL,putAt]
theorem Pv {v z w:V}(hc:v.cells= [v])(ho:v.one=true):uC [z,w] [(0,1,v)]=some (.agg [v,w]):=by
 have e1:putAt [z,w] 0 [v]=some [v,w]:=by simp [putAt]
 simp [uC,jK,e1,hc,ho]
theorem sZ.cell {x:Nat}{a c:H}(f:sZ x a c){id off:Nat}(h1:id<a.next)(h2:id≠x):c.cell id off=a.cell id off:=by unfold H.cell;rw[f.get id h1 h2]
structure GJ (h hh:H)(T0 C D n:Nat)(l:List Int)(gens:LN):Prop where
 ex: ∃vg ws,hh.get C=bY [aB n,vg]/\dQ hh vg 1 ws (C+1)/\jH (λid=>id<=C∨ ∃off m c,vg= .sl id off m c) hh ws gens
 tk:Tk hh T0 l
 gD:hh.get D=bY [aB 0,.aC]
 dV: ∀g∈gens,bE n g
 nx:C<hh.next
 fr:Fr h hh
theorem Vg (vl:V)(l:List Int)(most:Nat)(h:H)(hv:SI h vl l)(hl:l.length<9223372036854775808)(m1:1<=most)(m2:most<=60):
  Ev T 17 [vl,aB most] h (λv h'=> ∃(n:Nat) (vg:V) (gens:LN),v= .agg [aB n,vg]/\1<=n/\n<=most/\gens.length<=3/\(∀g∈gens,bE n g)/\SP h' vg gens/\Fr h h'):=by
 refine bL tW rfl rfl ?_
 obtain⟨D,hD⟩:=exI h.next
 obtain⟨h1,e1,n1,g1,o1,f1⟩:=iL hD [aB 0,.aC]
 obtain⟨h2,e2,n2,g2,o2,f2⟩:=iL n1 [vl,aB 0]
 have wl:=SV.dU hv
 simp(disch:=omega)only[go_sem,tW,aE,hD,e1,Pv wl.1 wl.2.1,Uq h1 (v:=vl) (u:= aB 0) wl.2.1 rfl,n1,e2]
 have tk2:Tk h2 (D+1) l:=⟨vl,0,g2,hv.mono (f1.trans f2),λid off len c e=>by have:=SV.in hv _ _ _ _ e;omega,lB _,by omega⟩
 refine (mF (D+1) l most h2 tk2 hl (by omega) (by omega)).mono ?_
 rintro _ h3 ⟨z,rfl,hz0,hz1,tk3,f3⟩
 obtain⟨n,hn⟩: ∃n:Nat,1+z=(n:Int):=⟨(1+z).toNat,by omega⟩
 have n3:=f3.next
 obtain⟨C,hC⟩:=exI h3.next
 obtain⟨h4,e4,n4,g4,o4,f4⟩:=iL hC [aB 0,.aC]
 obtain⟨h5,e5,n5,g5,o5⟩:=Fj h4 C [aB n,.aC]
 simp(disch:=omega)only[go_sem,hn,hC,e4,Pv (v:= aB n) (z:= aB 0) (w:= .aC) rfl rfl,Cx h4 C 0 (v:= aB n) (u:= .aC) rfl rfl,g4,yH,e5]
 have tk5:Tk h5 (D+1) l:=tk3.low (by omega) (λid hid=>by rw[o5 id (by omega),o4 id (by omega)])
 refine (mF (D+1) l 4 h5 tk5 hl (by omega) (by omega)).mono ?_
 rintro _ h6 ⟨z2,rfl,hk0,hk1,tk6,f6⟩
 obtain⟨K,rfl⟩: ∃K:Nat,z2=(K:Int):=⟨z2.toNat,by omega⟩
 have n6:=f6.next
 simp(disch:=omega)only[go_sem]
 refine aJ (λk' vars hh=> ∃(k:Nat) (gens:LN),(∃g:Nat->V,vars= [vl,aB most,.ptr D 0,.ptr (D+1) 0,.ptr C 0,aB k,g 6,g 7,g 8,g 9,g 10])/\gens.length+k<=3/\GJ h hh (D+1) C D n l gens/\k'=k) K
  ⟨K, [],aA rfl,by simp;omega,⟨⟨.aC, [],by rw[f6.get C (by omega) (by omega)];exact g5,dQ.aC _ _ _,trivial⟩,tk6,?_,λg hg=>absurd hg List.not_mem_nil,by omega,?_⟩,rfl⟩ ?_
 ·rw[f6.get D (by omega) (by omega),o5 D (by omega),o4 D (by omega),f3.get D (by omega) (by omega),o2 D (by omega)];exact g1
 ·refine⟨by omega,λid hid=>?_⟩
  rw[f6.get id (by omega) (by omega),o5 id (by omega),o4 id (by omega),f3.get id (by omega) (by omega),o2 id (by omega),o1 id (by omega)]
 rintro k' vars h7 ⟨k,gens,⟨g,rfl⟩,hk,J,rfl⟩
 have cn:h7.cell C 0=some (aB n):=by
  obtain⟨⟨vg,ws,gC,_⟩,_⟩:=J;rw[H.aF gC];rfl
 by_cases hlt:(0:Int)<(k':Int)
 case neg=>
  have d1:=iV hlt;obtain⟨⟨vg,ws,gC,ow,pvs⟩,tk,gD,dV,nx,fr⟩:=J;have rC:=Qf gC;obtain⟨h8,e8,n8,g8,o8⟩:=Fj h7 D [aB n,vg];have r8:=Qf g8;have wg:=SV.dU ow.sv;simp(disch:=omega)only[go_sem,d1,rC,Cx h7 D 0 (v:= aB n) (u:=vg) rfl wg.2.1,gD,yH,e8,r8]
  have x8:Fx (λid=>id<=C∨ ∃off m c,vg= .sl id off m c) h7 h8:=⟨by omega,λid _ hw=>o8 id (λe=>hw (.inl (by omega)))⟩
  have sv8:SV h8 vg 1 ws:=(ow.qM (h':=h8) (by omega) (λid off m c e hid=>by have:=(ow.in _ _ _ _ e).2.1;exact o8 id (by omega))).sv;refine⟨n,vg,gens,rfl,by omega,by omega,by omega,dV,⟨ws,sv8,?_⟩,⟨by have:=fr.next;omega,λid hid=>by rw[o8 id (by omega)];exact fr.get id hid⟩⟩;have pv8:=jH.fx pvs x8;have hl8:=cE.length pv8
  exact cE.mK (by simpa using hl8) λi hi hj=>by
   have:=(cE.get pv8 i hi (by omega)).si;simpa using this
 have d1:=mO hlt
 have nx:=J.nx
 have hn0:0<n:=by omega
 have hn64:n<=64:=by omega
 simp(disch:=omega)only[go_sem,d1,cn]
 refine (Hw n h7 (by omega)).mono ?_
 rintro v6 h8 ⟨o6,f8⟩
 obtain⟨id6,mp8,hid6⟩:=Mp.of hn0 (bE.one n) o6
 simp(disch:=omega)only[go_sem]
 refine (mF (D+1) l 3 h8 (J.tk.mono f8) hl (by omega) (by omega)).mono ?_
 rintro _ h9 ⟨z3,rfl,_,_,tk9,f9⟩
 have fT9:sZ (D+1) h7 h9:=(sZ.of f8).trans f9
 have mp9:Mp h9 v6 n id6 (bH n):=mp8.mono f9.next (f9.get id6 (by obtain⟨⟨_,_,_,h5,_⟩,_⟩:=mp8;exact h5) (by omega))
 have cell7: ∀hh,sZ (D+1) h7 hh->hh.cell C 0=some (aB n):=λhh f=>by rw[f.cell nx (by omega)];exact cn
 simp(disch:=omega)only[go_sem]
 refine oY (λvs hh=> ∃(v6:V) (x:List Nat),(∃g:Nat->V,vs= [vl,aB most,.ptr D 0,.ptr (D+1) 0,.ptr C 0,aB (k':Int),v6,g 7,g 8,g 9,g 10])/\SI hh v6 (zi x)/\bE n x/\(∀id off len cap,v6= .sl id off len cap->h7.next<=id)/\Tk hh (D+1) l/\sZ (D+1) h7 hh) ?_ ?_
 ·refine aX (λ_=>?_) (λ_=>?_)
  ·simp(disch:=omega)only[go_sem,cell7 h9 fT9]
   refine (JJ (D+1) l n h9 hn64 hn0 tk9 hl).mono ?_
   rintro w h10 ⟨id,q,mp,hid,tk10,f10⟩
   have n9:=fT9.next
   simp(disch:=omega)only[go_sem]
   refine .inl ⟨w,q,aA rfl,mp.si,mp.dV,λid' off len cap e=>?_,tk10,fT9.trans f10⟩
   obtain⟨⟨_,_,e2,_⟩,_⟩:=mp
   rw[e2] at e;cases e;omega
  ·simp(disch:=omega)only[go_sem,cell7 h9 fT9]
   refine (mF (D+1) l n h9 tk9 hl (by omega) (by omega)).mono ?_
   rintro _ h10 ⟨z4,rfl,a4,b4,tk10,f10⟩
   obtain⟨a,rfl⟩: ∃a:Nat,z4=(a:Int):=⟨z4.toNat,by omega⟩
   have fT10:=fT9.trans f10
   simp(disch:=omega)only[go_sem,cell7 h10 fT10]
   refine (mF (D+1) l ((n:Int)-(a:Int)) h10 tk10 hl (by omega) (by omega)).mono ?_
   rintro _ h11 ⟨z5,rfl,a5,b5,tk11,f11⟩
   obtain⟨c,rfl⟩: ∃c:Nat,z5=(c:Int):=⟨z5.toNat,by omega⟩
   have fT11:=fT10.trans f11
   have f911:=f10.trans f11
   have id9:id6<h9.next:=by obtain⟨⟨_,_,_,h5,_⟩,_⟩:=mp9;exact h5
   have mp11:Mp h11 v6 n id6 (bH n):=mp9.mono f911.next (f911.get id6 id9 (by omega))
   have eb:(a:Int)+1+(c:Int)=((a+1+c:Nat):Int):=by omega
   simp(disch:=omega)only[go_sem,eb]
   refine (Ts h11 v6 n id6 a (a+1+c) hn64 mp11 (by omega) (by omega)).mono ?_
   rintro w h12 ⟨hw,mp12,f12⟩
   have hw':=hw.symm
   subst hw'
   have n8:=fT9.next
   have n9:=f911.next
   have n12:=f12.next
   have fT12:sZ (D+1) h7 h12:=⟨by omega,λid hid hne=>by rw[f12.get id (by omega) (by omega),f911.get id (by omega) hne];exact fT9.get id hid hne⟩
   have tk12:Tk h12 (D+1) l:=tk11.low n12 (λid hid=>f12.get id (by omega) (by omega))
   have id12:id6<h12.next:=by omega
   simp(disch:=omega)only[go_sem,cell7 h12 fT12]
   refine (mF (D+1) l n h12 tk12 hl (by omega) (by omega)).mono ?_
   rintro _ h13 ⟨z6,rfl,a6,b6,tk13,f13⟩
   obtain⟨a2,rfl⟩: ∃a:Nat,z6=(a:Int):=⟨z6.toNat,by omega⟩
   simp(disch:=omega)only[go_sem]
   refine (mF (D+1) l 2 h13 tk13 hl (by omega) (by omega)).mono ?_
   rintro _ h14 ⟨z7,rfl,a7,b7,tk14,f14⟩
   have fT14:=(fT12.trans f13).trans f14
   have f1214:=f13.trans f14
   have n14:=f1214.next
   have mp14:Mp h14 v6 n id6 _:=mp12.mono f1214.next (f1214.get id6 id12 (by omega))
   have fr6: ∀id off len cap,v6= .sl id off len cap->h7.next<=id:=λid' off len cap e=>by
    obtain⟨⟨_,_,e2,_⟩,_⟩:=mp14;rw[e2] at e;cases e;omega
   simp(disch:=omega)only[go_sem]
   refine aX (λhz=>?_) (λhz=>?_)
   ·have v6e:=SV.eM mp14.si
    simp(disch:=omega)only[go_sem,cell7 h14 fT14]
    have fb:Fr h14 (H.mk h14.tr (h14.next+17)):=(Fr.refl h14).bM (by omega)
    refine (Hw n _ (by omega)).mono ?_
    rintro w h15 ⟨ow,f15⟩
    obtain⟨idw,mp15,hidw⟩:=Mp.of hn0 (bE.one n) ow
    have n15:=f15.next
    have hb:(H.mk h14.tr (h14.next+17)).next=h14.next+17:=rfl
    rw[hb] at hidw n15
    have f1415:=fb.trans f15
    have fT15:=fT14.trans (sZ.of f1415)
    have idw15:idw<h15.next:=by obtain⟨⟨_,_,_,h5,_⟩,_⟩:=mp15;exact h5
    simp(disch:=omega)only[go_sem,cell7 h15 fT15]
    refine (mF (D+1) l ((n:Int)-(a2:Int)) h15 (tk14.mono f1415) hl (by omega) (by omega)).mono ?_
    rintro _ h16 ⟨z8,rfl,a8,b8,tk16,f16⟩
    obtain⟨c2,rfl⟩: ∃c:Nat,z8=(c:Int):=⟨z8.toNat,by omega⟩
    have fT16:=fT15.trans f16
    have n16:=f16.next
    have n147:=fT14.next
    have mp16:Mp h16 w n idw (bH n):=mp15.mono f16.next (f16.get idw idw15 (by omega))
    have eb2:(a2:Int)+1+(c2:Int)=((a2+1+c2:Nat):Int):=by omega
    simp(disch:=omega)only[go_sem,cell7 h16 fT16,eb2]
    refine (Ts h16 w n idw a2 (a2+1+c2) hn64 mp16 (by omega) (by omega)).mono ?_
    rintro w' h17 ⟨hw2,mp17,f17⟩
    have hw2':=hw2.symm
    subst hw2'
    have n17:=f17.next
    have fT17:sZ (D+1) h7 h17:=⟨by have:=fT16.next;omega,λid hid hne=>by rw[f17.get id (by have:=fT16.next;omega) (by omega)];exact fT16.get id hid hne⟩
    have tk17:Tk h17 (D+1) l:=tk16.low n17 (λid hid=>f17.get id (by omega) (by omega))
    have id14:id6<h14.next:=by obtain⟨⟨_,_,_,h5,_⟩,_⟩:=mp14;exact h5
    have mp617:Mp h17 v6 n id6 _:=mp14.mono (by omega) (by rw[f17.get id6 (by omega) (by omega),f16.get id6 (by omega) (by omega),f1415.get id6 id14])
    simp(disch:=omega)only[go_sem,cell7 h17 fT17,v6e]
    refine (AX v6 w _ _ h17 (by rw[mp617.dV.len];omega) mp617.si mp17.si (λj hj=>by rw[mp17.dV.len];exact mp617.dV.fH (by rw[←mp617.dV.len];exact hj))).mono ?_
    rintro v h18 ⟨s18,f18,l18⟩
    have fT18:=fT17.trans (sZ.of f18)
    simp(disch:=omega)only[go_sem,cell7 h18 fT18,v6e]
    exact .inl ⟨v,_,aA rfl,s18,mp617.dV.mul mp17.dV,λid off len cap e=>by have:=l18 _ _ _ _ e;have:=fT17.next;omega,tk17.mono f18,fT18⟩
   ·simp(disch:=omega)only[go_sem]
    exact .inl ⟨v6,_,aA rfl,mp14.si,mp14.dV,fr6,tk14,fT14⟩
 clear mp8 mp9 o6 f8 tk9 fT9 v6 h8 h9 f9 hid6
 rintro vars h8 ⟨v6,x,⟨g,rfl⟩,sx,X,fr6,tk8,f8⟩
 obtain⟨⟨vg,ws,gC,ow,pvs⟩,_,gD,dV,_,fr⟩:=J
 have n8:=f8.next
 have hvin:=λid off m c (e:vg=V.sl id off m c)=>ow.in id off m c e
 have hlw:=cE.length pvs
 have gC8:h8.get C=bY [aB n,vg]:=by rw[f8.get C nx (by omega)];exact gC
 have c8:h8.cell C 1=some vg:=by rw[H.aF gC8];rfl
 have frn:=fr.next
 have Fr8:Fr h h8:=⟨by omega,λid hid=>by rw[f8.get id (by omega) (by omega)];exact fr.get id hid⟩
 have ow8:dQ h8 vg 1 ws (C+1):=ow.qM n8 λid off m c e hid=>by have:=(hvin _ _ _ _ e).2.1;exact f8.get id hid (by omega)
 have pv8:jH (λid=>id<=C∨ ∃off m c,vg= .sl id off m c) h8 ws gens:=jH.fx pvs ⟨n8,λid hid hw=>f8.get id hid (λe=>hw (.inl (by omega)))⟩
 have px:PV (λid=>id<=C∨ ∃off m c,vg= .sl id off m c) h8 v6 x:=by
  refine⟨sx,?_⟩
  cases v6 with
  |sl id off len cap=>
   have:=fr6 _ _ _ _ rfl;rintro (h|⟨off',m',c',e⟩)
   ·omega
   ·have:=(hvin _ _ _ _ e).1;omega
  |_=>trivial
 obtain⟨h9,e9,n9,g9,o9,f9⟩:=iL (h:=h8) rfl [v6]
 have ow9:=ow8.fr f9
 obtain⟨h10,a10,p10⟩:=ow9.push (bytes:=24) (SV.one (by omega) g9 (.kn 1)) (n:=gens.length) (m:=1) (by omega) rfl (by omega) (by omega) (by omega)
 have n10:=p10.next
 rw[n9] at a10
 have apC:dI vg C:=λid off m c e e2=>by have:=(hvin _ _ _ _ e).2.1;omega
 have gC10:h10.get C=bY [aB n,vg]:=by rw[p10.old C (by omega) apC,o9 C (by omega)];exact gC8
 obtain⟨h11,e11,n11,g11,o11⟩:=Fj h10 C [aB n,.sl (h8.next+1) 0 (gens.length+1) (.un 1)]
 simp(disch:=omega)only[go_sem,c8,dP _ (z:= .aC) px.gT.1 px.gT.2,e9,a10,gC10,KC,e11]
 have ek:(k':Int)- 1=((k'- 1:Nat):Int):=by omega
 rw[ek]
 have old: ∀id,id<h8.next->id≠C->dI vg id->h11.get id=h8.get id:=λid h1 h2 h3=>by rw[o11 id h2,p10.old id (by omega) h3,o9 id (by omega)]
 have apl: ∀id,id<=C->dI vg id:=λid hid id' off m c e e2=>by have:=(hvin _ _ _ _ e).2.1;omega
 have ow11:=p10.own (by omega) rfl (b:=C+1) (by omega)
 rw[n9] at ow11
 have x11:Fx (λid=>id<=C∨ ∃off m c,vg= .sl id off m c) h8 h11:=⟨by omega,λid hid hw=>old id hid (λe=>hw (.inl (by omega))) (λid' off m c e e2=>hw (.inr ⟨off,m,c,e2▸e⟩))⟩
 have hw11: ∀id,id<h8.next->(id<=C∨ ∃off m c,V.sl (h8.next+1) 0 (gens.length+1) (.un 1)= .sl id off m c)->(id<=C∨ ∃off m c,vg= .sl id off m c):=λid hid hw=>by
  rcases hw with hw|⟨off,m,c,e⟩
  ·exact .inl hw
  ·cases e;omega
 refine⟨k'- 1,by omega,k'- 1,gens++ [x],aA rfl,by rw[oH];simp;omega,⟨⟨_,_,g11,ow11.qM (by omega) (λid off m c e hid=>by cases e;exact o11 _ (by omega)),(jH.go pv8 x11 hw11).append (jH.one (PV.go px x11 hw11))⟩,tk8.low (by omega) (λid hid=>old id (by omega) (by omega) (apl id (by omega))),?_,λu hu=>?_,by omega,⟨by omega,λid hid=>?_⟩⟩,rfl⟩
 ·rw[old D (by omega) (by omega) (apl D (by omega)),f8.get D (by omega) (by omega)];exact gD
 ·rcases Gl.1 hu with hu|hu
  ·exact dV u hu
  ·simp at hu;subst hu;exact X
 ·rw[old id (by omega) (by omega) (apl id (by omega))];exact Fr8.get id hid
set_option maxRecDepth 100000
section
variable {n:Nat} {G:List Nat->Prop} {L:LN} {K:List Nat}
theorem Eo (E:fI G L){y:List Nat}(hy:G y):L.idxOf y<L.length/\L.getD (L.idxOf y) []=y:=by
 have h1:=(E.mem y).2 hy;have h2:=List.idxOf_lt_length_iff.2 h1;refine⟨h2,?_⟩;rw[List.getD,gW h2];simp
theorem Bi.lt (k:Bi n G L K){r:Nat}(hr:r∈K):r<L.length:=(rG.1 (k.perm.mem_iff.1 hr)).1
theorem Bi.nd (k:Bi n G L K):K.Nodup:=k.perm.nodup_iff.2 (by unfold jR;exact List.nodup_range.filter _)
theorem Om {x c:List Nat}(X:bE n x)(C:bE n c):iC x c=bH n↔x=bH n:=by
 constructor
 ·intro h
  have e:=zK X C;rw[h] at e;rw[←e];show aT (aT (cM (cM c)) (bH n)) (cM c)=bH n;rw[cG C.inv.inv,gH C.inv]
 ·rintro rfl
  show aT (aT (cM c) (bH n)) c=bH n;rw[cG C.inv,gH C]
noncomputable def zp (n:Nat)(x:List Nat)(z:Int):List Nat:=pw n x (z%(kV x n:Nat)).toNat
variable (hG:sW n G) (E:fI G L) (k:Bi n G L K)
include hG E k
theorem wF {j:Nat}(hj:j<L.length):iD G L K j<K.length/\cR G L (K.getD (iD G L K j) 0) j:=by
 obtain⟨i,hi,h⟩:=Eu hG E k.perm hj;have e:=Gr hG E k.perm hi h;rw[e];exact⟨hi,(mG.1 h).2⟩
theorem DS {i j:Nat}(hi:i<L.length)(hj:j<L.length)(h:cR G L i j):iD G L K i=iD G L K j:=by
 obtain⟨h1,h2⟩:=wF hG E k hi;have hr:K.getD (iD G L K i) 0<L.length:=k.lt (bD h1);exact ((Jt hG E k.perm h1 hj).2 (pZ hG E hr h2 h)).symm
omit hG E k in
theorem Bm {x:List Nat}(X:bE n x):kV x n=1↔x=bH n:=by
 constructor
 ·intro h
  have:=(vB X 1).1 (by rw[h];exact Nat.dvd_refl _);rwa [Oh X] at this
 ·intro h
  have:=(vB X 1).2 (by rw[Oh X];exact h);exact Nat.dvd_one.1 this
theorem Ha:0<K.length/\K.getD 0 0=0:=by
 obtain⟨h0,h1⟩:=Sh hG E;have hm:0∈K:=k.perm.mem_iff.2 (rG.2 ⟨h0,λj hj=>by omega⟩);have hl:=List.length_pos_of_mem hm;refine⟨hl,?_⟩;obtain⟨i,hi,ei⟩:=Gg.1 hm
 by_cases e:i=0
 ·subst e;rw[List.getD,gW hl];exact ei
 ·have:=List.pairwise_iff_getElem.1 k.asc 0 i hl hi (by omega)
  rw[ei] at this;have e1:kV (L.getD 0 []) n=1:=(Bm (by rw[h1];exact bE.one n)).2 h1;have hr:K[0]<L.length:=k.lt (List.getElem_mem hl);have X:=mP hG E hr;have p:=Cg X;unfold WH at this;rw[e1] at this;have h2:kV (L.getD K[0] []) n=1:=by omega
  have h3:=(Bm X).1 h2;rw[←h1] at h3;have:=Jo E.nodup hr h0 h3;rw[List.getD,gW hl];exact this
theorem FM {y:List Nat}(hy:G y):iD G L K (L.idxOf y)=0↔y=bH n:=by
 obtain⟨h0,h1⟩:=Sh hG E;obtain⟨k0,k1⟩:=Ha hG E k;obtain⟨j1,j2⟩:=Eo E hy;rw[Jt hG E k.perm k0 j1,k1];unfold cR cj;rw[j2,h1];constructor
 ·rintro⟨g,hg,e⟩
  rw[←e];exact (Om (bE.one n) (hG.dV hg)).2 rfl
 ·rintro rfl
  exact⟨bH n,hG.one,yZ (bE.one n)⟩
end
def UC (n:Nat)(x:List Nat):Nat->Nat->Nat
 |0,k=>k
 |f+1,k=>if pw n x k=bH n then k else UC n x f (k+1)
def Vn (n:Nat)(x:List Nat):Nat:=UC n x 420 1
theorem AO {n:Nat}{x:List Nat}(X:bE n x): ∀f k,0<k->k<=kV x n->kV x n<=k+f->UC n x f k=kV x n
 |0,k,_,h1,h2=>by show k=_;omega
 |f+1,k,h0,h1,h2=>by
  unfold UC;split
  ·rename_i e
   exact Nat.le_antisymm h1 (Nat.le_of_dvd h0 ((vB X k).2 e))
  ·rename_i e
   refine AO X f (k+1) (by omega) ?_ (by omega)
   by_cases h:k=kV x n
   ·exact absurd ((vB X k).1 (by rw[h];exact Nat.dvd_refl _)) e
   ·omega
theorem RE {n:Nat}{x:List Nat}(X:bE n x)(hn:n<=7):kV x n=Vn n x:=
 (AO X 420 1 (by omega) (Cg X) (by have:=Nat.le_of_dvd (by omega) (Rl X hn);omega)).symm
def cRb (L:LN)(i j:Nat):Bool:=L.any λc=>iC (L.getD i []) c==L.getD j []
def DK (L:LN)(i:Nat):List Nat:=(List.range L.length).filter (cRb L i)
def Ry (L:LN):List Nat:=(List.range L.length).filter λj=>(List.range j).all λi=>!cRb L i j
def NR (L:LN)(K:List Nat)(j:Nat):Nat:=K.findIdx λr=>cRb L r j
def aaF (n:Nat)(L:LN)(r s:Nat):Bool:=decide (Vn n (L.getD r [])<Vn n (L.getD s [])∨Vn n (L.getD r [])=Vn n (L.getD s [])/\((DK L r).length<(DK L s).length∨(DK L r).length=(DK L s).length/\r<s))
section
variable {n:Nat} {G:List Nat->Prop} {L:LN} {K:List Nat}
theorem ZM (E:fI G L){x y:List Nat}:cj G x y↔(L.any λc=>iC x c==y)=true:=by
 rw[List.any_eq_true];constructor
 ·rintro⟨c,hc,e⟩
  exact⟨c,(E.mem c).2 hc,by simpa using e⟩
 ·rintro⟨c,hc,e⟩
  exact⟨c,(E.mem c).1 hc,by simpa using e⟩
theorem Vr (E:fI G L){i j:Nat}:cR G L i j↔cRb L i j=true:=ZM E
theorem HA (E:fI G L)(i j:Nat)(d:Decidable (cR G L i j)): @decide (cR G L i j) d=cRb L i j:=by
 rw[Bool.eq_iff_iff,decide_eq_true_iff];exact Vr E
theorem Zl (E:fI G L)(i:Nat):jF G L i=DK L i:=by
 unfold jF DK;exact List.filter_congr λj _=>HA E i j _
theorem LL (E:fI G L):jR G L L.length=Ry L:=by
 unfold jR Ry;refine List.filter_congr λj _=>?_
 classical
 rw[Bool.eq_iff_iff,decide_eq_true_iff,List.all_eq_true];unfold AE;constructor
 ·intro h i hi
  have:=h i (Hm.1 hi);rw[Vr E] at this;simpa using this
 ·intro h i hi
  have:=h i (Hm.2 hi);rw[Vr E];simpa using this
theorem Nw (E:fI G L)(j:Nat):iD G L K j=NR L K j:=by
 unfold iD NR;congr 1;funext r;exact HA E r j _
theorem abK (hG:sW n G)(E:fI G L): ∀x∈L,bE n x:=λx hx=>hG.dV ((E.mem x).1 hx)
theorem Xl (hG:sW n G)(E:fI G L)(hn:n<=7){r:Nat}(hr:r<L.length):kV (L.getD r []) n=Vn n (L.getD r []):=RE (abK hG E _ (bD hr)) hn
theorem TP (hG:sW n G)(E:fI G L)(hn:n<=7){r s:Nat}(hr:r<L.length)(hs:s<L.length):WH n G L r s↔aaF n L r s=true:=by
 unfold WH aaF;rw[decide_eq_true_iff,Xl hG E hn hr,Xl hG E hn hs,Zl E,Zl E]
def JB (n:Nat)(L:LN)(K:List Nat):Bool:=K.isPerm (Ry L)&&decide (K.Pairwise λr s=>aaF n L r s=true)
theorem JB.isK (hG:sW n G)(E:fI G L)(hn:n<=7)(h:JB n L K=true):Bi n G L K:=by
 unfold JB at h;rw[Bool.and_eq_true,decide_eq_true_iff] at h;have p:K.Perm (Ry L):=List.isPerm_iff.1 h.1
 have hm: ∀r∈K,r<L.length:=λr hr=>by
  have:=p.mem_iff.1 hr;unfold Ry at this;exact Hm.1 (KW.1 this).1
 exact⟨by rw[LL E];exact p,List.Pairwise.imp_of_mem (λhr hs h=>(TP hG E hn (hm _ hr) (hm _ hs)).2 h) h.2⟩
theorem JB.eq (hG:sW n G)(E:fI G L)(hn:n<=7){K0:List Nat}(h:JB n L K0=true)(k:Bi n G L K):K=K0:=k.uniq (JB.isK hG E hn h)
end
def acB (n:Nat)(S:LN)(w:List Nat):List Nat:=w.foldl (λx i=>aT x (S.getD i [])) (bH n)
theorem Qw {n:Nat}{S:LN}: ∀(w:List Nat) (x:List Nat),(∀i∈w,i<S.length)->fC n (· ∈S) x->fC n (· ∈S) (w.foldl (λx i=>aT x (S.getD i [])) x)
 | [],_,_,h=>h
 |i::w,x,hw,h=>Qw w _ (λj hj=>hw j (by simp [hj])) (h.mul (bD (hw i (by simp))))
def HM (n:Nat)(S L:LN)(ws:LN):Bool:=
 L==ws.map (acB n S)&&ws.all (λw=>w.all λi=>decide (i<S.length))&&decide (L.Pairwise λx y=>rN x y=true)&&L.all (λx=>x.length==n)&&L.contains (bH n)&&L.all λx=>S.all λg=>L.contains (aT x g)
theorem HM.aaS {n:Nat}{S L:LN}{ws:LN}(h:HM n S L ws=true):fI (fC n (· ∈S)) L:=by
 unfold HM at h;simp only[Bool.and_eq_true,beq_iff_eq,List.all_eq_true,decide_eq_true_iff,List.contains_iff_mem] at h;obtain⟨⟨⟨⟨⟨h1,h2⟩,h3⟩,h4⟩,h5⟩,h6⟩:=h;refine⟨List.Pairwise.imp_of_mem (λhx hy h=>(nC (by rw[h4 _ hx,h4 _ hy])).1 h) h3,λx=>⟨λhx=>?_,λhx=>?_⟩⟩
 ·rw[h1] at hx
  obtain⟨w,hw,rfl⟩:=vT.1 hx;exact Qw w _ (h2 w hw) .one
 ·induction hx with
  |one=>exact h5
  |mul _ hg ih=>exact h6 _ ih _ hg
def C4:LN:= [[1,2,3,0]]
def A4:LN:= [[1,2,0,3], [0,2,3,1]]
def L3:LN:= [[0,1,2], [0,2,1], [1,0,2], [1,2,0], [2,0,1], [2,1,0]]
def L4:LN:= [[0,1,2,3], [1,2,3,0], [2,3,0,1], [3,0,1,2]]
theorem Zj:fI (fC 4 (· ∈C4)) L4:=HM.aaS (ws:= [[], [0], [0,0], [0,0,0]]) (by decide+kernel)
theorem VU:JB 3 L3 [0,1,3]=true:=by decide+kernel
theorem aaT:JB 4 L4 [0,2,1,3]=true:=by decide+kernel
def My (n:Nat)(x:List Nat):Bool:=x.length==n&&decide x.Nodup&&x.all λp=>decide (p<n)
theorem Qy {n:Nat}{x:List Nat}(h:My n x=true):bE n x:=by
 unfold My at h;simp only[Bool.and_eq_true,beq_iff_eq,List.all_eq_true,decide_eq_true_iff] at h;exact⟨h.1.1,h.1.2,h.2⟩
theorem XE: ∀g∈C4,bE 4 g:=λg hg=>Qy ((List.all_eq_true.1 (show C4.all (My 4)=true by decide+kernel)) g hg)
theorem Vz (h:H)(x y z:Int):tN h 1 [aB 0] 3 [(0,1,aB x),(1,1,aB y),(2,1,aB z)]=some (.sl h.next 0 3 (.kn 3),h.new (.cells false (ints [x,y,z]))):=by
 have e:dS [aB 0] 3= [aB 0,aB 0,aB 0]:=rfl;simp [tN,jK,e,putAt,V.cells,V.one,ints]
theorem JQ (h:H)(x y z w:Int):tN h 1 [aB 0] 4 [(0,1,aB x),(1,1,aB y),(2,1,aB z),(3,1,aB w)]=some (.sl h.next 0 4 (.kn 4),h.new (.cells false (ints [x,y,z,w]))):=by
 have e:dS [aB 0] 4= [aB 0,aB 0,aB 0,aB 0]:=rfl;simp [tN,jK,e,putAt,V.cells,V.one,ints]
theorem KX (h:H){v u:V}(hv:v.cells= [v]/\v.one=true)(hu:u.cells= [u]/\u.one=true):tN h 1 [.aC] 2 [(0,1,v),(1,1,u)]=some (.sl h.next 0 2 (.kn 2),h.new (.cells false [v,u])):=by
 have e:dS [V.aC] 2= [.aC,.aC]:=rfl;simp [tN,jK,e,putAt,hv.1,hv.2,hu.1,hu.2]
theorem yI (id o m:Nat)(c:qC):(V.sl id o m c).cells= [.sl id o m c]/\(V.sl id o m c).one=true:=⟨rfl,rfl⟩
theorem VY {h:H}{ID:Nat}(hid:h.next=ID)(l:List Int): ∃x,h.new (.cells false (ints l))=x/\x.next=ID+1/\SI x (.sl ID 0 l.length (.kn l.length)) l/\Fr h x:=by
 obtain⟨x,e,n,g,o,f⟩:=iL hid (ints l);exact⟨x,e,n,SV.all (by rw[aI,Nat.mul_one]) (by omega) g _,f⟩
theorem SP.two {h h':H}{id:Nat}{v u:V}{a b:List Nat}(hv:SI h v (zi a))(hu:SI h u (zi b))(hid:id<h'.next)(f:Fr h h')(g:h'.get id=bY [v,u])(cap:qC):SP h' (.sl id 0 2 cap) [a,b]:=
 ⟨[v,u],SV.all rfl hid g _,hv.mono f,hu.mono f,trivial⟩
theorem SP.abN {h h':H}{id:Nat}{v:V}{a:List Nat}(hv:SI h v (zi a))(hid:id<h'.next)(f:Fr h h')(g:h'.get id=bY [v])(cap:qC):SP h' (.sl id 0 1 cap) [a]:=
 ⟨[v],SV.all rfl hid g _,hv.mono f,trivial⟩
theorem GC.sl {W:Nat->Prop}{h:H}{vc:V}{n:Nat}{O:LN}{R:oV}{G:List Nat->Prop}(g:GC W h vc n O R G): ∃vO vR,vc= .agg [aB n,vO,vR]/\vO.one=true/\vR.one=true/\eM vO vO=true/\eM vR vR=true:=by
 obtain⟨vO,vR,wsO,wsR,e,t1,_,_,t2,_,_⟩:=g.cw;exact⟨vO,vR,e,t1.dU.2.1,t2.dU.2.1,t1.eM,t2.eM⟩
theorem GC.el {W:Nat->Prop}{h:H}{vc:V}{n:Nat}{O:LN}{R:oV}{G:List Nat->Prop}{L:LN}(g:GC W h vc n O R G)(E:fI G L):cX O R n 0 (bH n)=L:=(jN g.nH g.isc).1.uniq E
theorem uV {v:V}{h:H}{l:List Int}(s:SI h v l):v.cells= [v]/\v.one=true:=⟨(SV.dU s).1,(SV.dU s).2.1⟩
theorem dT {i:Decidable True}: @decide True i=true:=decide_eq_true trivial
def SB (h:H)(v:V)(l:List Bool):Prop:=SV h v 1 (l.map V.bool)
theorem SB.mono {h h':H}{v:V}{l:List Bool}(s:SB h v l)(f:Fr h h'):SB h' v l:=SV.mono s f
theorem SB.open {h:H}{v:V}{l:List Bool}(s:SB h v l):dY v=some (aB (l.length:Int))/\ ∃id off,Sl v 1 l.length id off/\ ∀i,i<l.length->id<h.next/\h.cell id (off+i)=some (.bool (l.getD i false)):=by
 have hl:(l.map V.bool).length=l.length:=rF ..;refine⟨by unfold dY;rw[SV.len s (n:=l.length) (by omega) (by omega)];rfl,?_⟩;obtain⟨id,off,sh,hid,hc⟩:=SV.shape s l.length (by omega) (by omega);exact⟨id,off,sh,λi hi=>⟨hid (by omega),by rw[hc i (by omega),List.getElem?_map,List.getD,gW hi];rfl⟩⟩
set_option maxRecDepth 100000
theorem GC.all {W:Nat->Prop}{h:H}{vc:V}{n:Nat}{O:LN}{R:oV}{G:List Nat->Prop}(g:GC W h vc n O R G):fI G (cX O R n 0 (bH n))/\(cX O R n 0 (bH n)).length<=5040:=by
 have e:=jN g.nH g.isc;exact⟨e.1,by rw[e.2];exact nI g⟩
theorem Wq {n:Nat}{a b x:List Nat}(A:bE n a)(B:bE n b)(X:bE n x):iC (aT a b) x=aT (iC a x) (iC b x):=by
 unfold iC;rw[aV (X.inv.mul A) X (X.inv.mul B|>.mul X),←aV X (X.inv.mul B) X,←aV X X.inv B,gK X,fA B,←aV (X.inv.mul A) B X,aV X.inv A B]
section
variable {n:Nat} {G H:List Nat->Prop} {L M:LN} {K K':List Nat} {x:List Nat}
variable (hG:sW n G) (E:fI G L) (k:Bi n G L K) (hH:sW n H) (F:fI H M) (k':Bi n H M K') (X:bE n x) (hx: ∀y,H y↔ ∃g,G g/\iC g x=y)
include hG E k hH F k' X hx
end
def fE (v:V)(id:Nat):Prop:= ∃off m c,v= .sl id off m c
theorem jH.sp' {W:Nat->Prop}{h:H}{v:V}{ws:List V}{l:LN}(sv:SV h v 1 ws)(p:jH W h ws l):SP h v l:=by
 refine⟨ws,sv,?_⟩;have hl:=cE.length p
 exact cE.mK (by simpa using hl) λi hi hj=>by
  have:=(cE.get p i hi (by omega)).si;simpa using this
section
variable {h:H} {v:V} {ws:List V} {b k n:Nat} {x y:List Nat} {A S Q:LN}
def Qv (h:H)(v:V)(ws:List V)(b:Nat):Prop:= ∃id cap rest,v= .sl id 0 ws.length cap/\b<=id/\id<h.next/\h.get id=bY (ws++rest)/\(cap= .un 1∨cap= .kn 1/\ws.length+rest.length=1)
theorem Qv.sv (t:Qv h v ws b):SV h v 1 ws:=by
 obtain⟨id,cap,rest,rfl,h1,h2,h3,_⟩:=t;exact .inr ⟨id,0,_,cap,false,_,rfl,(Nat.mul_one _).symm,h2,h3,by rw[oH];omega,by rw[List.drop_zero,Nat.mul_one,List.take_left' rfl]⟩
theorem Qv.qM {h':H}(t:Qv h v ws b)(hn:h.next<=h'.next)(hg: ∀id,fE v id->h'.get id=h.get id):Qv h' v ws b:=by
 obtain⟨id,cap,rest,e,h1,h2,h3,h4⟩:=t;exact⟨id,cap,rest,e,h1,by omega,by rw[hg id ⟨_,_,_,e⟩];exact h3,h4⟩
theorem Qv.in (t:Qv h v ws b){id:Nat}(hb:fE v id):b<=id/\id<h.next:=by
 obtain⟨i,cap,rest,rfl,h1,h2,_⟩:=t;obtain⟨_,_,_,e⟩:=hb;cases e;exact⟨h1,h2⟩
theorem Qv.pop (t:Qv h v ws b)(hk:ws.length=k+1):
  ∃v',rU 1 v none (some (aB k)) none=some v'/\Qv h v' (ws.take k) b/\ ∀id,fE v' id->fE v id:=by
 obtain⟨id,cap,rest,rfl,h1,h2,h3,h4⟩:=t
 have hl:(ws.take k).length=k:=by rw[Ky];omega
 have hr:ws++rest=ws.take k++(ws.drop k++rest):=by rw[←List.append_assoc,List.take_append_drop]
 rcases h4 with rfl|⟨rfl,h5⟩
 ·refine⟨_,IL (by omega) (by omega),⟨id,_,ws.drop k++rest,by rw[hl,Int.toNat_natCast],h1,h2,by rw[h3,hr],.inl rfl⟩,λi ⟨_,_,_,e⟩=>by cases e;exact⟨_,_,_,rfl⟩⟩
 ·refine⟨_,WU (by omega) (by omega),⟨id,_,ws.drop k++rest,by rw[hl,Int.toNat_natCast],h1,h2,by rw[h3,hr],.inr ⟨rfl,by rw[hl,oH,List.length_drop];omega⟩⟩,λi ⟨_,_,_,e⟩=>by cases e;exact⟨_,_,_,rfl⟩⟩
theorem Qv.push {y:V}{S:Nat}{c:qC}(t:Qv h v ws b)(hS:SV h (.sl S 0 1 c) 1 [y])(hb:b<=h.next)(hw:ws.length<1000000):
  ∃v' h',xJ h 1 24 v (.sl S 0 1 c)=some (v',h')/\Qv h' v' (ws++ [y]) b/\(∀k,k<h.next-> ¬fE v k->h'.get k=h.get k)/\h.next<=h'.next/\h'.next<=h.next+1/\ ∀k,fE v' k->fE v k∨k=h.next:=by
 have e1:xJ h 1 24 v (.sl S 0 1 c)=Ay.uA h 1 24 v 1 [y]:=by
  simp only[xJ,hS.len (n:=1) rfl (by omega),hS.slice]
 rw[e1]
 have hx:=t.sv
 have hlen:=hx.len (n:=ws.length) (by omega) (by omega)
 have hsl:=hx.slice
 obtain⟨id,cap,rest,rfl,h1,h2,h3,h4⟩:=t
 unfold Ay.uA
 simp only[hlen,hsl]
 rw[if_neg (by omega),if_pos ⟨by omega,by omega⟩]
 have key: ∀g:H,g.next=h.next->(∀k,k<h.next->k≠id->g.get k=h.get k)-> ∃v' h',some (V.sl h.next 0 (ws.length+1) (.un 1),g.new (.cells false (ws++ [y])))=some (v',h')/\Qv h' v' (ws++ [y]) b/\(∀k,k<h.next-> ¬fE (.sl id 0 ws.length cap) k->h'.get k=h.get k)/\h.next<=h'.next/\h'.next<=h.next+1/\ ∀k,fE v' k->fE (.sl id 0 ws.length cap) k∨k=h.next:=by
  intro g gn gg;refine⟨_,_,rfl,⟨h.next,_, [],by rw[oH];rfl,hb,by rw[H.aU];omega,by rw[←gn,H.aL,List.append_nil],.inl rfl⟩,λk hk ha=>?_,by rw[H.aU];omega,by rw[H.aU];omega,λk ⟨_,_,_,e⟩=>by cases e;exact .inr rfl⟩;rw[H.bB g (by omega)];exact gg k hk (λe=>ha ⟨_,_,_,by rw[e]⟩)
 rcases h4 with rfl|⟨rfl,h5⟩
 ·simp only[h3,if_true]
  exact key (h.set id none) rfl (λk _ hk=>H.aH h hk none)
 ·simp only
  by_cases e:ws.length+1<=1
  ·rw[if_pos e]
   have e0:ws= []:=List.eq_nil_of_length_eq_zero (by omega)
   subst e0
   obtain⟨z,rfl⟩: ∃z,rest= [z]:=List.length_eq_one_iff.1 (by simpa using h5)
   have hp:h.put id (0+([]:List V).length*1) [y]=some (h.set id (bY [y])):=by
    simp [H.put,h3,putAt]
   rw[hp]
   refine⟨_,_,rfl,⟨id,_, [],rfl,h1,h2,by rw[H.aQ];rfl,.inr ⟨rfl,rfl⟩⟩,λk hk ha=>H.aH h (λe=>ha ⟨0,0,.kn 1,by rw[e];rfl⟩) _,iI _,Nat.le_succ _,λk ⟨_,_,_,e⟩=>by cases e;exact .inl ⟨_,_,_,rfl⟩⟩
  ·rw[if_neg e]
   exact key h rfl (λ_ _ _=>rfl)
def ZY (n:Nat):LN:=(yA n n).filter (My n)
theorem IX (X:bE n x):x∈ZY n:=by
 unfold ZY;rw[KW];refine⟨X.sK,?_⟩;unfold My;simp only[Bool.and_eq_true,beq_iff_eq,List.all_eq_true,decide_eq_true_iff];exact⟨⟨X.len,X.nd⟩,X.lt⟩
theorem rM (hn:n<=5){l:LN}(nd:l.Nodup)(hP: ∀x∈l,bE n x):l.length<=120:=by
 have h: ∀n,n<=5->(ZY n).length<=120:=by decide+kernel
 exact Nat.le_trans (List.Nodup.length_le_of_subset nd λx hx=>IX (hP x hx)) (h n hn)
theorem Cf {n:Nat}(asc:A.Pairwise Lt):A.Nodup:=asc.imp λh e=>by rw[e] at h;exact h.irrefl
def Ks (A:LN)(k:Nat)(y:List Nat):LN:=A.take k++y::A.drop k
theorem oC {z:List Nat}:z∈Ks A k y↔z=y∨z∈A:=by
 unfold Ks;rw[Gl,List.mem_cons];constructor
 ·rintro (h|h|h)
  ·exact .inr (List.mem_of_mem_take h)
  ·exact .inl h
  ·exact .inr (List.mem_of_mem_drop h)
 ·rintro (h|h)
  ·exact .inr (.inl h)
  ·rw[←List.take_append_drop k A,Gl] at h
   rcases h with h|h
   ·exact .inl h
   ·exact .inr (.inr h)
theorem yF:(Ks A k y).length=A.length+1:=by
 unfold Ks;rw[oH,List.length_cons,Ky,List.length_drop];omega
theorem GS {a b:List Nat}(A:bE n a)(B:bE n b)(h1: ¬Lt a b)(h2:a≠b):Lt b a:=by
 have h: ∃i,i<n/\a.getD i 0≠b.getD i 0:=Lf λh=>h2 (rZ (by rw[A.len,B.len]) λi hi=>Lf λh3=>h ⟨i,by rw[←A.len];exact hi,h3⟩)
 obtain⟨i,hi,hne⟩:=h
 have hw: ∃i,(i<n/\a.getD i 0≠b.getD i 0)/\ ∀j,j<i-> ¬(j<n/\a.getD j 0≠b.getD j 0):=by
  revert hi hne
  induction i using Nat.strongRecOn with
  |ind i ih=>
   intro hi hne
   by_cases h: ∃j,j<i/\j<n/\a.getD j 0≠b.getD j 0
   ·obtain⟨j,h3,h4,h5⟩:=h
    exact ih j h3 h4 h5
   ·exact⟨i,⟨hi,hne⟩,λj hj hjn=>h ⟨j,hj,hjn⟩⟩
 obtain⟨k,⟨hk,hk2⟩,hmin⟩:=hw;have he: ∀j,j<k->a.getD j 0=b.getD j 0:=λj hj=>Lf λh3=>hmin j hj ⟨by omega,h3⟩
 rcases Nat.lt_or_gt_of_ne hk2 with h4|h4
 ·exact (h1 ⟨k,by rw[A.len];exact hk,he,h4⟩).elim
 ·exact⟨k,by rw[B.len];exact hk,λj hj=>(he j hj).symm,h4⟩
theorem IJ (hP: ∀x∈A,bE n x)(Y:bE n y)(asc:A.Pairwise Lt)(p:Plc A y k)(hy:y∉A):(Ks A k y).Pairwise Lt:=by
 unfold Ks;rw[List.pairwise_append];have at': ∀{z:List Nat},z∈A.take k-> ∃i,i<k/\i<A.length/\A.getD i []=z:=λh=>(LD (d:= [])).1 h
 have bt: ∀{z:List Nat},z∈A.drop k-> ∃i,k<=i/\i<A.length/\A.getD i []=z:=λh=>by
  obtain⟨q,hq,e⟩:=Gg.1 h;rw[List.length_drop] at hq;rw[List.getElem_drop] at e;exact⟨k+q,by omega,by omega,by rw[List.getD,gW (by omega),←e];rfl⟩
 have lo: ∀z∈A.take k,Lt z y:=λz hz=>by
  obtain⟨i,h1,h2,rfl⟩:=at' hz;exact (nC (by rw[(hP _ (bD h2)).len,Y.len])).1 (p.lo i h1)
 have hi: ∀z∈A.drop k,Lt y z:=λz hz=>by
  obtain⟨i,h1,h2,rfl⟩:=bt hz;have Z:=hP _ (bD (d:= []) h2);refine GS Z Y (λh=>?_) (λe=>hy (by rw[←e];exact bD h2));have:=p.hi i h1 h2;rw[(nC (by rw[Z.len,Y.len])).2 h] at this;cases this
 refine⟨asc.sublist (List.take_sublist k A),List.pairwise_cons.2 ⟨hi,asc.sublist (List.drop_sublist k A)⟩,λz hz w hw=>?_⟩;rcases List.mem_cons.1 hw with rfl|hw
 ·exact lo z hz
 ·have Z:=hP z (List.mem_of_mem_take hz)
  exact Lt.trans (by rw[Z.len,Y.len]) (lo z hz) (hi w hw)
structure TV (n:Nat)(S A Q:LN):Prop where
 asc:A.Pairwise Lt
 gen: ∀x∈A,fC n (· ∈S) x
 one:bH n∈A
 sub: ∀x∈Q,x∈A
 cl: ∀x∈A,x∉Q-> ∀g∈S,aT x g∈A
theorem TV.start (n:Nat)(S:LN):TV n S [bH n] [bH n]:=
 ⟨List.pairwise_singleton _ _,λx hx=>by simp at hx;subst hx;exact .one,by simp,λx hx=>hx,λx hx h=>absurd hx h⟩
theorem TV.done (j:TV n S A []):fI (fC n (· ∈S)) A:=by
 refine⟨j.asc,λx=>⟨j.gen x,λh=>?_⟩⟩
 induction h with
 |one=>exact j.one
 |mul _ hg ih=>exact j.cl _ ih List.not_mem_nil _ hg
structure BW (n:Nat)(S:LN)(x:List Nat)(i:Nat)(A Q:LN):Prop where
 asc:A.Pairwise Lt
 gen: ∀x∈A,fC n (· ∈S) x
 one:bH n∈A
 sub: ∀x∈Q,x∈A
 mem:x∈A
 cl: ∀z∈A,z∉Q->z=x∨ ∀g∈S,aT z g∈A
 dn: ∀j,j<i->aT x (S.getD j [])∈A
theorem BW.start (j:TV n S A (Q++ [x])):BW n S x 0 A Q:=
 ⟨j.asc,j.gen,j.one,λz hz=>j.sub z (by simp [hz]),j.sub x (by simp),λz hz hq=>by
  by_cases e:z=x
  ·exact .inl e
  ·exact .inr (j.cl z hz (by simp [hq,e])),λj hj=>by omega⟩
theorem BW.done (j:BW n S x S.length A Q):TV n S A Q:=
 ⟨j.asc,j.gen,j.one,j.sub,λz hz hq g hg=>by
  rcases j.cl z hz hq with rfl|h
  ·obtain⟨i,hi,e⟩:=Gg.1 hg
   have:=j.dn i hi;rwa [List.getD,gW hi,Option.getD_some,e] at this
  ·exact h g hg⟩
theorem BW.skip {i:Nat}(j:BW n S x i A Q)(h:aT x (S.getD i [])∈A):BW n S x (i+1) A Q:=
 ⟨j.asc,j.gen,j.one,j.sub,j.mem,j.cl,λk hk=>by
  by_cases e:k=i
  ·rw[e];exact h
  ·exact j.dn k (by omega)⟩
theorem BW.step {i:Nat}(j:BW n S x i A Q)(hS: ∀g∈S,bE n g)(hi:i<S.length)(h:aT x (S.getD i [])∉A)(p:Plc A (aT x (S.getD i [])) k):BW n S x (i+1) (Ks A k (aT x (S.getD i []))) (Q++ [aT x (S.getD i [])]):=by
 have gx:=j.gen x j.mem;have gy:fC n (· ∈S) (aT x (S.getD i [])):=gx.mul (bD hi);obtain⟨y,hy⟩:=exI (aT x (S.getD i []));rw[hy] at gy h p ⊢;refine⟨IJ (λz hz=>(j.gen z hz).dV hS) (gy.dV hS) j.asc p h,λz hz=>?_,oC.2 (.inr j.one),λz hz=>?_,oC.2 (.inr j.mem),λz hz hq=>?_,λq hq=>?_⟩
 ·rcases oC.1 hz with rfl|hz
  ·exact gy
  ·exact j.gen z hz
 ·rcases Gl.1 hz with hz|hz
  ·exact oC.2 (.inr (j.sub z hz))
  ·simp at hz;exact oC.2 (.inl hz)
 ·rcases oC.1 hz with rfl|hz
  ·exact absurd (by simp) hq
  ·rcases j.cl z hz (λh=>hq (by simp [h])) with e|h2
   ·exact .inl e
   ·exact .inr λg hg=>oC.2 (.inr (h2 g hg))
 ·by_cases e:q=i
  ·rw[e,hy];exact oC.2 (.inl rfl)
  ·exact oC.2 (.inr (j.dn q (by omega)))
theorem CF {A:List V}(hk:k<=A.length)(z y:V):(((A++ [z]).take (k+1)++A.drop k).set k y)=A.take k++y::A.drop k:=by
 have h1:(A++ [z]).take (k+1)=A.take k++ [(A++ [z]).getD k .undef]:=by
  rw[iQ .undef (by rw[oH];simp;omega),List.take_append_of_le_length hk]
 rw[h1,List.append_assoc,List.set_append_right _ _ (by rw[Ky];omega),Ky,Nat.min_eq_left hk,Nat.sub_self]
 rfl
theorem jH.Ks {W:Nat->Prop}{wa:List V}(p:jH W h wa A)(q:PV W h v y)(hk:k<=A.length):jH W h (wa.take k++v::wa.drop k) (Go.Proofs.YtapfcpkecmmagaaGreat.Ks A k y):=by
 have hl:=cE.length p
 have t: ∀(k:Nat) (wa:List V) (A:LN),jH W h wa A->jH W h (wa.take k) (A.take k)/\jH W h (wa.drop k) (A.drop k):=by
  intro k
  induction k with
  |zero=>intro wa A p;exact⟨trivial,p⟩
  |succ k ih=>
   intro wa A p
   cases wa with
   |nil=>cases A with
    |nil=>exact⟨trivial,trivial⟩
    |cons=>exact p.elim
   |cons a wa=>cases A with
    |nil=>exact p.elim
    |cons b A=>
     obtain⟨h1,h2⟩:=ih wa A p.2
     exact⟨⟨p.1,h1⟩,h2⟩
 obtain⟨h1,h2⟩:=t k wa A p;exact h1.append ⟨q,h2⟩
theorem Qv.own (t:Qv h v ws b)(h0:0<ws.length):dQ h v 1 ws b:=by
 obtain⟨id,cap,rest,rfl,h1,h2,h3,h4⟩:=t;refine .inr ⟨id,ws.length,cap,rest,rfl,(Nat.mul_one _).symm,?_,h1,h2,h3⟩;rcases h4 with h4|⟨rfl,h5⟩
 ·exact .inl h4
 ·have e:ws.length=1:=by omega
  exact .inr ⟨by rw[e],List.eq_nil_of_length_eq_zero (by omega)⟩
theorem ZL {Q m:Nat}(hk:k<=m):rU 1 (.sl Q 0 (m+1) (.un 1)) (some (aB k)) none none=some (.sl Q k (m+1-k) (.un 1)):=by
 simp only[rU,nP];rw[if_pos ⟨by omega,by omega⟩];simp only[if_true,Int.toNat_natCast];rw[if_pos (by omega),Nat.zero_add,Nat.mul_one]
theorem QN {Q m:Nat}(hk:k<=m):rU 1 (.sl Q 0 (m+1) (.un 1)) (some (aB ((k:Int)+1))) none none=some (.sl Q (if k<m then k+1 else 0) (m-k) (.un 1)):=by
 simp only[rU,nP];rw[if_pos ⟨by omega,by omega⟩];have e:((k:Int)+1).toNat=k+1:=by omega
 simp only[if_true,e]
 by_cases h:k<m
 ·rw[if_pos (by omega),if_pos h]
  simp only[Option.some.injEq,V.sl.injEq,true_and,and_true];omega
 ·rw[if_neg (by omega),if_neg h]
  simp only[Option.some.injEq,V.sl.injEq,true_and,and_true];omega
theorem TH {Q:Nat}{z:V}(hk:k<=ws.length)(hg:h.get Q=bY (ws++ [z])):
  DA h 1 (.sl Q (if k<ws.length then k+1 else 0) (ws.length-k) (.un 1)) (.sl Q k (ws.length+1-k) (.un 1))=some (aB (ws.length-k:Nat),h.set Q (bY ((ws++ [z]).take (k+1)++ws.drop k))):=by
 have e1:qN (.sl Q (if k<ws.length then k+1 else 0) (ws.length-k) (.un 1))=some (ws.length-k):=rfl
 have e2:qN (.sl Q k (ws.length+1-k) (.un 1))=some (ws.length+1-k):=rfl
 have e3:min (ws.length+1-k) (ws.length-k)=ws.length-k:=by omega
 have e4:h.row Q k (ws.length-k)=some (ws.drop k):=by
  unfold H.row;rw[hg];show sub (ws++ [z]) k (ws.length-k)=_;unfold sub;rw[if_pos (by rw[oH];omega),List.drop_append_of_le_length hk,List.take_left' (by rw[List.length_drop])]
 have e5:h.put Q (if k<ws.length then k+1 else 0) (ws.drop k)=some (h.set Q (bY ((ws++ [z]).take (k+1)++ws.drop k))):=by
  unfold H.put;rw[hg];show (putAt (ws++ [z]) _ (ws.drop k)).map _=_;unfold putAt;have hl:(ws++ [z]).length=ws.length+1:=by simp
  by_cases h:k<ws.length
  ·rw[if_pos h,if_pos (by rw[hl,List.length_drop];omega),List.length_drop,List.drop_eq_nil_of_le (as:=ws++ [z]) (by rw[hl];omega),List.append_nil];rfl
  ·have e:k=ws.length:=by omega
   rw[if_neg h,if_pos (by rw[hl,List.length_drop];omega),e,List.drop_length,List.append_nil,List.append_nil];have e6:(ws++ [z]).take (ws.length+1)=ws++ [z]:=List.take_of_length_le (by rw[hl];omega);rw[e6];simp
 simp only[DA,e1,e2,e3,Nat.mul_one,e4,e5]
structure ESt (h hh:H)(va vt:V)(A Q:LN):Prop where
 ex: ∃wa wt,Qv hh va wa h.next/\Qv hh vt wt h.next/\jH (λq=>fE va q∨fE vt q) hh wa A/\jH (λq=>fE va q∨fE vt q) hh wt Q
 Gn: ∀q,fE va q-> ¬fE vt q
 fr:Fr h hh
theorem Dr (mo n:Nat)(vl:V)(S:LN)(h:H)(n0:1<=n)(n5:n<=5)(hS: ∀g∈S,bE n g)(hl:S.length<=16)(hmo: ∀A:LN,A.Nodup->(∀x∈A,fC n (· ∈S) x)->A.length<=mo)(hv:SP h vl S):
  Ev T 18 [aB n,vl,aB mo] h (λv h'=> ∃A,fI (fC n (· ∈S)) A/\A.length<=120/\SP h' v A/\Fr h h'):=by
 refine bL rI rfl rfl ?_
 have lv:=hv.lens
 rw[rF] at lv
 obtain⟨id,off,ws,sh,hid,hwl,hc,hall⟩:=hv.open
 rw[rF] at sh hid hwl hc
 simp(disch:=omega)only[go_sem,rI,aE]
 refine (AR n h (by omega)).mono ?_
 rintro v1 h1 ⟨s1,f1,l1⟩
 obtain⟨B,hB⟩:=exI h1.next
 obtain⟨h2,e2,n2,g2,o2,f2⟩:=iL hB [v1]
 simp(disch:=omega)only[go_sem,dP _ (z:= .aC) (uV s1).1 (uV s1).2,hB,e2]
 refine (AR n h2 (by omega)).mono ?_
 rintro v3 h3 ⟨s3,f3,l3⟩
 obtain⟨C,hC⟩:=exI h3.next
 obtain⟨h4,e4,n4,g4,o4,f4⟩:=iL hC [v3]
 have k1:=f1.next
 have k3:=f3.next
 have F4:=((f1.trans f2).trans f3).trans f4
 have one4: ∀{v:V} {hh:H},SI hh v (zi (bH n))->Fr hh h4->(∀id off len cap,v= .sl id off len cap->id≠B/\id≠C)->PV (λq=>fE (.sl B 0 1 (.kn 1)) q∨fE (.sl C 0 1 (.kn 1)) q) h4 v (bH n):=λ{v hh} s f hne=>by
  refine⟨s.mono f,?_⟩
  cases v with
  |sl i o m c=>
   have:=hne _ _ _ _ rfl;rintro (⟨_,_,_,e⟩|⟨_,_,_,e⟩)
   ·cases e;omega
   ·cases e;omega
  |_=>trivial
 have st4:ESt h h4 (.sl B 0 1 (.kn 1)) (.sl C 0 1 (.kn 1)) [bH n] [bH n]:=by
  refine⟨⟨[v1], [v3],⟨B,_, [],rfl,by omega,by omega,by rw[o4 B (by omega),f3.get B (by omega)];exact g2,.inr ⟨rfl,rfl⟩⟩,⟨C,_, [],rfl,by omega,by omega,g4,.inr ⟨rfl,rfl⟩⟩,jH.one (one4 s1 ((f2.trans f3).trans f4) λi o m c e=>?_),jH.one (one4 s3 f4 λi o m c e=>?_)⟩,λq ⟨_,_,_,e⟩ ⟨_,_,_,e2⟩=>by cases e;cases e2;omega,F4⟩
  ·have:=SV.in s1 _ _ _ _ e;omega
  ·have:=SV.in s3 _ _ _ _ e;have:=l3 _ _ _ _ e;omega
 simp(disch:=omega)only[go_sem,dP _ (z:= .aC) (uV s3).1 (uV s3).2,hC,e4]
 refine aJ (λk' vars hh=> ∃(A Q:LN) (va vt:V),(∃g:Nat->V,vars= [aB n,vl,aB mo,g 3,va,vt,g 6,g 7,g 8,g 9,g 10,g 11,g 12,g 13,g 14])/\TV n S A Q/\ESt h hh va vt A Q/\Q.length<=A.length/\k'=1000- 2*A.length+Q.length) _
  ⟨_,_,_,_,aA rfl,TV.start n S,st4,iI _,rfl⟩ ?_
 clear st4 one4 g2 g4 o2 o4 e2 e4 s1 s3 l1 l3 F4 f1 f2 f3 f4 k1 k3 n2 n4 hB hC
 rintro k' vars h5 ⟨A,Q,va,vt,⟨g,rfl⟩,J,st,hqa,rfl⟩
 have AP: ∀x∈A,bE n x:=λx hx=>(J.gen x hx).dV hS
 have la:=rM n5 (Cf J.asc (n:=n)) AP
 obtain⟨⟨wa,wt,ta,tt,pa,pt⟩,Gn,fr⟩:=st
 have lwa:=cE.length pa
 have lwt:=cE.length pt
 have lt5:dY vt=some (aB (Q.length:Int)):=by unfold dY;rw[SV.len tt.sv (n:=Q.length) (by omega) (by omega)];rfl
 by_cases hq:(0:Int)<(Q.length:Int)
 case neg=>
  have d1:=iV hq;have e0:Q= []:=List.eq_nil_of_length_eq_zero (by omega);simp(disch:=omega)only[go_sem,lt5,d1];subst e0;exact⟨A,J.done,la,jH.sp' ta.sv pa,fr⟩
 have d1:=mO hq
 obtain⟨m,hm⟩: ∃m,Q.length=m+1:=⟨Q.length- 1,by omega⟩
 have em:(Q.length:Int)- 1=(m:Int):=by omega
 obtain⟨_,idt,offt,sht,hct⟩:=jH.open tt.sv pt
 obtain⟨_,cx,px⟩:=hct m (by omega)
 obtain⟨x,hx⟩:=exI (Q.getD m [])
 rw[hx] at px
 generalize wt.getD m .undef=vx at cx px
 obtain⟨vt',sl5,tt',bt'⟩:=tt.pop (k:=m) (by omega)
 have hQ:Q=Q.take m++ [x]:=by
  rw[←hx,←iQ [] (by omega),List.take_of_length_le (by omega)]
 have ptk:jH (λq=>fE va q∨fE vt' q) h5 (wt.take m) (Q.take m):=by
  have t: ∀(k:Nat) (wa:List V) (A:LN),jH (λq=>fE va q∨fE vt q) h5 wa A->jH (λq=>fE va q∨fE vt q) h5 (wa.take k) (A.take k):=by
   intro k
   induction k with
   |zero=>intro wa A p;exact trivial
   |succ k ih=>
    intro wa A p
    cases wa with
    |nil=>cases A with
     |nil=>exact trivial
     |cons=>exact p.elim
    |cons a wa=>cases A with
     |nil=>exact p.elim
     |cons b A=>exact⟨p.1,ih wa A p.2⟩
  exact jH.sX (t m wt Q pt) λq _ hw=>hw.imp (λh=>h) (bt' q)
 have st':ESt h h5 va vt' A (Q.take m):=⟨⟨wa,wt.take m,ta,tt',jH.sX pa λq _ hw=>hw.imp (λh=>h) (bt' q),ptk⟩,λq h1 h2=>Gn q h1 (bt' q h2),fr⟩
 have px':PV (λq=>fE va q∨fE vt' q) h5 vx x:=PV.sX px λq _ hw=>hw.imp (λh=>h) (bt' q)
 have J':BW n S x 0 A (Q.take m):=BW.start (by rw[←hQ];exact J)
 have lq':(Q.take m).length=m:=by rw[Ky];omega
 simp(disch:=omega)only[go_sem,lt5,d1,em,sht.ixa,cx,sl5]
 refine De (λvs hh=> ∃(A' Q':LN) (va vt:V),(∃g:Nat->V,vs= [aB n,vl,aB mo,g 3,va,vt,g 6,g 7,g 8,g 9,g 10,g 11,g 12,g 13,g 14])/\TV n S A' Q'/\ESt h hh va vt A' Q'/\Q'.length<=A'.length/\1000- 2*A'.length+Q'.length<1000- 2*A.length+Q.length) ?_ ?_
 ·refine aJ (λk' vars hh=> ∃(i:Nat) (A' Q':LN) (va vt:V),(∃g:Nat->V,vars= [aB n,vl,aB mo,g 3,va,vt,vx,aB i,g 8,g 9,g 10,g 11,g 12,g 13,g 14])/\i<=S.length/\BW n S x i A' Q'/\ESt h hh va vt A' Q'/\PV (λq=>fE va q∨fE vt q) hh vx x/\Q'.length+A.length+1=A'.length+Q.length/\A.length<=A'.length/\k'=S.length-i) S.length
   ⟨0,A,Q.take m,va,vt',aA rfl,lB _,J',st',px',by omega,iI _,rfl⟩ ?_
  clear st' px' J' ptk tt' bt' sl5 Gn fr pa pt ta tt lwa lwt lt5 cx px hct sht vt' g
  rintro k' vars h6 ⟨i,A',Q',va,vt,⟨g,rfl⟩,hi,J,st,px,hcnt,hle,rfl⟩
  have AP': ∀x∈A',bE n x:=λx hx=>(J.gen x hx).dV hS
  have la':=rM n5 (Cf J.asc (n:=n)) AP'
  by_cases hlt:(i:Int)<(S.length:Int)
  case neg=>
   have d2:=iV hlt;obtain rfl:i=S.length:=by omega
   simp(disch:=omega)only[go_sem,lv,d2];exact⟨A',Q',va,vt,aA rfl,J.done,st,by omega,by omega⟩
  have d2:=mO hlt
  have hiS:i<S.length:=by omega
  obtain⟨⟨wa,wt,ta,tt,pa,pt⟩,Gn,fr⟩:=st
  have lwa:=cE.length pa
  have lwt:=cE.length pt
  have cg:h6.cell id (off+i)=some (ws.getD i .undef):=by rw[fr.cell (hid (by omega)),hc i hiS]
  have sg:=(Tn hall hiS).mono fr
  have Gp:bE n (S.getD i []):=hS _ (bD hiS)
  generalize ws.getD i .undef=vg at cg sg
  have X:bE n x:=AP' x J.mem
  simp(disch:=omega)only[go_sem,lv,d2,sh.ixa,cg]
  refine (AX vx vg x _ h6 (by rw[X.len];omega) px.si sg (λj hj=>by rw[Gp.len];exact X.fH (by rw[←X.len];exact hj))).mono ?_
  rintro vy h7 ⟨sy,f7,l7⟩
  obtain⟨y,hy⟩:=exI (aT x (S.getD i []))
  have Y:bE n y:=by rw[←hy];exact X.mul Gp
  rw[hy] at sy
  have ta7:=ta.qM f7.next λq hq=>f7.get q (ta.in hq).2
  have tt7:=tt.qM f7.next λq hq=>f7.get q (tt.in hq).2
  have pa7:=jH.fx pa (Fx.of f7:Fx (λq=>fE va q∨fE vt q) h6 h7)
  have pt7:=jH.fx pt (Fx.of f7:Fx (λq=>fE va q∨fE vt q) h6 h7)
  have px7:=PV.mono px f7
  have hWlt: ∀q,(fE va q∨fE vt q)->q<h6.next:=λq hq=>hq.elim (λh=>(ta.in h).2) (λh=>(tt.in h).2)
  have py7:PV (λq=>fE va q∨fE vt q) h7 vy y:=PV.fresh sy l7 hWlt
  simp(disch:=omega)only[go_sem]
  refine (KS va vy n A' y h7 (by omega) (by omega) AP' Y J.asc (jH.sp' ta7.sv pa7) sy).mono ?_
  rintro _ h8 ⟨k,rfl,pk,_,f8⟩
  have ta8:=ta7.qM f8.next λq hq=>f8.get q (ta7.in hq).2
  have tt8:=tt7.qM f8.next λq hq=>f8.get q (tt7.in hq).2
  have pa8:=jH.fx pa7 (Fx.of f8:Fx (λq=>fE va q∨fE vt q) h7 h8)
  have pt8:=jH.fx pt7 (Fx.of f8:Fx (λq=>fE va q∨fE vt q) h7 h8)
  have px8:=PV.mono px7 f8
  have py8:=PV.mono py7 f8
  have fr8:=(fr.trans f7).trans f8
  by_cases hyA:y∈A'
  ·have d3:decide (y∈A')=true:=decide_eq_true hyA
   simp(disch:=omega)only[go_sem,d3]
   rw[jE i]
   exact⟨S.length-(i+1),by omega,i+1,A',Q',va,vt,aA rfl,by omega,J.skip (by rw[hy];exact hyA),⟨⟨wa,wt,ta8,tt8,pa8,pt8⟩,Gn,fr8⟩,px8,hcnt,hle,rfl⟩
  have d3:decide (y∈A')=false:=decide_eq_false hyA
  have J2:=J.step hS hiS (by rw[hy];exact hyA) (by rw[hy];exact pk)
  rw[hy] at J2
  have la2:=rM n5 (Cf J2.asc (n:=n)) (λx hx=>(J2.gen x hx).dV hS)
  rw[yF] at la2
  have lva:dY va=some (aB (A'.length:Int)):=by unfold dY;rw[SV.len ta8.sv (n:=A'.length) (by omega) (by omega)];rfl
  have la3:=hmo _ (Cf J2.asc (n:=n)) J2.gen
  rw[yF] at la3
  have d4:decide ((mo:Int)<=(A'.length:Int))=false:=iV (by omega)
  have hA0:0<A'.length:=List.length_pos_of_mem J.one
  obtain⟨N,hN⟩:=exI h8.next
  obtain⟨h9,e9,n9,g9,o9,f9⟩:=iL hN [.aC]
  have ow9:=(ta8.own (by omega)).fr f9
  obtain⟨h10,a10,p10⟩:=ow9.push (bytes:=24) (SV.one (by omega) g9 (.kn 1)) (n:=A'.length) (m:=1) (by omega) rfl (by omega) (by omega) (by omega)
  have n10:=p10.next
  rw[n9] at a10
  have hk:=pk.le
  have g10:h10.get (N+1)=bY (wa++ [.aC]):=by rw[←n9];exact p10.get
  obtain⟨hb,ehb,nhb,ghb⟩: ∃hb:H,H.mk h10.tr (h10.next+8)=hb/\hb.next=h10.next+8/\ ∀q,hb.get q=h10.get q:=⟨_,rfl,rfl,λ_=>rfl⟩
  have cp:=TH (k:=k) (by omega) ((ghb (N+1)).trans g10)
  rw[lwa] at cp
  obtain⟨h11,e11,n11,g11,o11⟩:=Fj hb (N+1) ((wa++ [V.aC]).take (k+1)++wa.drop k)
  rw[e11] at cp
  have d5:decide ((k:Int)<0)=false:=iV (by omega)
  have d6:decide (((A'.length+1:Nat):Int)<=(k:Int))=false:=iV (by omega)
  have hl11:((wa++ [V.aC]).take (k+1)++wa.drop k).length=A'.length+1:=by
   rw[oH,Ky,oH,List.length_drop];simp;omega
  have pt1:=aY (vs:=(wa++ [V.aC]).take (k+1)++wa.drop k) (off:=k) (by omega) h11 (N+1) vy
  rw[CF (by omega)] at pt1
  obtain⟨h12,e12,n12,g12,o12⟩:=Fj h11 (N+1) (wa.take k++vy::wa.drop k)
  rw[e12] at pt1
  have cvy:=uV sy
  have fT: ∀q,q<N-> ¬fE va q->h12.get q=h8.get q:=λq h1 h2=>by
   rw[o12 q (by omega),o11 q (by omega),ghb,p10.old q (by omega) (λi o m c e e2=>h2 ⟨o,m,c,e2▸e⟩),o9 q (by omega)]
  have n12':h12.next=N+10:=by omega
  have tt12:=tt8.qM (h':=h12) (by omega) λq hq=>fT q (by have:=(tt8.in hq).2;omega) (λh=>Gn q h hq)
  obtain⟨P,hP⟩:=exI h12.next
  obtain⟨h13,e13,n13,g13,o13,f13⟩:=iL hP [vy]
  have tt13:=tt12.qM f13.next λq hq=>f13.get q (tt12.in hq).2
  have frn:=fr8.next
  obtain⟨vt2,h14,a14,tt14,old14,hn1,hn2,bk14⟩:=tt13.push (S:=P) (c:= .kn 1) (SV.one (by omega) g13 (.kn 1)) (by omega) (by omega)
  simp(disch:=omega)only[go_sem,d3,lva,d4,dP _ (z:= .aC) (v:= .aC) rfl rfl,hN,e9,a10,QN hk,ZL hk,ehb,cp,d5,d6,g11,kS cvy.1 cvy.2,pt1,dP _ (z:= .aC) cvy.1 cvy.2,hP,e13,a14]
  rw[jE i]
  have htN: ∀q,fE vt q->q<N:=λq hq=>by have:=(tt8.in hq).2;omega
  have oldAll: ∀q,q<N-> ¬fE va q-> ¬fE vt q->h14.get q=h8.get q:=λq h1 h2 h3=>by
   rw[old14 q (by omega) h3,f13.get q (by omega)];exact fT q h1 h2
  have xx:Fx (λq=>fE va q∨fE vt q) h8 h14:=⟨by omega,λq h1 h2=>oldAll q (by omega) (λh=>h2 (.inl h)) (λh=>h2 (.inr h))⟩
  have ww: ∀q,q<h8.next->(fE (.sl (N+1) 0 (A'.length+1) (.un 1)) q∨fE vt2 q)->fE va q∨fE vt q:=λq h1 h2=>by
   rcases h2 with ⟨_,_,_,e⟩|h2
   ·cases e;omega
   ·rcases bk14 q h2 with h3|h3
    ·exact .inr h3
    ·omega
  have g14:h14.get (N+1)=bY (wa.take k++vy::wa.drop k):=by
   rw[old14 (N+1) (by omega) (λh=>by have:=htN _ h;omega),f13.get (N+1) (by omega)];exact g12
  have py14:PV (λq=>fE (.sl (N+1) 0 (A'.length+1) (.un 1)) q∨fE vt2 q) h14 vy y:=PV.go py8 xx ww
  have pa14:=jH.Ks (jH.go pa8 xx ww) py14 (k:=k) (by omega)
  have lia:(wa.take k++vy::wa.drop k).length=A'.length+1:=by rw[cE.length pa14,yF]
  refine⟨S.length-(i+1),by omega,i+1,_,_,_,_,aA rfl,by omega,J2,⟨⟨_,_,⟨N+1,_, [],by rw[lia],by omega,by omega,by rw[List.append_nil];exact g14,.inl rfl⟩,tt14,pa14,(jH.go pt8 xx ww).append (jH.one py14)⟩,λq ⟨_,_,_,e⟩ h2=>?_,⟨by omega,λq hq=>?_⟩⟩,PV.go px8 xx ww,by rw[yF,oH];simp;omega,by rw[yF];omega,rfl⟩
  ·cases e
   rcases bk14 _ h2 with h3|h3
   ·have:=htN _ h3;omega
   ·omega
  ·rw[oldAll q (by omega) (λh=>by have:=(ta8.in h).1;omega) (λh=>by have:=(tt8.in h).1;omega)]
   exact fr8.get q hq
 clear st' px' J' ptk tt' bt' sl5 Gn fr pa pt ta tt lwa lwt lt5 cx px hct sht vt' g
 rintro vars h6 ⟨A',Q',va,vt,⟨g,rfl⟩,J,st,hle,hms⟩
 simp(disch:=omega)only[go_sem]
 exact⟨_,hms,A',Q',va,vt,aA rfl,J,st,hle,rfl⟩
end
end Go.Proofs.YtapfcpkecmmagaaGreat
namespace Go.Ay
open Go
set_option maxRecDepth 100000
section
variable {e:Nat×V} {y:V}
def We (o:Option Ob)(h:H)(id:Nat)(s:xC)(zero k:V):Option (V×H):=match o with
 |some (.wmap sh es)=>if s=sh/\isKey s k=true then
   match fN k es with
   |some e=>some (.tup [e.2,.int .i64 (e.1:Nat)],h)
   |none=>some (.tup [zero,.int .i64 es.length],h.set id (some (.wmap sh (es++ [(k,zero)]))))
  else none
 |_=>none
def XY (s:xC)(zero:V)(h:H)(x k:V):Option (V×H):=match x with
 | .mp id=>We (h.get id) h id s zero k
 |_=>none
theorem VF (ρ:X->V)(h:H)(s:xC)(zero:V)(x k:X):cJ ρ h (.ent s zero x k)=XY s zero h (ρ x) (ρ k):=by
 simp only[cJ,XY,We];cases ρ x<;>try rfl
theorem VG (s:xC)(zero:V)(h:H)(id:Nat)(k:V):XY s zero h (.mp id) k=We (h.get id) h id s zero k:=rfl
def CK (o:Option Ob)(h:H)(id:Nat)(n:Int)(y:V):Option (V×H):=match o with
 |some (.wmap sh es)=>if 0<=n then
   match es[n.toNat]? with
   |some e=>some (V.undef,h.set id (some (.wmap sh (es.set n.toNat (e.1,y)))))
   |none=>none
  else none
 |_=>none
def WX (h:H)(x s y:V):Option (V×H):=match x,s with
 | .mp id,.int .i64 n=>CK (h.get id) h id n y
 |_,_=>none
theorem UM (ρ:X->V)(h:H)(x s y:X):cJ ρ h (.ens x s y)=WX h (ρ x) (ρ s) (ρ y):=by
 simp only[cJ,WX,CK];cases ρ x<;>try rfl
theorem SJ (h:H)(id:Nat)(n:Int)(y:V):WX h (.mp id) (.int .i64 n) y=CK (h.get id) h id n y:=rfl
attribute [go_sem] VF VG UM SJ
section
variable {κ:Type} [DecidableEq κ]
def Bc:List (κ×V)->κ->Option (Nat×V)
 | [],_=>none
 |p::l,a=>if a=p.1 then some (0,p.2) else (Bc l a).map λq=>(q.1+1,q.2)
def iM (enc:κ->V)(l:List (κ×V)):List (V×V):=l.map λp=>(enc p.1,p.2)
def Kq (l:List (κ×V))(a:κ):Option V:=(Bc l a).map (·.2)
def Ps (l:List (κ×V))(a:κ)(y:V):List (κ×V):=match Bc l a with
 |some e=>l.set e.1 (a,y)
 |none=>l++ [(a,y)]
theorem zD {enc:κ->V}{P:κ->Prop}(he: ∀a b,P a->P b->eM (enc a) (enc b)=decide (a=b)){a:κ}(ha:P a): ∀{l:List (κ×V)},(∀p∈l,P p.1)->fN (enc a) (iM enc l)=Bc l a
 | [],_=>rfl
 |p::l,h=>by
  show (if eM (enc a) (enc p.1) then some (0,p.2) else (fN (enc a) (iM enc l)).map λq=>(q.1+1,q.2))=if a=p.1 then some (0,p.2) else (Bc l a).map λq=>(q.1+1,q.2)
  rw[he a p.1 ha (h p (by simp)),zD he ha λq hq=>h q (by simp [hq])]
  by_cases e:a=p.1<;>simp [e]
theorem GV {l:List (κ×V)}{a:κ}(h:Bc l a=some e):l[e.1]? =some (a,e.2):=by
 induction l generalizing e with
 |nil=>cases h
 |cons p l ih=>
  rw[Bc] at h
  by_cases c:a=p.1
  ·rw[if_pos c] at h
   cases h;simp [c]
  ·rw[if_neg c] at h
   obtain⟨q,hq,rfl⟩:=kW.1 h;simpa using ih hq
theorem TQ (a:κ)(l m:List (κ×V))(h:Bc l a=none):Bc (l++m) a=(Bc m a).map λq=>(q.1+l.length,q.2):=by
 induction l with
 |nil=>cases hm:Bc m a<;>simp [hm]
 |cons p l ih=>
  rw[Bc] at h
  by_cases c:a=p.1
  ·rw[if_pos c] at h;cases h
  ·rw[if_neg c] at h
   have h':Bc l a=none:=by cases hl:Bc l a with|none=>rfl|some x=>rw[hl] at h;cases h
   rw[List.cons_append,Bc,if_neg c,ih h',Option.map_map]
   rfl
theorem Oz (a:κ)(l m:List (κ×V))(h:Bc l a=some e):Bc (l++m) a=some e:=by
 induction l generalizing e with
 |nil=>cases h
 |cons p l ih=>
  rw[Bc] at h;rw[List.cons_append,Bc]
  by_cases c:a=p.1
  ·rw[if_pos c] at h ⊢;exact h
  ·rw[if_neg c] at h ⊢
   obtain⟨q,hq,rfl⟩:=kW.1 h;rw[ih hq];rfl
theorem UO (l:List (κ×V)){a:κ}(y:V)(h:Bc l a=some e)(b:κ):Kq (l.set e.1 (a,y)) b=if b=a then some y else Kq l b:=by
 unfold Kq
 induction l generalizing e with
 |nil=>cases h
 |cons p l ih=>
  rw[Bc] at h
  by_cases c:a=p.1
  ·rw[if_pos c] at h
   cases h;show Option.map _ (if b=a then some (0,y) else (Bc l b).map λq=>(q.1+1,q.2))=_
   by_cases d:b=a
   ·rw[if_pos d,if_pos d];rfl
   ·rw[if_neg d,if_neg d,Bc,if_neg (by rw[←c];exact d)]
  ·rw[if_neg c] at h
   obtain⟨q,hq,rfl⟩:=kW.1 h;have ih:=ih hq;show Option.map _ (if b=p.1 then some (0,p.2) else (Bc (l.set q.1 (a,y)) b).map λq=>(q.1+1,q.2))=_
   by_cases d:b=p.1
   ·rw[if_pos d,if_neg (by rw[d];exact λe=>c e.symm),Bc,if_pos d]
   ·rw[if_neg d,Option.map_map,Bc,if_neg d,Option.map_map]
    exact ih
theorem Gj (l:List (κ×V))(a:κ)(y:V)(b:κ):Kq (Ps l a y) b=if b=a then some y else Kq l b:=by
 unfold Ps
 cases h:Bc l a with
 |some e=>exact UO l y h b
 |none=>
  show Kq (l++ [(a,y)]) b=_;unfold Kq
  cases hb:Bc l b with
  |some e=>
   rw[Oz b l _ hb,if_neg (λe=>by rw[e,h] at hb;cases hb)]
  |none=>
   rw[TQ b l _ hb];show Option.map _ (Option.map _ (if b=a then some (0,y) else none))=_
   by_cases d:b=a
   ·rw[if_pos d,if_pos d];rfl
   ·rw[if_neg d,if_neg d];rfl
theorem Di {P:κ->Prop}{l:List (κ×V)}{a:κ}(ha:P a)(hl: ∀p∈l,P p.1): ∀p∈Ps l a y,P p.1:=by
 unfold Ps;intro p hp;split at hp
 ·rcases List.mem_or_eq_of_mem_set hp with h|rfl
  ·exact hl p h
  ·exact ha
 ·rcases Gl.1 hp with h|h
  ·exact hl p h
  ·rw[List.mem_singleton.1 h];exact ha
omit [DecidableEq κ] in
theorem Km {enc:κ->V}{l:List (κ×V)}{k:Nat}{a:κ}:(iM enc l).set k (enc a,y)=iM enc (l.set k (a,y)):=by
 unfold iM;rw[List.map_set]
omit [DecidableEq κ] in
theorem Ni {enc:κ->V}{l:List (κ×V)}{a:κ}:iM enc l++ [(enc a,y)]=iM enc (l++ [(a,y)]):=by
 unfold iM;rw[List.map_append];rfl
theorem NO {enc:κ->V}{P:κ->Prop}(he: ∀a b,P a->P b->eM (enc a) (enc b)=decide (a=b)){s:xC}(hk: ∀a,P a->isKey s (enc a)=true){l:List (κ×V)}(hl: ∀p∈l,P p.1){a:κ}(ha:P a)(y:V)(h:H)(id:Nat):
  Yd (some (.wmap s (iM enc l))) h id s (enc a) y=some (.undef,h.set id (some (.wmap s (iM enc (Ps l a y))))):=by
 simp only[Yd]
 rw[if_pos ⟨trivial,hk a ha⟩,zD he ha hl]
 unfold Ps
 cases Bc l a with
 |some e=>simp only[Km]
 |none=>simp only[Ni]
theorem tA {enc:κ->V}{P:κ->Prop}(he: ∀a b,P a->P b->eM (enc a) (enc b)=decide (a=b)){s:xC}(hk: ∀a,P a->isKey s (enc a)=true){l:List (κ×V)}(hl: ∀p∈l,P p.1){a:κ}(ha:P a)(z:V):
  Lh (some (.wmap s (iM enc l))) s z false (enc a)=some ((Kq l a).getD z):=by
 simp only[Lh]
 rw[if_pos ⟨trivial,hk a ha⟩,zD he ha hl]
 unfold Kq
 cases Bc l a<;>rfl
theorem Ze {enc:κ->V}{P:κ->Prop}(he: ∀a b,P a->P b->eM (enc a) (enc b)=decide (a=b)){s:xC}(hk: ∀a,P a->isKey s (enc a)=true){l:List (κ×V)}(hl: ∀p∈l,P p.1){a:κ}(ha:P a)(z y:V)(h:H)(id:Nat)(hg:h.get id=some (.wmap s (iM enc l))):
  ∃(v:V) (n:Nat) (l1:List (κ×V)) (h1:H),We (some (.wmap s (iM enc l))) h id s z (enc a)=some (.tup [v,.int .i64 (n:Int)],h1)/\h1.next=h.next/\(∀k,k≠id->h1.get k=h.get k)/\h1.get id=some (.wmap s (iM enc l1))/\(∀p∈l1,P p.1)/\(∀b,(Kq l1 b).getD z=(Kq l b).getD z)/\
   ∀hh,CK (some (.wmap s (iM enc l1))) hh id (n:Int) y=some (.undef,hh.set id (some (.wmap s (iM enc (Ps l a y))))):=by
 have hw:=zD he ha hl
 unfold Ps
 cases hx:Bc l a with
 |some e=>
  rw[hx] at hw;refine⟨e.2,e.1,l,h,?_,rfl,λ_ _=>rfl,hg,hl,λ_=>rfl,λhh=>?_⟩
  ·simp only[We];rw[if_pos ⟨trivial,hk a ha⟩,hw]
  ·have hs:=GV hx
   have:(iM enc l)[(e.1:Int).toNat]? =some (enc a,e.2):=by
    rw[Int.toNat_natCast];unfold iM;rw[List.getElem?_map,hs];rfl
   simp only[CK];rw[if_pos (by omega),this];simp only[Int.toNat_natCast,Km]
 |none=>
  rw[hx] at hw;refine⟨z,l.length,l++ [(a,z)],h.set id (some (.wmap s (iM enc (l++ [(a,z)])))),?_,rfl,λk hk=>H.aH _ hk _,H.aQ ..,?_,λb=>?_,λhh=>?_⟩
  ·simp only[We]
   rw[if_pos ⟨trivial,hk a ha⟩,hw];simp only[Ni];rw[show (iM enc l).length=l.length from by unfold iM;rw[rF]]
  ·intro p hp
   rcases Gl.1 hp with h|h
   ·exact hl p h
   ·rw[List.mem_singleton.1 h];exact ha
  ·have:=Gj l a z b
   unfold Ps at this;rw[hx] at this;have this:Kq (l++ [(a,z)]) b=if b=a then some z else Kq l b:=this
   rw[this]
   by_cases d:b=a
   ·rw[if_pos d,d];unfold Kq;rw[hx];rfl
   ·rw[if_neg d]
  ·have:(iM enc (l++ [(a,z)]))[(l.length:Int).toNat]? =some (enc a,z):=by
    rw[Int.toNat_natCast];unfold iM;rw[List.getElem?_map];simp
   simp only[CK];rw[if_pos (by omega),this];simp only[Int.toNat_natCast,Km];simp
end
end
end Go.Ay
namespace Go.Proofs.YtapfcpkecmmagaaGreat
open Go Go.Ay Go.Pm
set_option maxRecDepth 100000
section
variable {h:H} {n:Nat}
theorem VP:([.int .u8 0,.int .u8 0,.int .u8 0,.int .u8 0,.int .u8 0,.int .u8 0,.int .u8 0,.int .u8 0,.int .u8 0,.int .u8 0,.int .u8 0,.int .u8 0,.int .u8 0,.int .u8 0,.int .u8 0,.int .u8 0,.int .u8 0,.int .u8 0,.int .u8 0,.int .u8 0,.int .u8 0,.int .u8 0,.int .u8 0,.int .u8 0,.int .u8 0,.int .u8 0,.int .u8 0,.int .u8 0,.int .u8 0,.int .u8 0,.int .u8 0,.int .u8 0,.int .u8 0,.int .u8 0,.int .u8 0,.int .u8 0,.int .u8 0,.int .u8 0,.int .u8 0,.int .u8 0,.int .u8 0,.int .u8 0,.int .u8 0,.int .u8 0,.int .u8 0,.int .u8 0,.int .u8 0,.int .u8 0,.int .u8 0,.int .u8 0,.int .u8 0,.int .u8 0,.int .u8 0,.int .u8 0,.int .u8 0,.int .u8 0,.int .u8 0,.int .u8 0,.int .u8 0,.int .u8 0,.int .u8 0,.int .u8 0,.int .u8 0,.int .u8 0]:List V)=rc 64 λ_=> .int .u8 0:=rfl
def Qt (x:List Nat):V:= .agg (rc 64 λi=> .int .u8 ((x.getD i 0:Nat):Int))
theorem Gz {id:Nat}{ws:List V}(hl:ws.length=n)(hg:h.get id=some (.cells false ws)):h.row id 0 n=some ws:=by
 unfold H.row;rw[hg];simp only[sub];rw[if_pos (by omega),List.drop_zero,List.take_of_length_le (by omega)]
theorem Tt {vs ws:List V}(h1:vs.length=n)(h2:ws.length=n)(h:H)(id:Nat):fL (some (.cells false vs)) h id 0 ws=some (h.set id (some (.cells false ws))):=by
 simp only[fL,putAt];rw[if_pos (by omega),Option.map_some,List.take_zero,List.nil_append,List.drop_of_length_le (by omega),List.append_nil]
theorem GM {f:Nat->V}(hf: ∀i,(f i).one=true):(rc n f).all V.one=true:=by
 rw[List.all_eq_true];intro v hv;obtain⟨i,_,rfl⟩:=vT.1 hv;exact hf i
set_option maxHeartbeats 8000000
theorem Br (u:V)(n:Nat)(x:List Nat)(h:H)(hn:n<=64)(X:bE n x)(hu:SI h u (zi x)):
  Ev T 40 [u] h (λv h'=>v=Qt x/\Fr h h'):=by
 refine bL qF rfl rfl ?_
 have lx:=X.len
 have lu:=hu.lens
 rw[aS,lx] at lu
 obtain⟨id,off,sh,hid,hc⟩:=hu.open
 rw[aS,lx] at sh hid hc
 obtain⟨A,hA⟩:=exI h.next
 obtain⟨h1,e1,n1,g1,o1,f1⟩:=iL hA (rc 64 λ_=> .int .u8 0)
 obtain⟨h2,e2,n2,g2,o2,f2⟩:=iL n1 (rc 64 λ_=> .int .u8 0)
 simp(disch:=omega)only[go_sem,qF,aE,VP,hA,e1,n1,e2,lu]
 refine aJ (λk' vars hh=> ∃(i:Nat),(∃j:Nat->V,vars= [j 0,.ptr A 0,.ptr (A+1) 0,j 3,j 4,u,aB n,aB i,j 8])/\i<=n/\
   hh.get (A+1)=some (.cells false (rc 64 λj=> .int .u8 ((if j<i then x.getD j 0 else 0:Nat):Int)))/\hh.get A=some (.cells false (rc 64 λ_=> .int .u8 0))/\hh.next=A+1+1/\Fr h hh/\k'=n-i) n
  ⟨0,aA rfl,lB _,g2,by rw[o2 A (by omega)];exact g1,n2,f1.trans f2,rfl⟩ ?_
 rintro k' vars h3 ⟨i,⟨j,rfl⟩,hi,gB,gA,n3,F,rfl⟩
 by_cases hlt:(i:Int)<(n:Int)
 ·have d1:=mO hlt
  have hi':i<n:=by omega
  have ci:h3.cell id (off+i)=some (aB (x.getD i 0:Nat)):=by rw[F.cell (hid (by omega)),hc i hi'];congr 2;simp [zi,lx,hi']
  have r:x.getD i 0<n:=X.fH hi'
  obtain⟨p,hp⟩:=exI (x.getD i 0)
  rw[hp] at ci r
  have pt:=aY (vs:=rc 64 λj=> .int .u8 ((if j<i then x.getD j 0 else 0:Nat):Int)) (off:=i) (by rw[dJ];omega) h3 (A+1) (.int .u8 (p:Int))
  rw[iX] at pt
  simp(disch:=omega)only[go_sem,d1,sh.ixa,ci,sF,gB,pt]
  rw[jE i]
  refine⟨n-(i+1),by omega,i+1,aA rfl,by omega,?_,?_,n3,F.set (by omega) _,rfl⟩
  ·congr 2
   refine bI λj hj=>?_
   by_cases e:j=i
   ·rw[if_pos e,if_pos (by omega),e,hp]
   ·rw[if_neg e]
    by_cases e2:j<i
    ·rw[if_pos e2,if_pos (by omega)]
    ·rw[if_neg e2,if_neg (by omega)]
  ·exact gA
 have d1:=iV hlt
 obtain rfl:i=n:=by omega
 have rr:=Gz (n:=64) (by rw[dJ]) gB
 have ek:(rc 64 λj=>V.int .u8 ((if j<i then x.getD j 0 else 0:Nat):Int))=rc 64 λj=> .int .u8 ((x.getD j 0:Nat):Int):=by
  refine bI λj hj=>?_
  by_cases e:j<i
  ·rw[if_pos e]
  ·rw[if_neg e,List.getD_eq_getElem?_getD,List.getElem?_eq_none (by omega)];rfl
 rw[ek] at rr
 have pa:=Tt (vs:=rc 64 λ_=> .int .u8 0) (ws:=rc 64 λj=> .int .u8 ((x.getD j 0:Nat):Int)) (n:=64) (by rw[dJ]) (by rw[dJ]) h3 A
 have sa:=zH h3 A 0 64 (rc 64 λj=> .int .u8 ((x.getD j 0:Nat):Int)) (by rw[dJ]) (GM λ_=>rfl)
 simp(disch:=omega)only[go_sem,d1,rr,sa,gA,pa]
 have ra:=Gz (h:=h3.set A (some (.cells false (rc 64 λj=> .int .u8 ((x.getD j 0:Nat):Int))))) (n:=64) (by rw[dJ]) (H.aQ ..)
 simp(disch:=omega)only[go_sem,ra]
 exact⟨rfl,F.set (by omega) _⟩
theorem PR (u w:V)(n:Nat)(x y:List Nat)(h:H)(hn:n<=64)(X:bE n x)(Y:bE n y)(hu:SI h u (zi x))(hw:SI h w (zi y)):
  Ev T 80 [u,w] h (λv h'=>v=Qt (aT (cM x) y)/\Fr h h'):=by
 refine bL mM rfl rfl ?_
 have lx:=X.len
 have lu:=hu.lens
 rw[aS,lx] at lu
 obtain⟨id,off,sh,hid,hc⟩:=hu.open
 rw[aS,lx] at sh hid hc
 have ly:=Y.len
 obtain⟨idy,offy,shy,hidy,hcy⟩:=hw.open
 rw[aS,ly] at shy hidy hcy
 have Q:=X.inv.mul Y
 obtain⟨A,hA⟩:=exI h.next
 obtain⟨h1,e1,n1,g1,o1,f1⟩:=iL hA (rc 64 λ_=> .int .u8 0)
 obtain⟨h2,e2,n2,g2,o2,f2⟩:=iL n1 (rc 64 λ_=> .int .u8 0)
 simp(disch:=omega)only[go_sem,mM,aE,VP,hA,e1,n1,e2,lu]
 refine aJ (λk' vars hh=> ∃(i:Nat),(∃j:Nat->V,vars= [j 0,w,.ptr A 0,.ptr (A+1) 0,j 4,j 5,u,aB n,aB i,j 9])/\i<=n/\
   hh.get (A+1)=some (.cells false (rc 64 λj=> .int .u8 ((if x.idxOf j<i then (aT (cM x) y).getD j 0 else 0:Nat):Int)))/\hh.get A=some (.cells false (rc 64 λ_=> .int .u8 0))/\hh.next=A+1+1/\Fr h hh/\k'=n-i) n
  ⟨0,aA rfl,lB _,g2,by rw[o2 A (by omega)];exact g1,n2,f1.trans f2,rfl⟩ ?_
 rintro k' vars h3 ⟨i,⟨j,rfl⟩,hi,gB,gA,n3,F,rfl⟩
 by_cases hlt:(i:Int)<(n:Int)
 ·have d1:=mO hlt
  have hi':i<n:=by omega
  have ci:h3.cell id (off+i)=some (aB (x.getD i 0:Nat)):=by rw[F.cell (hid (by omega)),hc i hi'];congr 2;simp [zi,lx,hi']
  have r:x.getD i 0<n:=X.fH hi'
  obtain⟨p,hp⟩:=exI (x.getD i 0)
  rw[hp] at ci r
  have cy:h3.cell idy (offy+i)=some (aB (y.getD i 0:Nat)):=by rw[F.cell (hidy (by omega)),hcy i hi'];congr 2;simp [zi,ly,hi']
  have r2:y.getD i 0<n:=Y.fH hi'
  have ip:x.idxOf p=i:=by rw[←qW (by omega),←hp];exact sE X hi'
  have qp:(aT (cM x) y).getD p 0=y.getD i 0:=by rw[cT (by rw[X.inv.len];exact r),←hp,sE X hi']
  obtain⟨q,hq⟩:=exI (y.getD i 0)
  rw[hq] at cy r2 qp
  have pt:=aY (vs:=rc 64 λj=> .int .u8 ((if x.idxOf j<i then (aT (cM x) y).getD j 0 else 0:Nat):Int)) (off:=p) (by rw[dJ];omega) h3 (A+1) (.int .u8 (q:Int))
  rw[iX] at pt
  simp(disch:=omega)only[go_sem,d1,sh.ixa,ci,shy.ixa,cy,sF,gB,pt]
  rw[jE i]
  refine⟨n-(i+1),by omega,i+1,aA rfl,by omega,?_,?_,n3,F.set (by omega) _,rfl⟩
  ·congr 2
   refine bI λj hj=>?_
   by_cases e:j=p
   ·rw[if_pos e,if_pos (by rw[e,ip];omega),e,qp]
   ·rw[if_neg e]
    have ne:x.idxOf j≠i:=λh=>e (by
     by_cases hjn:j<n
     ·rw[←hp,←h,←qW (by omega),YP X hjn]
     ·have:x.idxOf j=x.length:=List.idxOf_eq_length λhm=>hjn (X.lt j hm)
      omega)
    by_cases e2:x.idxOf j<i
    ·rw[if_pos e2,if_pos (by omega)]
    ·rw[if_neg e2,if_neg (by omega)]
  ·exact gA
 have d1:=iV hlt
 obtain rfl:i=n:=by omega
 have rr:=Gz (n:=64) (by rw[dJ]) gB
 have ek:(rc 64 λj=>V.int .u8 ((if x.idxOf j<i then (aT (cM x) y).getD j 0 else 0:Nat):Int))=rc 64 λj=> .int .u8 (((aT (cM x) y).getD j 0:Nat):Int):=by
  refine bI λj hj=>?_
  by_cases e:x.idxOf j<i
  ·rw[if_pos e]
  ·have hjn: ¬j<i:=λhjn=>e (by rw[←qW (by omega)];exact X.inv.fH hjn)
   rw[if_neg e,List.getD_eq_getElem?_getD,List.getElem?_eq_none (by rw[Q.len];omega)];rfl
 rw[ek] at rr
 have pa:=Tt (vs:=rc 64 λ_=> .int .u8 0) (ws:=rc 64 λj=> .int .u8 (((aT (cM x) y).getD j 0:Nat):Int)) (n:=64) (by rw[dJ]) (by rw[dJ]) h3 A
 have sa:=zH h3 A 0 64 (rc 64 λj=> .int .u8 (((aT (cM x) y).getD j 0:Nat):Int)) (by rw[dJ]) (GM λ_=>rfl)
 simp(disch:=omega)only[go_sem,d1,rr,sa,gA,pa]
 have ra:=Gz (h:=h3.set A (some (.cells false (rc 64 λj=> .int .u8 (((aT (cM x) y).getD j 0:Nat):Int))))) (n:=64) (by rw[dJ]) (H.aQ ..)
 simp(disch:=omega)only[go_sem,ra]
 exact⟨rfl,F.set (by omega) _⟩
theorem Cz {v:V}{L:LN}(s:SP h v L):dY v=some (aB (L.length:Int))/\eM v v=true/\ ∃(id off:Nat) (ws:List V),Sl v 1 L.length id off/\ ∀i,i<L.length->id<h.next/\h.cell id (off+i)=some (ws.getD i V.undef)/\SI h (ws.getD i V.undef) (zi (L.getD i [])):=by
 have lv:=s.lens;rw[rF] at lv;obtain⟨id,off,ws,sh,hid,hwl,hc,hall⟩:=s.open;rw[rF] at sh hid hwl hc;obtain⟨ws',sv',_⟩:=s;exact⟨lv,SV.eM sv',id,off,ws,sh,λi hi=>⟨hid (by omega),hc i hi,Tn hall hi⟩⟩
theorem Tb {α:Type}(f g:α->V): ∀l:List α,rX (l.map f) (l.map g)=l.all λi=>eM (f i) (g i)
 | []=>rfl
 |a::l=>by
  rw[List.map_cons,List.map_cons,List.all_cons,←Tb f g l]
  rfl
theorem Jj (hn:n<=64)(a b:List Nat)(A:bE n a)(B:bE n b):eM (Qt a) (Qt b)=decide (a=b):=by
 show rX (rc 64 _) (rc 64 _)=_;unfold rc;rw[Tb,Bool.eq_iff_iff,List.all_eq_true,decide_eq_true_iff];constructor
 ·intro h
  refine List.ext_getElem (by rw[A.len,B.len]) λi h1 h2=>?_
  have:=h i (Hm.2 (by have:=A.len;omega));have e:((a.getD i 0:Nat):Int)=((b.getD i 0:Nat):Int):=by simpa [eM] using this
  rw[Pm.cK h1,Pm.cK h2] at e;omega
 ·rintro rfl i _
  simp [eM]
theorem Cn (hn:n<=64)(a:List Nat)(A:bE n a):isKey (.arr 64 .u8) (Qt a)=true:=by
 unfold isKey Qt;simp only;rw[dJ,decide_eq_true rfl,Bool.true_and,List.all_eq_true];intro v hv;obtain⟨i,hi,rfl⟩:=vT.1 hv
 have:a.getD i 0<256:=by
  by_cases h:i<a.length
  ·have:=A.fH (i:=i) (by rw[←A.len];exact h);omega
  ·rw[List.getD_eq_getElem?_getD,List.getElem?_eq_none (by omega)];decide
 have e1:IntKind.min .u8=0:=rfl;have e2:IntKind.max .u8=255:=rfl;simp only[e1,e2,Bool.and_eq_true,decide_eq_true_iff];exact⟨trivial,by omega,by omega⟩
structure Ka (n:Nat)(G:List Nat->Prop)(L:LN)(K:List Nat)(hh:H)(D:Nat):Prop where
 ex: ∃vL vC M l ks,hh.get D=some (.cells false [vL,vC,.mp M])/\D<hh.next/\M<hh.next/\SP hh vL L/\SV hh vC 3 (qT ks)/\cE (KR n G L hh) ks K/\hh.get M=some (.wmap (.arr 64 .u8) (iM Qt l))/\(∀p∈l,bE n p.1)/\ ∀i,i<L.length->Kq l (L.getD i [])=some (aB (iD G L K i:Nat))
theorem Ka.mono {G:List Nat->Prop}{L:LN}{K:List Nat}{h':H}{D:Nat}(d:Ka n G L K h D)(f:Fr h h'):Ka n G L K h' D:=by
 obtain⟨vL,vC,M,l,ks,g,hD,hM,sL,sC,al,gM,kl,lk⟩:=d.ex;exact⟨vL,vC,M,l,ks,by rw[f.get _ hD];exact g,kL hD f.next,kL hM f.next,sL.mono f,sC.mono f,al.mono λ_ _ k=>KR.mono k f,by rw[f.get _ hM];exact gM,kl,lk⟩
theorem LF (D:Nat)(u:V)(n:Nat)(G:List Nat->Prop)(L:LN)(K:List Nat)(x:List Nat)(h:H)(hn:n<=64)(d:Ka n G L K h D)(X:bE n x)(hx:x∈L)(hu:SI h u (zi x)):
  Ev T 47 [.ptr D 0,u] h (λv h'=>v= aB (iD G L K (L.idxOf x):Nat)/\Fr h h'):=by
 refine bL lI rfl rfl ?_
 obtain⟨vL,vC,M,l,ks,g,hD,hM,sL,sC,al,gM,kl,lk⟩:=d.ex
 have eu:=hu.eM
 simp(disch:=omega)only[go_sem,lI,aE,H.aF g]
 have fb:=(Fr.refl h).bM (n:=h.next+8) (by omega)
 refine (Br u n x _ hn X (hu.mono fb)).mono ?_
 rintro _ h1 ⟨rfl,f1⟩
 have F:=fb.trans f1
 have g1:h1.get D=some (.cells false [vL,vC,.mp M]):=by rw[F.get _ hD];exact g
 have gM1:h1.get M=some (.wmap (.arr 64 .u8) (iM Qt l)):=by rw[F.get _ hM];exact gM
 have hl:=List.idxOf_lt_length_of_mem hx
 have hxe:L.getD (L.idxOf x) []=x:=by rw[List.getD_eq_getElem?_getD,gW hl];exact List.getElem_idxOf hl
 have lk':=lk (L.idxOf x) hl
 rw[hxe] at lk'
 have lo:=λz=>tA (Jj hn) (λa A=>Cn hn a A) (P:=bE n) kl X z
 rw[lk'] at lo
 simp(disch:=omega)only[go_sem,H.aF g1,eu,gM1,lo]
 exact⟨by simp [eM],rfl,F⟩
end
set_option maxHeartbeats 16000000
theorem QJ {v:V}(M:Nat)(hv:v.cells= [v])(h1:v.one=true):uC [.aC,.aC,.nilm] [(1,1,v),(2,1,.mp M)]=some (.agg [.aC,v,.mp M]):=by
 simp [uC,jK,putAt,hv,h1,show (V.mp M).cells= [V.mp M] from rfl,show (V.mp M).one=true from rfl]
theorem Gt {W0:Nat->Prop}(vc:V)(n:Nat)(O:LN)(R:oV)(G:List Nat->Prop)(h:H)(gc:GC W0 h vc n O R G)(L:LN)(hL:cX O R n 0 (bH n)=L):
  Ev T 38 [vc] h (λv h'=> ∃K,Bi n G L K/\Fr h h'/\(64<K.length/\v= .tup [.nilp,aB 5]∨K.length<=64/\ ∃D,v= .tup [.ptr D 0,aB 0]/\Ka n G L K h' D)):=by
 have gc0:=gc
 obtain⟨vO,vR,rfl,sO,sR⟩:=gc.ch
 refine bL rQ rfl rfl ?_
 have oneO:vO.one=true:=PE sO
 have oneR:vR.one=true:=PC sR
 have n7:=gc.n7
 have hG:=gc.nH
 obtain⟨E,ll⟩:=jN gc.nH gc.isc
 have ll5:=nI gc
 rw[hL] at E ll
 obtain⟨B,hB⟩:=exI h.next
 obtain⟨h1,e1,n1,g1,o1,f1⟩:=iL hB [aB n,vO,vR]
 have bx:=eZ h (v:= aB n) (u:=vO) (w:=vR) rfl oneO oneR
 have rB: ∀hh,Fr h1 hh->hh.row B 0 3=some [aB n,vO,vR]:=λhh f=>bW (by rw[f.get B (by omega)];exact g1)
 simp(disch:=omega)only[go_sem,rQ,aE,bx,hB,e1,rB h1 (Fr.refl _)]
 refine (Te _ n O R G h1 (gc0.mono f1) L hL).mono ?_
 rintro _ h2 ⟨v4,K,ks,rfl,ik,s4,a4,f2⟩
 have lks:=cE.length a4
 have hwm:K.length<=5040:=by
  rw[ik.perm.length_eq];unfold jR;exact Nat.le_trans (List.length_filter_le _ _) (by rw[List.length_range];omega)
 have lv4:dY v4=some (aB (K.length:Int)):=by unfold dY;rw[SV.len s4 (n:=ks.length) (zA ks) (by omega),lks];rfl
 have w4:=s4.dU
 simp(disch:=omega)only[go_sem]
 refine aX (λhc=>(hc rfl).elim) (λ_=>?_)
 by_cases h64:(64:Int)<(K.length:Int)
 ·have d1:decide ((64:Int)<(K.length:Int))=true:=decide_eq_true h64
  simp(disch:=omega)only[go_sem,lv4,d1]
  exact⟨K,ik,f1.trans f2,.inl ⟨by omega,trivial⟩⟩
 have d1:decide ((64:Int)<(K.length:Int))=false:=decide_eq_false h64
 obtain⟨M,hM⟩:=exI h2.next
 obtain⟨h3,e3⟩:=exI (h2.new (.wmap (.arr 64 .u8) []))
 have n3:h3.next=M+1:=by rw[←e3,H.aU,hM]
 have g3:h3.get M=some (.wmap (.arr 64 .u8) []):=by rw[←e3,←hM];exact H.aL h2 _
 have o3: ∀k,k≠M->h3.get k=h2.get k:=λk hk=>by rw[←e3];exact H.bB h2 (by omega) _
 obtain⟨h4,e4,n4,g4,o4,f4⟩:=iL n3 [.aC,v4,.mp M]
 have F24:Fr h2 h4:=⟨by omega,λq hq=>by rw[o4 q (by omega),o3 q (by omega)]⟩
 have F14:=f2.trans F24
 have ba:=uX h3 [.aC,v4,.mp M] (by simp [w4.2.1,show V.aC.one=true from rfl,show (V.mp M).one=true from rfl])
 simp(disch:=omega)only[go_sem,lv4,d1,hM,e3,QJ M w4.1 w4.2.1,ba,n3,e4,rB h4 F14]
 refine (BD _ n O R G h4 (gc0.mono (f1.trans F14))).mono ?_
 rw[hL]
 rintro _ h5 ⟨vL,rfl,nw⟩
 have pl:=nw.pl
 have f5:=nw.fr
 have wL:vL.cells= [vL]/\vL.one=true:=by obtain⟨ws,s,_⟩:=pl;exact⟨s.dU.1,s.dU.2.1⟩
 have n5:=f5.next
 have g5:h5.get (M+1)=bY [.aC,v4,.mp M]:=by rw[f5.get _ (by omega)];exact g4
 obtain⟨h6,e6,n6,g6,o6⟩:=Fj h5 (M+1) [vL,v4,.mp M]
 have p6:fL (bY [.aC,v4,.mp M]) h5 (M+1) 0 [vL]=some h6:=by rw[aY (by simp),←e6];rfl
 have F26:Fr h2 h6:=⟨by omega,λq hq=>by rw[o6 q (by omega),f5.get q (by omega)];exact F24.get q hq⟩
 have F16:=f2.trans F26
 simp(disch:=omega)only[go_sem,g5,kS wL.1 wL.2,p6,rB h6 F16]
 refine (aaC _ n O R G h6 (gc0.mono (f1.trans F16)) L hL).mono ?_
 rintro _ h7 ⟨v7,K',rfl,ik',s7,f7⟩
 obtain rfl:=ik.uniq ik'
 have n7':=f7.next
 have F27:=F26.trans f7
 have g7:h7.get (M+1)=bY [vL,v4,.mp M]:=by rw[f7.get _ (by omega)];exact g6
 have gM7:h7.get M=some (.wmap (.arr 64 .u8) []):=by rw[f7.get _ (by omega),o6 _ (by omega),f5.get _ (by omega),o4 _ (by omega)];exact g3
 have pl7:PL (λid=>id<h4.next) h7 vL L:=by
  refine PL.go pl ⟨by omega,λid h1 h2=>?_⟩ (λid h1 h2=>h2);rw[f7.get _ (by omega),o6 _ (by omega)]
 have sL7:=pl7.sp
 obtain⟨lvL,eL,idL,offL,ws,shL,cL⟩:=Cz sL7
 have lnM:(zi (xP G L K)).length=L.length:=by rw[aS];simp [xP]
 obtain⟨idN,offN,shN,hidN,hcN⟩:=s7.open
 rw[lnM] at shN hidN hcN
 have e7':=s7.eM
 simp(disch:=omega)only[go_sem,H.aF g7,lvL]
 have nM: ∀{id off:Nat} {v:V},h7.cell id off=some v->id≠M:=λhc e=>by
  rw[e] at hc;unfold H.cell at hc;rw[gM7] at hc;cases hc
 refine aJ (λk' vars hh=> ∃(i:Nat) (l:List (List Nat×V)),(∃g:Nat->V,vars= [g 0,g 1,g 2,g 3,g 4,g 5,.ptr (M+1) 0,v7,g 8,g 9,g 10,g 11,vL,aB (L.length:Int),aB i,g 15])/\i<=L.length/\hh.get M=some (.wmap (.arr 64 .u8) (iM Qt l))/\(∀p∈l,bE n p.1)/\(∀j,j<i->Kq l (L.getD j [])=some (aB (iD G L K j:Nat)))/\Fx (· =M) h7 hh/\k'=L.length-i) L.length
  ⟨0, [],aA rfl,lB _,gM7,λ_ h=>(by cases h),λj hj=>(by omega),Fx.refl _ _,rfl⟩ ?_
 rintro k' vars h8 ⟨i,l,⟨g,rfl⟩,hi,gM,kl,lk,F,rfl⟩
 have n8:=F.next
 have F28:Fr h2 h8:=⟨by omega,λq hq=>by rw[F.get q (by omega) (by show q≠M;omega)];exact F27.get q hq⟩
 have pl8:PL (λid=>id<h4.next) h8 vL L:=PL.go pl7 ⟨n8,λid h1 h2=>F.get id h1 (λe=>h2 (by rw[e];show M<h4.next;omega))⟩ (λid h1 h2=>h2)
 have g8:h8.get (M+1)=bY [vL,v4,.mp M]:=by rw[F.get _ (by omega) (by show M+1≠M;omega)];exact g7
 by_cases hlt:(i:Int)<(L.length:Int)
 case neg=>
  have d3:=iV hlt;obtain rfl:i=L.length:=by omega
  simp(disch:=omega)only[go_sem,d3];refine⟨K,ik,(f1.trans f2).trans ⟨by omega,λq hq=>F28.get q (by omega)⟩|>.trans (Fr.refl _),.inr ⟨by omega,M+1,rfl,?_⟩⟩;exact⟨vL,v4,M,l,ks,g8,by omega,by omega,pl8.sp,s4.mono F28,a4.mono λ_ _ k=>KR.mono k F28,gM,kl,lk⟩
 have d3:=mO hlt
 have hiL:i<L.length:=by omega
 obtain⟨_,_,idL,offL,ws,shL,cL⟩:=Cz pl8.sp
 obtain⟨b1,c1,s1⟩:=cL i hiL
 generalize ws.getD i V.undef=ve at c1 s1
 have X:=mP hG E hiL
 obtain⟨x,hx⟩:=exI (L.getD i [])
 rw[hx] at s1 X
 have c7:=hcN i hiL
 rw[show (zi (xP G L K)).getD i 0=((iD G L K i:Nat):Int) from by simp [xP,zi,hiL]] at c7
 have cN:h8.cell idN (offN+i)=some (aB (iD G L K i:Nat)):=by rw[F.cell (hidN (by omega)) (nM c7)];exact c7
 have ex:=s1.eM
 simp(disch:=omega)only[go_sem,d3,shL.ixa,c1,H.aF g8,shN.ixa,cN]
 have fb:=(Fr.refl h8).bM (n:=h8.next+11) (by omega)
 refine (Br ve n x _ (by omega) X (s1.mono fb)).mono ?_
 rintro _ h9 ⟨rfl,f9⟩
 have F9:=fb.trans f9
 have g9:h9.get (M+1)=bY [vL,v4,.mp M]:=by rw[F9.get _ (by omega)];exact g8
 have gM9:h9.get M=some (.wmap (.arr 64 .u8) (iM Qt l)):=by rw[F9.get _ (by omega)];exact gM
 have cN9:h9.cell idN (offN+i)=some (aB (iD G L K i:Nat)):=by rw[F9.cell (by have:=hidN (by omega);omega)];exact cN
 have pm:=λhh=>NO (Jj (n:=n) (by omega)) (λa A=>Cn (n:=n) (by omega) a A) kl X (aB (iD G L K i:Nat)) hh M
 simp(disch:=omega)only[go_sem,H.aF g9,cN9,e7',gM9,pm]
 rw[jE i]
 refine⟨by simp [eM],L.length-(i+1),by omega,i+1,_,aA rfl,by omega,rfl,Di X kl,λj hj=>?_,(F.trans (Fx.of (W:=(· =M)) F9) λ_ _ h=>h).trans (Fx.set h9 (W:=(· =M)) rfl _) (λ_ _ h=>h),rfl⟩
 rw[Gj]
 by_cases e:L.getD j []=x
 ·rw[if_pos e,Jo E.nodup (by omega) hiL (e.trans hx.symm)]
 ·rw[if_neg e]
  refine lk j ?_
  rcases Nat.lt_or_ge j i with h|h
  ·exact h
  ·exact absurd (by rw[show j=i by omega];exact hx) e
noncomputable def Wz (G:List Nat->Prop)(L:LN)(K:List Nat)(a k:Nat):Nat:=iD G L K (L.idxOf (aT (cM (L.getD a [])) (L.getD (K.getD k 0) [])))
noncomputable def Gf (G:List Nat->Prop)(L:LN)(K:List Nat)(i k t j:Nat):Nat:=((List.range t).filter λa=>decide (iD G L K a=i/\Wz G L K a k=j)).length
noncomputable def zQ (G:List Nat->Prop)(L:LN)(K:List Nat)(i j k:Nat):Nat:=Gf G L K i k L.length j
section
variable {n:Nat} {G:List Nat->Prop} {L:LN} {K:List Nat}
theorem Dy (i k t j:Nat):Gf G L K i k (t+1) j=Gf G L K i k t j+if iD G L K t=i/\Wz G L K t k=j then 1 else 0:=by
 unfold Gf;rw[List.range_succ,List.filter_append,oH]
 by_cases h:iD G L K t=i/\Wz G L K t k=j<;>simp [h]
theorem RD (i k t j:Nat):Gf G L K i k t j<=t:=by
 unfold Gf;exact Nat.le_trans (List.length_filter_le _ _) (by rw[List.length_range];exact iI _)
def Us (p:Nat×Nat):V:= .agg [aB (p.1:Int),aB (p.2:Int)]
def WL (p:Nat×Nat):Prop:=p.1<1000000/\p.2<1000000
theorem Ov (a b:Nat×Nat)(_:WL a)(_:WL b):eM (Us a) (Us b)=decide (a=b):=by
 show rX [_,_] [_,_]=_;simp only[rX,eM,Bool.and_true,beq_self_eq_true,Bool.true_and];rw[Bool.eq_iff_iff,Bool.and_eq_true,beq_iff_eq,beq_iff_eq,decide_eq_true_iff,Prod.ext_iff];omega
theorem Gm (a:Nat×Nat)(h:WL a):isKey (.arr 2 .i64) (Us a)=true:=by
 obtain⟨h1,h2⟩:=h;unfold isKey Us;have e1:IntKind.min .i64= -9223372036854775808:=rfl;have e2:IntKind.max .i64=9223372036854775807:=rfl;simp only[List.all_cons,List.all_nil,e1,e2,Bool.and_true,Bool.and_eq_true,decide_eq_true_iff];exact⟨rfl,⟨trivial,by omega,by omega⟩,trivial,by omega,by omega⟩
theorem LY (x y:Int):uC [aB 0,aB 0] [(0,1,aB x),(1,1,aB y)]=some (.agg [aB x,aB y]):=rfl
theorem abF {h:H}{id o:Nat}{a b c:V}(ha:h.cell id o=some a)(hb:h.cell id (o+1)=some b)(hc:h.cell id (o+2)=some c):h.row id o 3=some [a,b,c]:=by
 unfold H.cell at ha hb hc;unfold H.row;split at ha
 ·rename_i ro vs e
  rw[e] at hb hc;have hb:vs[o+1]? =some b:=hb;have hc:vs[o+2]? =some c:=hc;obtain⟨la,ea⟩:=List.getElem?_eq_some_iff.1 ha;obtain⟨lb,eb⟩:=List.getElem?_eq_some_iff.1 hb;obtain⟨lc,ec⟩:=List.getElem?_eq_some_iff.1 hc;rw[e];simp only[sub];rw[if_pos (by omega),List.drop_eq_getElem_cons la,List.drop_eq_getElem_cons lb,List.drop_eq_getElem_cons lc,ea,eb,ec]
  rfl
 ·cases ha
theorem nX {hh:H}{vC:V}{ks:List Cls.KE}(hK:K.length<1000000)(s:SV hh vC 3 (qT ks))(al:cE (KR n G L hh) ks K):
  dY vC=some (aB (K.length:Int))/\eM vC vC=true/\ ∃id off,Sl vC 3 K.length id off/\ ∀k,k<K.length->id<hh.next/\ ∃rep,hh.cell id (off+k*3)=some rep/\hh.cell id (off+k*3+2)=some (aB ((jF G L (K.getD k 0)).length:Int))/\hh.row id (off+k*3) 3=some [rep,aB (kV (L.getD (K.getD k 0) []) n:Int),aB ((jF G L (K.getD k 0)).length:Int)]/\SI hh rep (zi (L.getD (K.getD k 0) [])):=by
 have lks:=cE.length al
 have l3:=zA ks
 obtain⟨id,off,sh,hid,hc⟩:=s.shape K.length (by rw[l3,lks]) (by omega)
 refine⟨by unfold dY;rw[SV.len s (n:=ks.length) l3 (by omega),lks];rfl,s.eM,id,off,sh,λk hk=>?_⟩
 obtain⟨p1,p2,p3⟩:=OV (ks:=ks) (i:=k) (by omega)
 have ka:=cE.get al k (by omega) hk
 rw[←Pm.cK hk] at ka
 have c1:=(hc (k*3) (by omega)).trans p1
 have c2:=(hc (k*3+1) (by omega)).trans p2
 have c3:=(hc (k*3+2) (by omega)).trans p3
 rw[ka.ord] at c2
 rw[ka.size] at c3
 rw[←Nat.add_assoc] at c2 c3
 exact⟨hid (by omega),_,c1,c3,abF c1 c2 c3,ka.rep⟩
end
section
variable {n i p:Nat} {G:List Nat->Prop} {o:List Nat} {r:LN}
structure Wj (n:Nat)(G:List Nat->Prop)(i p:Nat)(o:List Nat)(r:LN):Prop where
 asc:o.Pairwise (· < ·)
 mem: ∀q,q∈o↔q<p/\ ∃x,G x/\Fix i x/\x.getD i 0=q
 len:r.length=o.length
 rep: ∀t,t<o.length->Fp n G i (o.getD t 0) (r.getD t [])
theorem Wj.start (n:Nat)(G:List Nat->Prop)(i:Nat):Wj n G i 0 [] []:=⟨.nil,λq=>by simp,rfl,λt h=>by cases h⟩
theorem Wj.skip (c:Wj n G i p o r)(h: ∀x,G x->Fix i x->x.getD i 0≠p):Wj n G i (p+1) o r:=
 ⟨c.asc,λq=>by
  rw[c.mem];constructor
  ·rintro⟨h1,h2⟩;exact⟨by omega,h2⟩
  ·rintro⟨h1,x,gx,fx,ex⟩
   refine⟨?_,x,gx,fx,ex⟩;rcases Nat.lt_or_ge q p with h2|h2
   ·exact h2
   ·exact absurd (by omega) (h x gx fx),c.len,c.rep⟩
theorem Wj.step (c:Wj n G i p o r){x:List Nat}(hx:Fp n G i p x):Wj n G i (p+1) (o++ [p]) (r++ [x]):=by
 refine⟨List.pairwise_append.2 ⟨c.asc,List.pairwise_singleton _ _,λa ha b hb=>?_⟩,λq=>?_,by rw[oH,oH,c.len];rfl,λt ht=>?_⟩
 ·rw[List.mem_singleton.1 hb];exact ((c.mem a).1 ha).1
 ·rw[Gl,c.mem,List.mem_singleton]
  constructor
  ·rintro (⟨h1,h2⟩|rfl)
   ·exact⟨by omega,h2⟩
   ·exact⟨by omega,x,hx.mem,hx.fix,hx.maps⟩
  ·rintro⟨h1,h2⟩
   rcases Nat.lt_or_ge q p with h3|h3
   ·exact .inl ⟨h3,h2⟩
   ·exact .inr (by omega)
 ·by_cases e:t=o.length
  ·subst e
   have e1:(o++ [p]).getD o.length 0=p:=by simp [List.getD]
   have e2:(r++ [x]).getD o.length []=x:=by rw[←c.len];exact kA
   rw[e1,e2];exact hx
  ·have ht':t<o.length:=by rw[oH] at ht;simp at ht;omega
   have e1:(o++ [p]).getD t 0=o.getD t 0:=by simp [List.getD,Io ht']
   rw[e1,lP (by rw[c.len];exact ht')];exact c.rep t ht'
theorem Wj.le (c:Wj n G i p o r):o.length<=p:=by
 have nd:o.Nodup:=c.asc.imp λh=>by omega
 have:=List.Nodup.length_le_of_subset nd (l₂:=List.range p) λq hq=>Hm.2 ((c.mem q).1 hq).1
 rwa [List.length_range] at this
theorem CV {A:LN}(E:fI G A){k:Nat}(hk:k<A.length)(h1:Fix i (A.getD k []))(h2:(A.getD k []).getD i 0=p)(h3: ∀k',k'<k-> ¬((A.getD k' []).getD i 0=p/\Fix i (A.getD k' []))):Fp n G i p (A.getD k []):=by
 refine⟨Ak E hk,h1,h2,λy gy fy my=>?_⟩;obtain⟨m,hm,em⟩:=Gg.1 ((E.mem y).2 gy);have em':A.getD m []=y:=by rw[List.getD_eq_getElem?_getD,gW hm];exact em
 rcases Nat.lt_trichotomy m k with h|h|h
 ·exact absurd ⟨by rw[em'];exact my,by rw[em'];exact fy⟩ (h3 m h)
 ·subst h;rw[em'];exact .inl rfl
 ·rw[←em']
  have:=List.pairwise_iff_getElem.1 E.asc k m hk hm h;rw[List.getD_eq_getElem?_getD,gW hk,List.getD_eq_getElem?_getD,gW hm];exact .inr this
end
set_option maxHeartbeats 64000000
def YU (b:Nat)(vo vr:V)(q:Nat):Prop:=q<b∨fE vo q∨fE vr q
theorem Ai (vA:V)(n:Nat)(G:List Nat->Prop)(A:LN)(h:H)(h0:0<n)(hn:n<=7)(hG:sW n G)(E:fI G A)(hA:A.length<=5040)(sA:SP h vA A):
  Ev T 19 [aB n,vA] h (λv h'=> ∃O R',GB (λid=>id<h.next) h' v n O R'/\eN n G O R'/\Fr h h'):=by
 refine bL uI rfl rfl ?_
 obtain⟨lvA,eA,idA,offA,wA,shA,cA⟩:=Cz sA
 obtain⟨m,hm⟩:=exI A.length
 rw[hm] at lvA shA cA
 obtain⟨B,hB⟩:=exI h.next
 have bl:uC [aB 0,.aC,.aC] [(0,1,aB n)]=some (.agg [aB n,.aC,.aC]):=by
  have e1:putAt [aB 0,.aC,.aC] 0 [aB n]=some [aB n,.aC,.aC]:=by simp [putAt]
  simp [uC,jK,e1,V.cells,V.one]
 obtain⟨ha,ea,na,ga,oa,fa⟩:=iL hB [aB 0,.aC,.aC]
 obtain⟨h1,e1,n1,g1,o1,f1'⟩:=iL na [aB 0,.aC,.aC]
 obtain⟨h2,e2,n2,g2,o2⟩:=Fj h1 (B+1) [aB n,.aC,.aC]
 have f2:Fr h h2:=⟨by omega,λq hq=>by rw[o2 q (by omega),o1 q (by omega),oa q (by omega)]⟩
 have n2':h2.next=B+2:=by omega
 have g20:h2.get B=some (.cells false [aB 0,.aC,.aC]):=by rw[o2 B (by omega),o1 B (by omega)];exact ga
 simp(disch:=omega)only[go_sem,uI,aE,hB,ea,na,e1,bl,nV h1 (B+1) 0 (v:= aB n) (u:= .aC) (w:= .aC) rfl rfl rfl,g1,jV,e2]
 refine aJ (λk' vars hh=> ∃(i:Nat) (W:Nat->Prop) (O:LN) (R':oV) (vO vR:V) (wsO wsR:List V),(∃g:Nat->V,vars= [aB n,vA,.ptr B 0,.ptr (B+1) 0,aB i,g 5,g 6,g 7,g 8,g 9,g 10,g 11,g 12,g 13,g 14,g 15])/\i<=n/\xR h hh (B+1) B W n O R' vO vR wsO wsR/\
   hh.get B=some (.cells false [aB 0,.aC,.aC])/\O.length=i/\R'.length=i/\(∀j,j<i->Wj n G j n (O.getD j []) (R'.getD j []))/\k'=n-i) n
  ⟨0,_, [], [],_,_,_,_,aA rfl,lB _,xR.start (by omega) (by omega) (by omega) (by omega) (by omega) f2 g2,g20,rfl,rfl,λj hj=>by omega,rfl⟩ ?_
 clear f2 g2 g20 n2 n2' o2 e2 g1 o1 e1 n1 f1' ga oa ea na fa
 rintro k' vars h2 ⟨i,W,O,R',vO,vR,wsO,wsR,⟨g,rfl⟩,hi,AC,gB,lO,lR,hC,rfl⟩
 by_cases hlt:(i:Int)<(n:Int)
 case neg=>
  have e1:=iV hlt;obtain rfl:i=n:=by omega
  have hr:=bW AC.get;have nB:=AC.fr.next;simp(disch:=omega)only[go_sem,e1,hr,nV h2 B 0 (v:= aB i) (u:=vO) (w:=vR) rfl (SV.dU AC.oO.sv).2.1 (SV.dU AC.oR.sv).2.1,gB,jV];have hr2:=bW (h:=h2.set B (some (.cells false [aB i,vO,vR]))) (H.aQ ..);have fB:Fx (· =B) h2 (h2.set B (some (.cells false [aB i,vO,vR]))):=Fx.set h2 (W:=(· =B)) rfl _;simp(disch:=omega)only[go_sem,hr2]
  obtain⟨h3,h3e⟩: ∃h3,h3=h2.set B (some (.cells false [aB i,vO,vR])):=⟨_,rfl⟩
  rw[←h3e] at fB ⊢;have A3:=AC.box h3e;refine⟨O,R',by rw[←hB];exact A3.chw,⟨lO,lR,λj hj=>(hC j hj).asc,λj hj p=>?_,λj hj=>(hC j hj).len,λj hj=>(hC j hj).rep⟩,A3.fr⟩;rw[(hC j hj).mem];constructor
  ·exact λh=>h.2
  ·rintro⟨x,gx,fx,ex⟩
   exact⟨by rw[←ex];exact (hG.dV gx).fH hj,x,gx,fx,ex⟩
 have e1:=mO hlt
 have hin:i<n:=by omega
 have sAi:=sA.mono AC.fr
 simp(disch:=omega)only[go_sem,e1]
 obtain⟨h4,h4e⟩:=exI h2
 subst h4e
 refine cI (λvs hh=> ∃(vo vr:V) (q:List Nat) (r:LN),(∃g:Nat->V,vs= [aB n,vA,.ptr B 0,.ptr (B+1) 0,aB i,vo,vr,g 7,g 8,g 9,g 10,g 11,g 12,g 13,g 14,g 15])/\PV W hh vo q/\PL W hh vr r/\Wj n G i n q r/\Fr h2 hh) ?_ ?_
 ·refine aJ (λk' vs hh=> ∃(p:Nat) (vo vr:V) (ws:List V) (q:List Nat) (r:LN),(∃g:Nat->V,vs= [aB n,vA,.ptr B 0,.ptr (B+1) 0,aB i,vo,vr,aB p,g 8,g 9,g 10,g 11,g 12,g 13,g 14,g 15])/\p<=n/\dQ hh vo 1 (ints (zi q)) h2.next/\dQ hh vr 1 ws h2.next/\jH (YU h2.next vo vr) hh ws r/\(∀x,fE vo x-> ¬fE vr x)/\Wj n G i p q r/\Fr h2 hh/\k'=n-p) n
   ⟨0,.aC,.aC, [], [], [],aA rfl,lB _,dQ.aC _ _ _,dQ.aC _ _ _,trivial,(λ_ ⟨_,_,_,e⟩=>by cases e),Wj.start n G i,Fr.refl _,rfl⟩ ?_
  rintro k' vars h5 ⟨p,vo,vr,ws,q,r,⟨g,rfl⟩,hp,oo,ow,pvs,Gn,cp,f5,rfl⟩
  by_cases hlt2:(p:Int)<(n:Int)
  case neg=>
   have d2:=iV hlt2;obtain rfl:p=n:=by omega
   simp(disch:=omega)only[go_sem,d2];refine⟨vo,vr,q,r,aA rfl,⟨oo.sv,?_⟩,⟨ws,ow.sv,?_,pvs.sX (λid _ h=> .inl (AC.wb id h)),dQ.OX ow⟩,cp,f5⟩
   ·cases vo with
    |sl id off m c=>exact λh=>by have:=(oo.in _ _ _ _ rfl).2.1;have:=AC.wb id h;omega
    |_=>trivial
   ·cases vr with
    |sl id off m c=>exact λh=>by have:=(ow.in _ _ _ _ rfl).2.1;have:=AC.wb id h;omega
    |_=>trivial
  have d2:=mO hlt2
  have hpn:p<n:=by omega
  simp(disch:=omega)only[go_sem,d2]
  refine De (λvs hh=> ∃(vo vr:V) (ws:List V) (q:List Nat) (r:LN),(∃g:Nat->V,vs= [aB n,vA,.ptr B 0,.ptr (B+1) 0,aB i,vo,vr,aB p,g 8,g 9,g 10,g 11,g 12,g 13,g 14,g 15])/\dQ hh vo 1 (ints (zi q)) h2.next/\dQ hh vr 1 ws h2.next/\jH (YU h2.next vo vr) hh ws r/\(∀x,fE vo x-> ¬fE vr x)/\Wj n G i (p+1) q r/\Fr h2 hh) ?_ ?_
  ·refine aJ (λk' vs hh=> ∃(k:Nat),(∃g:Nat->V,vs= [aB n,vA,.ptr B 0,.ptr (B+1) 0,aB i,vo,vr,aB p,aB k,g 9,g 10,g 11,g 12,g 13,g 14,g 15])/\k<=m/\(∀k',k'<k-> ¬((A.getD k' []).getD i 0=p/\Fix i (A.getD k' [])))/\dQ hh vo 1 (ints (zi q)) h2.next/\dQ hh vr 1 ws h2.next/\jH (YU h2.next vo vr) hh ws r/\Fr h2 hh/\k'=m-k) m
    ⟨0,aA rfl,lB _,λk' h=>by omega,oo,ow,pvs,f5,rfl⟩ ?_
   clear oo ow pvs f5
   rintro k' vars h6 ⟨k,⟨g',rfl⟩,hk,hno,oo,ow,pvs,f6,rfl⟩
   by_cases hlk:(k:Int)<(m:Int)
   case neg=>
    have d3:decide ((k:Int)<(m:Int))=false:=decide_eq_false hlk;obtain rfl:k=m:=by omega
    simp(disch:=omega)only[go_sem,lvA,d3];refine⟨vo,vr,ws,q,r,aA rfl,oo,ow,pvs,Gn,cp.skip λx gx fx ex=>?_,f6⟩;obtain⟨j,hj,ej⟩:=Gg.1 ((E.mem x).2 gx);have ej':A.getD j []=x:=by rw[List.getD_eq_getElem?_getD,gW hj];exact ej
    exact hno j (by omega) ⟨by rw[ej'];exact ex,by rw[ej'];exact fx⟩
   have d3:decide ((k:Int)<(m:Int))=true:=decide_eq_true hlk
   have hkm:k<m:=by omega
   obtain⟨bA,cAk,sx⟩:=cA k hkm
   have F6:=AC.fr.trans f6
   generalize wA.getD k V.undef=vx at cAk sx
   have X:=mP hG E (show k<A.length by omega)
   obtain⟨x,hx⟩:=exI (A.getD k [])
   rw[hx] at sx X
   have cx:h6.cell idA (offA+k)=some vx:=by rw[F6.cell bA];exact cAk
   obtain⟨idx,offx,shx,hidx,hcx⟩:=(sx.mono F6).open
   have lxn:(zi x).length=n:=by rw[aS,X.len]
   rw[lxn] at shx hidx hcx
   have cxj: ∀j,j<n->h6.cell idx (offx+j)=some (aB (x.getD j 0:Nat)):=λj hj=>by
    rw[hcx j hj];congr 2;simp [zi,X.len,hj]
   simp(disch:=omega)only[go_sem,lvA,d3,shA.ixa,cx,shx.ixa,cxj i hin]
   refine cI (λvs hh=>hh=h6/\ ∃b:Bool,(∃g:Nat->V,vs= [aB n,vA,.ptr B 0,.ptr (B+1) 0,aB i,vo,vr,aB p,aB k,.bool b,g 10,g 11,g 12,g 13,g 14,g 15])/\(b=true↔x.getD i 0=p/\Fix i x)) ?_ ?_
   ·refine aJ (λk' vs hh=>hh=h6/\ ∃(j:Nat) (b:Bool),(∃g:Nat->V,vs= [aB n,vA,.ptr B 0,.ptr (B+1) 0,aB i,vo,vr,aB p,aB k,.bool b,aB j,g 11,g 12,g 13,g 14,g 15])/\j<=i/\(b=true↔x.getD i 0=p/\Fix j x)/\k'=i-j) i
     ⟨rfl,0,_,aA rfl,lB _,by rw[decide_eq_true_iff];exact⟨λh=>⟨by omega,λj hj=>by omega⟩,λh=>by rw[h.1]⟩,rfl⟩ ?_
    rintro k' vars hh ⟨rfl,j,b,⟨g,rfl⟩,hj,hb,rfl⟩
    cases b with
    |false=>
     simp(disch:=omega)only[go_sem,Hx];refine⟨false,aA rfl,⟨λh=>(by cases h),λh=>?_⟩⟩;exact hb.2 ⟨h.1,λj' hj'=>h.2 j' (by omega)⟩
    |true=>
     have hb1:=hb.1 rfl
     by_cases hji:(j:Int)<(i:Int)
     ·have d4:decide ((j:Int)<(i:Int))=true:=decide_eq_true hji
      simp(disch:=omega)only[go_sem,d4,shA.ixa,cx,shx.ixa,cxj j (by omega)];rw[jE j];refine⟨i-(j+1),by omega,j+1,_,aA rfl,by omega,?_,rfl⟩;rw[decide_eq_true_iff];constructor
      ·intro h
       refine⟨hb1.1,λj' hj'=>?_⟩
       by_cases e:j'=j
       ·subst e;omega
       ·exact hb1.2 j' (by omega)
      ·intro h
       rw[h.2 j (by omega)]
     ·have d4:decide ((j:Int)<(i:Int))=false:=decide_eq_false hji
      obtain rfl:j=i:=by omega
      simp(disch:=omega)only[go_sem,d4];exact⟨true,aA rfl,hb⟩
   rintro vars hh ⟨rfl,b,⟨g,rfl⟩,hb⟩
   cases b with
   |false=>
    simp(disch:=omega)only[go_sem];rw[jE k];refine⟨m-(k+1),by omega,k+1,aA rfl,by omega,λk' hk' h=>?_,oo,ow,pvs,f6,rfl⟩
    by_cases e:k'=k
    ·rw[e,hx] at h
     have:=hb.2 h;cases this
    ·exact hno k' (by omega) h
   |true=>
    have hb1:=hb.1 rfl;have rep:=CV (n:=n) E (show k<A.length by omega) (by rw[hx];exact hb1.2) (by rw[hx];exact hb1.1) hno;rw[hx] at rep;simp(disch:=omega)only[go_sem,shA.ixa,cx,Jm]
    obtain⟨hd,hde⟩: ∃hd:H,hd=H.mk ((H.mk hh.tr (hh.next+2)).new (Ob.cells false (ints [(p:Int)]))).tr (hh.next+14):=⟨_,rfl⟩
    rw[←hde];obtain⟨Q,hQ⟩:=exI (hh.next+2);rw[hQ] at hde ⊢;have gd:hd.get Q=some (.cells false (ints [(p:Int)])):=by rw[hde];exact H.aL (H.mk hh.tr Q) _
    have od: ∀k,k≠Q->hd.get k=hh.get k:=λk hk=>by rw[hde];exact H.bB (H.mk hh.tr Q) hk _
    have nd:hd.next=hh.next+14:=by rw[hde]
    have fd:Fr hh hd:=⟨by omega,λk hk=>od k (by omega)⟩
    have n6:=f6.next;have cpl:=cp.le;have ood:=oo.fr fd;have owd:=ow.fr fd;have hin1:=λid off m c (e:vo=V.sl id off m c)=>oo.in id off m c e
    have hin2:=λid off m c (e:vr=V.sl id off m c)=>ow.in id off m c e
    obtain⟨h7,a7,p7⟩:=ood.push (bytes:=8) (SV.one (v:= aB p) (id:=Q) (by omega) gd (.kn 1)) (n:=q.length) (m:=1) (by rw[aI,aS,Nat.mul_one]) rfl (by omega) (by omega) (by omega);have n7:=p7.next;have old7: ∀k,k<hh.next->dI vo k->h7.get k=hh.get k:=λk h1 h2=>by rw[p7.old k (by omega) h2,od k (by omega)]
    have apo: ∀k,k<h2.next->dI vo k:=λk hk id off m c e e2=>by have:=hin1 _ _ _ _ e;omega
    have F7:Fr h2 h7:=⟨by omega,λk hk=>by rw[old7 k (by omega) (apo k hk)];exact f6.get k hk⟩
    have F07:=AC.fr.trans F7;have cx7:h7.cell idA (offA+k)=some vx:=by rw[F07.cell bA];exact cAk
    have evx:=sx.eM;have ow7:dQ h7 vr 1 ws h2.next:=owd.mono (by omega) λid off m c e _ hid=>p7.old id (by omega) λid' off' m' c' e' e2=>Gn id ⟨off',m',c',by rw[e2];exact e'⟩ ⟨off,m,c,e⟩
    simp(disch:=omega)only[go_sem,a7,cx7,evx];refine (ZP vx (zi x) h7 (sx.mono F07) (by rw[lxn];omega)).mono ?_;rintro v25 h8 ⟨ow25,f8,_⟩;have c25:=uV (show SI h8 v25 (zi x) from ow25.sv);have n8:=f8.next;simp(disch:=omega)only[go_sem,dP _ (z:= .aC) c25.1 c25.2]
    obtain⟨he,hee⟩: ∃he:H,he=H.mk ((H.mk h8.tr (hh.next+10)).new (Ob.cells false [v25])).tr h8.next:=⟨_,rfl⟩
    rw[←hee];obtain⟨S,hS⟩:=exI (hh.next+10);rw[hS] at hee ⊢;have ge:he.get S=some (.cells false [v25]):=by rw[hee];exact H.aL (H.mk h8.tr S) _
    have oe: ∀k,k≠S->he.get k=h8.get k:=λk hk=>by rw[hee];exact H.bB (H.mk h8.tr S) hk _
    have ne:he.next=h8.next:=by rw[hee]
    have hin3:=λid off m c (e:v25=V.sl id off m c)=>ow25.in id off m c e
    have ow8:dQ he vr 1 ws h2.next:=ow7.mono (by omega) λid off m c e h1 hid=>by
     have:=(hin2 _ _ _ _ e).1;rw[oe id (by omega),f8.get id hid]
    have hws:=cE.length pvs;obtain⟨h9,a9,p9⟩:=ow8.push (bytes:=24) (SV.one (v:=v25) (id:=S) (by omega) ge (.kn 1)) (n:=q.length) (m:=1) (by rw[hws,cp.len,Nat.mul_one]) rfl (by omega) (by omega) (by omega);have n9:=p9.next;simp(disch:=omega)only[go_sem,a9];have apv: ∀{v:V} {k:Nat},¬fE v k->dI v k:=λhk id off m c e e2=>hk ⟨off,m,c,by rw[e2];exact e⟩
    have old9: ∀k,k<hh.next->dI vo k->dI vr k->h9.get k=hh.get k:=λk h1 h2 h3=>by rw[p9.old k (by omega) h3,oe k (by omega),f8.get k (by omega),old7 k h1 h2]
    have apr: ∀k,k<h2.next->dI vr k:=λk hk id off m c e e2=>by have:=hin2 _ _ _ _ e;omega
    have fx:Fx (YU h2.next vo vr) hh h9:=⟨by omega,λk h1 h2=>old9 k h1 (apv λh=>h2 (.inr (.inl h))) (apv λh=>h2 (.inr (.inr h)))⟩
    have hw: ∀k,k<hh.next->YU h2.next (.sl hd.next 0 (q.length+1) (.un 1)) (.sl he.next 0 (q.length+1) (.un 1)) k->YU h2.next vo vr k:=λk h1 h2=>by
     rcases h2 with h|⟨_,_,_,e⟩|⟨_,_,_,e⟩
     ·exact .inl h
     ·cases e;omega
     ·cases e;omega
    have pnew:PV (YU h2.next (.sl hd.next 0 (q.length+1) (.un 1)) (.sl he.next 0 (q.length+1) (.un 1))) h9 v25 x:=by
     have s8:SI h8 v25 (zi x):=ow25.sv;refine⟨SV.fx (W:=λk=>k=S∨fE vr k) s8 ?_ ⟨by omega,λk h1 h2=>by rw[p9.old k (by omega) (apv λh=>h2 (.inr h)),oe k λe=>h2 (.inl e)]⟩,?_⟩
     ·cases v25 with
      |sl id off m c=>
       have h3:=hin3 _ _ _ _ rfl;rintro (e|⟨_,_,_,e⟩)
       ·omega
       ·have:=hin2 _ _ _ _ e;omega
      |_=>trivial
     ·cases v25 with
      |sl id off m c=>
       have h3:=hin3 _ _ _ _ rfl;rintro (e|⟨_,_,_,e⟩|⟨_,_,_,e⟩)
       ·omega
       ·cases e;omega
       ·cases e;omega
      |_=>trivial
    have o7:=p7.own (b:=h2.next) (by rw[aI,aS,Nat.mul_one]) rfl (by omega);have e7:ints (zi q)++ [aB p]=ints (zi (q++ [p])):=by rw[Gy,lG];rfl
    rw[e7] at o7;refine⟨_,_,ws++ [v25],q++ [p],r++ [x],aA rfl,o7.mono (by omega) λid off m c e _ h1=>by cases e;rw[p9.old _ (by omega) (λid off m c e e2=>by have:=hin2 _ _ _ _ e;omega),oe _ (by omega),f8.get _ (by omega)],p9.own (by rw[hws,cp.len,Nat.mul_one]) rfl (by omega),(jH.go pvs fx hw).append (jH.one pnew),λk ⟨_,_,_,e1⟩ ⟨_,_,_,e2⟩=>by have a:=(V.sl.inj e1).1;have b:=(V.sl.inj e2).1;omega,cp.step rep,⟨by omega,λk hk=>by rw[old9 k (by omega) (apo k hk) (apr k hk)];exact f6.get k hk⟩⟩
  rintro vars h6 ⟨vo',vr',ws',q',r',⟨g',rfl⟩,oo',ow',pvs',dis',cp',f6⟩
  simp(disch:=omega)only[go_sem]
  rw[jE p]
  exact⟨n-(p+1),by omega,p+1,vo',vr',ws',q',r',aA rfl,by omega,oo',ow',pvs',dis',cp',f6,rfl⟩
 rintro vars h5 ⟨vo,vr,q,r,⟨g,rfl⟩,pq5,pl,hcl,f5⟩
 have A5:=AC.mono f5
 have wo:vo.cells= [vo]/\vo.one=true:=pq5.gT
 have gB5:h5.get B=some (.cells false [aB 0,.aC,.aC]):=by rw[f5.get B (AC.wb B AC.d)];exact gB
 have cO:h5.cell (B+1) 1=some vO:=by rw[H.aF A5.get];rfl
 have cR:h5.cell (B+1) 2=some vR:=by rw[H.aF A5.get];rfl
 obtain⟨ws,pl1,pl2,pl3,pl4⟩:=pl
 have pl:PL W h5 vr r:=⟨ws,pl1,pl2,pl3,pl4⟩
 have fn5:=A5.fr.next
 have cn5:=A5.wb _ A5.c
 simp(disch:=omega)only[go_sem,cO,cR,dP _ (z:= .aC) (v:=vo) wo.1 wo.2]
 obtain⟨h6,h6e⟩: ∃h6:H,h6=H.mk ((H.mk h5.tr (h5.next+3)).new (Ob.cells false [vo])).tr (h5.next+14):=⟨_,rfl⟩
 rw[←h6e]
 have g6:h6.get (h5.next+3)=some (.cells false [vo]):=by rw[h6e];exact H.aL (H.mk h5.tr (h5.next+3)) _
 have n6:h6.next=h5.next+14:=by rw[h6e]
 have o6: ∀k,k≠h5.next+3->h6.get k=h5.get k:=λk hk=>by rw[h6e];exact H.bB (H.mk h5.tr (h5.next+3)) (by simpa using hk) _
 have f6:Fr h5 h6:=⟨by omega,λid hid=>o6 id (by omega)⟩
 have hwO:=cE.length A5.aO
 have hwR:=cE.length A5.aR
 obtain⟨h7,a7,p7⟩:=(A5.oO.fr f6).push (bytes:=24) (SV.one (by omega) g6 (.kn 1)) (n:=i) (m:=1) (by omega) rfl (by omega) (by omega) (by omega)
 have n7:=p7.next
 have oldO: ∀k,k<h5.next->dI vO k->h7.get k=h5.get k:=λk h1 h2=>by rw[p7.old k (by omega) h2,o6 k (by omega)]
 have cR7:h7.cell (B+1) 2=some vR:=by unfold H.cell;rw[oldO (B+1) cn5 A5.pO,A5.get];rfl
 have eR:eM vR vR=true:=A5.oR.sv.eM
 have svr:vr.cells= [vr]/\vr.one=true:=⟨(SV.dU pl1).1,(SV.dU pl1).2.1⟩
 simp(disch:=omega)only[go_sem,a7,cR7,eR,dP _ (z:= .aC) svr.1 svr.2]
 obtain⟨h8,h8e⟩: ∃h8:H,h8=H.mk ((H.mk h7.tr (h5.next+8)).new (Ob.cells false [vr])).tr h7.next:=⟨_,rfl⟩
 rw[←h8e]
 have g8:h8.get (h5.next+8)=some (.cells false [vr]):=by rw[h8e];exact H.aL (H.mk h7.tr (h5.next+8)) _
 have n8:h8.next=h7.next:=by rw[h8e]
 have o8: ∀k,k≠h5.next+8->h8.get k=h7.get k:=λk hk=>by rw[h8e];exact H.bB (H.mk h7.tr (h5.next+8)) (by simpa using hk) _
 have oR8:dQ h8 vR 1 wsR h.next:=A5.oR.mono (by omega) λid off m c e _ hid=>by
  rw[o8 id (by omega),oldO id hid (λid' off' n' c' e' e2=>A5.Gn _ _ _ _ e' _ _ _ _ e e2.symm)]
 obtain⟨h9,a9,p9⟩:=oR8.push (bytes:=24) (SV.one (by omega) g8 (.kn 1)) (n:=i) (m:=1) (by omega) rfl (by omega) (by omega) (by omega)
 have n9:=p9.next
 have apR: ∀k,h5.next<=k->dI vR k:=λk hk id off m c e e2=>by have:=(A5.oR.in _ _ _ _ e).1;omega
 have old9: ∀k,k<h5.next->dI vO k->dI vR k->h9.get k=h5.get k:=λk h1 h2 h3=>by rw[p9.old k (by omega) h3,o8 k (by omega),oldO k h1 h2]
 have gC9:h9.get (B+1)=some (.cells false [aB n,vO,vR]):=by rw[old9 _ cn5 A5.pO A5.pR];exact A5.get
 have pt1: ∀(hh:H) (x:V),fL (some (.cells false [aB n,vO,vR])) hh (B+1) 1 [x]=some (hh.set (B+1) (some (.cells false [aB n,x,vR]))):=λhh x=>aY (by simp) hh _ x
 have pt2: ∀(hh:H) (x y:V),fL (some (.cells false [aB n,x,vR])) hh (B+1) 2 [y]=some (hh.set (B+1) (some (.cells false [aB n,x,y]))):=λhh x y=>aY (by simp) hh _ y
 simp(disch:=omega)only[go_sem,a9,gC9,pt1,pt2]
 rw[jE i]
 obtain⟨ha,hb⟩:h6.next=h5.next+14/\h8.next=h5.next+15:=⟨n6,by omega⟩
 rw[ha,hb]
 obtain⟨h10,h10e⟩: ∃h10,h10=(h9.set (B+1) (some (.cells false [aB n,.sl (h5.next+14) 0 (i+1) (.un 1),vR]))).set (B+1) (some (.cells false [aB n,.sl (h5.next+14) 0 (i+1) (.un 1),.sl (h5.next+15) 0 (i+1) (.un 1)])):=⟨_,rfl⟩
 rw[←h10e]
 have o10: ∀k,k≠B+1->h10.get k=h9.get k:=λk hk=>by rw[h10e,H.aH _ hk,H.aH _ hk]
 have n10:h10.next=h5.next+16:=by rw[h10e];show h9.next=_;omega
 have A10:=A5.step (v4:=vo) (v5:=vr) (o:=q) (r:=r) (h6:=h10) (a:=h5.next+14) (b:=h5.next+15) (k1:=i+1) (k2:=i+1) pq5 pl (by omega) (by omega) (by omega) (by omega) (by omega) (by omega) (by omega) (by rw[h10e,H.aQ])
  (by rw[o10 _ (by omega),p9.old _ (by omega) (apR _ (by omega)),o8 _ (by omega),←ha];exact p7.get) (by rw[o10 _ (by omega),←hb];exact p9.get) (λk h1 h2 h3 h4=>by rw[o10 k h2];exact old9 k h1 h3 h4)
 refine⟨n-(i+1),by omega,i+1,_,_,_,_,_,_,_,aA rfl,by omega,A10,?_,by rw[oH,lO];rfl,by rw[oH,lR];rfl,λj hj=>?_,rfl⟩
 ·rw[old9 B (A5.wb B A5.d) A5.qO A5.qR];exact gB5
 ·by_cases e:j=i
  ·subst e
   have e1:(O++ [q]).getD j []=q:=by rw[←lO];exact kA
   have e2:(R'++ [r]).getD j []=r:=by rw[←lR];exact kA
   rw[e1,e2]
   exact hcl
  ·rw[lP (by omega),lP (by omega)]
   exact hC j (by omega)
theorem NU (n:Nat)(c:Int)(p:Nat->Prop)[DecidablePred p]:sm n (λa=>if p a then c else 0)=c*(((List.range n).filter λa=>decide (p a)).length:Nat):=by
 induction n with
 |zero=>simp [Gq]
 |succ n ih=>
  rw[nY,ih,List.range_succ,List.filter_append,oH]
  by_cases h:p n
  ·simp [h,Int.mul_add]
  ·simp [h]
theorem Ua {n:Nat}{B:Nat}{f:Nat->Int}(h: ∀a,a<n-> -(B:Int)<=f a/\f a<=B): -((n*B:Nat):Int)<=sm n f/\sm n f<=((n*B:Nat):Int):=by
 induction n with
 |zero=>simp [Gq]
 |succ n ih=>
  have h1:=ih λa ha=>h a (by omega)
  have h2:=h n (by omega);rw[nY,Nat.succ_mul];generalize n*B=c at*;omega
theorem Ei {x y:Int}{X Y:Nat}(hx: -(X:Int)<=x/\x<=X)(hy: -(Y:Int)<=y/\y<=Y): -((X*Y:Nat):Int)<=x*y/\x*y<=((X*Y:Nat):Int):=by
 have h:(x*y).natAbs<=X*Y:=by
  rw[Int.natAbs_mul];exact Nat.mul_le_mul (by omega) (by omega)
 omega
noncomputable def Gk (G:List Nat->Prop)(L:LN)(K:List Nat)(x y:List Int)(k i j:Nat):Int:=sm L.length λa=>if iD G L K a<i∨iD G L K a=i/\Wz G L K a k<j then x.getD (iD G L K a) 0*y.getD (Wz G L K a k) 0 else 0
noncomputable def Qh (G:List Nat->Prop)(L:LN)(K:List Nat)(x y:List Int)(k:Nat):Int:=sm L.length λa=>x.getD (iD G L K a) 0*y.getD (Wz G L K a k) 0
section
variable {n:Nat} {G:List Nat->Prop} {L:LN} {K:List Nat} {x y:List Int}
theorem IN (k:Nat):Gk G L K x y k 0 0=0:=by
 unfold Gk;exact ON λa _=>by rw[if_neg (by omega)]
theorem Ub (k i j:Nat):Gk G L K x y k i (j+1)=Gk G L K x y k i j+x.getD i 0*y.getD j 0*(zQ G L K i j k:Nat):=by
 unfold Gk zQ Gf;rw[←NU L.length (x.getD i 0*y.getD j 0) λa=>iD G L K a=i/\Wz G L K a k=j,←ZI];refine pP λa _=>?_
 by_cases h:iD G L K a=i/\Wz G L K a k=j
 ·obtain⟨h1,h2⟩:=h
  subst h1;subst h2;rw[if_pos (by omega),if_neg (by omega),if_pos ⟨rfl,rfl⟩,Int.zero_add]
 ·rw[if_neg h,Int.add_zero]
  by_cases h2:iD G L K a<i∨iD G L K a=i/\Wz G L K a k<j
  ·rw[if_pos h2,if_pos (by omega)]
  ·rw[if_neg h2,if_neg (by omega)]
theorem RT {k r:Nat}(hq: ∀a,a<L.length->Wz G L K a k<r)(i:Nat):Gk G L K x y k i r=Gk G L K x y k (i+1) 0:=by
 unfold Gk;refine pP λa ha=>?_
 have:=hq a ha
 by_cases h:iD G L K a<i∨iD G L K a=i
 ·rw[if_pos (by omega),if_pos (by omega)]
 ·rw[if_neg (by omega),if_neg (by omega)]
theorem NA {i:Nat}(h0:x.getD i 0=0)(k:Nat):Gk G L K x y k i 0=Gk G L K x y k (i+1) 0:=by
 unfold Gk;refine pP λa _=>?_
 by_cases h:iD G L K a=i
 ·rw[if_neg (by omega),if_pos (by omega),h,h0,Int.zero_mul]
 ·by_cases h2:iD G L K a<i
  ·rw[if_pos (by omega),if_pos (by omega)]
  ·rw[if_neg (by omega),if_neg (by omega)]
theorem TS {r:Nat}(hn: ∀a,a<L.length->iD G L K a<r)(k:Nat):Gk G L K x y k r 0=Qh G L K x y k:=by
 unfold Gk Qh;exact pP λa ha=>by rw[if_pos (.inl (hn a ha))]
theorem kE {l:List Int}{B:Nat}(h: ∀v∈l, -(B:Int)<=v/\v<=B)(i:Nat): -(B:Int)<=l.getD i 0/\l.getD i 0<=B:=by
 by_cases hi:i<l.length
 ·exact h _ (bD hi)
 ·rw[List.getD_eq_getElem?_getD,List.getElem?_eq_none (by omega)];simp
theorem Mc {X Y:Nat}(hx: ∀v∈x, -(X:Int)<=v/\v<=X)(hy: ∀v∈y, -(Y:Int)<=v/\v<=Y)(k i j:Nat): -((L.length*(X*Y):Nat):Int)<=Gk G L K x y k i j/\Gk G L K x y k i j<=((L.length*(X*Y):Nat):Int):=by
 refine Ua λa _=>?_
 split
 ·exact Ei (kE hx _) (kE hy _)
 ·omega
theorem Nb {X Y:Nat}(hx: ∀v∈x, -(X:Int)<=v/\v<=X)(hy: ∀v∈y, -(Y:Int)<=v/\v<=Y)(k:Nat): -((L.length*(X*Y):Nat):Int)<=Qh G L K x y k/\Qh G L K x y k<=((L.length*(X*Y):Nat):Int):=
 Ua λ_ _=>Ei (kE hx _) (kE hy _)
theorem XW (hG:sW n G)(E:fI G L)(ik:Bi n G L K){a k:Nat}(ha:a<L.length)(hk:k<K.length):Wz G L K a k<K.length:=by
 unfold Wz;have hKk:=ik.lt (bD (d:=0) hk);have hy:G (aT (cM (L.getD a [])) (L.getD (K.getD k 0) [])):=hG.mul (hG.inv (Ak E ha)) (Ak E hKk);exact (wF hG E ik (Eo E hy).1).1
end
end Go.Proofs.YtapfcpkecmmagaaGreat
