/- Texts of the claim. -/
import Derived.Test.YtapfcpkecmmagaaGreatP5otoSc6
import Derived.Test.YtapfcpkecmmagaaGreatDp2toP4a
import Derived.Test.YtapfcpkecmmagaaGreatP5a
set_option maxHeartbeats 32000000
namespace Go.Proofs.YtapfcpkecmmagaaGreat.Cls
open Go Go.Ay Go.Sort
set_option maxRecDepth 100000
theorem Rx {α:Type}[Inhabited α][O:bI α](h:H)(S N:Nat)(d:Array α)(cp:qP)(hN:N<60000)(A:dR h S N d):
  Ev T 88 [.sl S 0 N cp,.fn (bI.f α) [] []] h (λ_ h'=> ∃e,dR h' S N e/\PermIn 0 N d e/\SortedIn bI.lt 0 N e/\Fx (· =S) h h'):=by
 refine bN dE rfl rfl ?_
 have hb:bitsLen N<=16:=(bitsLen_le_iff _ 16).2 (by omega)
 simp(disch:=omega)only[go_sem,dE,aF,gE (n:=(N:Int)) (by omega) (by omega)]
 refine (Ww N h (by omega)).mono ?_
 rintro _ h1 ⟨rfl,hh⟩
 subst hh
 simp(disch:=omega)only[go_sem]
 refine (Pd N h1 S N 0 N _ d cp hN A (by omega) (by omega) (by omega) (by omega) (by omega) (.inl rfl)).mono ?_
 rintro _ h2 ⟨e,A2,p,s,F⟩
 simp(disch:=omega)only[go_sem]
 exact⟨e,A2,p,s,F⟩
theorem zO (a:Int)(h:H):Ev T 147 [aB a] h (λv h'=>v= .bool false/\h'=h):=by
 refine bN kQ rfl rfl ?_;have e:decide (a≠a)=false:=jC (by omega);simp(disch:=omega)only[go_sem,kQ,aF,e]
def xW (a b:Int):Int:=if a<b then -1 else if b<a then 1 else 0
theorem Av (a b:Int)(h:H):Ev T 114 [aB a,aB b] h (λv h'=>v= aB (xW a b)/\Fr h h'):=by
 refine bN oE rfl rfl ?_;simp(disch:=omega)only[go_sem,oE,aF];refine (zO a h).mono ?_;rintro _ h1 ⟨rfl,rfl⟩;simp(disch:=omega)only[go_sem];refine (zO b h1).mono ?_;rintro _ h2 ⟨rfl,rfl⟩;simp(disch:=omega)only[go_sem];unfold xW
 by_cases h1:a<b
 ·have d1:decide (a<b)=true:=decide_eq_true h1
  simp(disch:=omega)only[go_sem,d1,if_pos h1];exact Fr.refl _
 ·have d1:decide (a<b)=false:=decide_eq_false h1
  by_cases h3:b<a
  ·have d2:decide (b<a)=true:=decide_eq_true h3
   simp(disch:=omega)only[go_sem,d1,d2,if_neg h1,if_pos h3];exact Fr.refl _
  ·have d2:decide (b<a)=false:=decide_eq_false h3
   simp(disch:=omega)only[go_sem,d1,d2,if_neg h1,if_neg h3];exact Fr.refl _
def HD:List Int->Int
 | []=>0
 |x::r=>if x=0 then HD r else x
theorem ML {l:List Int}{i:Nat}(hi:i<l.length)(h:l.getD i 0=0):HD (l.drop i)=HD (l.drop (i+1)):=by
 rw[List.drop_eq_getElem_cons hi];show (if l[i]=0 then _ else _)=_;rw[if_pos (by rw[List.getD,iK hi] at h;exact h)]
theorem UH {l:List Int}{i:Nat}(hi:i<l.length)(h:l.getD i 0≠0):HD (l.drop i)=l.getD i 0:=by
 rw[List.drop_eq_getElem_cons hi];show (if l[i]=0 then _ else l[i])=_;have e:l.getD i 0=l[i]:=by rw[List.getD,iK hi];rfl
 rw[if_neg (by rw[←e];exact h),e]
theorem abL (u:V)(l:List Int)(h:H)(hl:l.length<1000000)(hu:SI h u l):Ev T 93 [u] h (λv h'=>v= aB (HD l)/\Fr h h'):=by
 refine bN xI rfl rfl ?_;have lu:=hu.lens;obtain⟨id,off,sh,hid,hc⟩:=hu.open;simp(disch:=omega)only[go_sem,xI,aF,lu];refine aI (λk' vs hh=> ∃(i:Nat),(∃g:Nat->V,vs= [u,aB 0,aB 0,g 3,u,aB (l.length:Int),aB i,g 7,g 8])/\i<=l.length/\HD (l.drop i)=HD l/\Fr h hh/\k'=l.length-i) l.length
   ⟨0,aA rfl,lG _,rfl,Fr.refl h,rfl⟩ ?_
 rintro k' vars h2 ⟨i,⟨g,rfl⟩,hi,ho,f,rfl⟩
 by_cases hlt:(i:Int)<(l.length:Int)
 ·have d4:=nL hlt
  have hi':i<l.length:=by omega
  have ci:h2.cell id (off+i)=some (aB (l.getD i 0)):=by rw[f.cell (hid (by omega)),hc i hi']
  generalize hx:l.getD i 0=x at ci;simp(disch:=omega)only[go_sem,d4,sh.ixa,ci]
  by_cases hz:x=0
  ·have d5:decide (x≠0)=false:=decide_eq_false (by simpa using hz)
   simp(disch:=omega)only[go_sem,d5];rw[iJ i];exact⟨l.length-(i+1),by omega,i+1,aA rfl,by omega,by rw[←ML hi' (hx.trans hz)];exact ho,f.bJ (by omega),rfl⟩
  ·have d5:decide (x≠0)=true:=decide_eq_true hz
   simp(disch:=omega)only[go_sem,d5];exact⟨by rw[←ho,UH hi' (by rw[hx];exact hz),hx],f.bJ (by omega)⟩
 have d4:=jC hlt;obtain rfl:i=l.length:=by omega
 simp(disch:=omega)only[go_sem,d4];rw[List.drop_length] at ho;exact⟨by rw[←ho];rfl,f⟩
structure KE where
 rep:V
 ord:Nat
 size:Nat
 ranks:V
 fst:Nat
 hrep:rep.cells= [rep]/\rep.one=true/\eN rep rep=true
 hranks:ranks.cells= [ranks]/\ranks.one=true/\eN ranks ranks=true
instance:Inhabited KE:=⟨⟨.aC,0,0,.aC,0,⟨rfl,rfl,rfl⟩,⟨rfl,rfl,rfl⟩⟩⟩
def KE.enc (a:KE):List V:= [a.rep,aB (a.ord:Int),aB (a.size:Int),a.ranks]
def KE.cmp (a b:KE):Int:=HD [xW a.ord b.ord,xW a.size b.size,xW a.fst b.fst]
def KE.lt (a b:KE):Bool:=decide (a.cmp b<0)
theorem Dd (a:KE)(h:H):Gy h (.agg a.enc)=some (.ptr h.next 0,h.new (.cells false a.enc)):=vG h _ (by simp [KE.enc,a.hrep.2.1,a.hranks.2.1,show (aB (a.ord:Int)).one=true from rfl,show (aB (a.size:Int)).one=true from rfl])
theorem DO (a b:KE)(h:H):Ev T 90 [.agg a.enc,.agg b.enc] h (λv h'=>v= aB (xW a.ord b.ord)/\Fr h h'):=by
 refine bN lC rfl rfl ?_;obtain⟨A,hA⟩:=exI h.next;obtain⟨h1,e1,n1,g1,o1,f1⟩:=iX hA a.enc;obtain⟨h2,e2,n2,g2,o2,f2⟩:=iX n1 b.enc;have gA:h2.get A=some (.cells false a.enc):=by rw[o2 _ (by omega)];exact g1
 have cA:h2.cell A 1=some (aB (a.ord:Int)):=by rw[H.aE gA];rfl
 have cB:h2.cell (A+1) 1=some (aB (b.ord:Int)):=by rw[H.aE g2];rfl
 simp(disch:=omega)only[go_sem,lC,aF,Dd,hA,e1,n1,e2,cA,cB];refine (Av _ _ h2).mono ?_;rintro _ h3 ⟨rfl,f3⟩;simp(disch:=omega)only[go_sem];exact (f1.trans f2).trans f3
theorem JD (a b:KE)(h:H):Ev T 91 [.agg a.enc,.agg b.enc] h (λv h'=>v= aB (xW a.size b.size)/\Fr h h'):=by
 refine bN lX rfl rfl ?_;obtain⟨A,hA⟩:=exI h.next;obtain⟨h1,e1,n1,g1,o1,f1⟩:=iX hA a.enc;obtain⟨h2,e2,n2,g2,o2,f2⟩:=iX n1 b.enc;have gA:h2.get A=some (.cells false a.enc):=by rw[o2 _ (by omega)];exact g1
 have cA:h2.cell A 2=some (aB (a.size:Int)):=by rw[H.aE gA];rfl
 have cB:h2.cell (A+1) 2=some (aB (b.size:Int)):=by rw[H.aE g2];rfl
 simp(disch:=omega)only[go_sem,lX,aF,Dd,hA,e1,n1,e2,cA,cB];refine (Av _ _ h2).mono ?_;rintro _ h3 ⟨rfl,f3⟩;simp(disch:=omega)only[go_sem];exact (f1.trans f2).trans f3
def KE.At (h:H)(a:KE):Prop:= ∃id off n cap,a.ranks= .sl id off (n+1) cap/\id<h.next/\h.cell id off=some (aB (a.fst:Int))
theorem FW (a b:KE)(h:H)(ha:a.At h)(hb:b.At h):Ev T 92 [.agg a.enc,.agg b.enc] h (λv h'=>v= aB (xW a.fst b.fst)/\Fr h h'):=by
 refine bN kZ rfl rfl ?_;obtain⟨A,hA⟩:=exI h.next;obtain⟨h1,e1,n1,g1,o1,f1⟩:=iX hA a.enc;obtain⟨h2,e2,n2,g2,o2,f2⟩:=iX n1 b.enc;obtain⟨ia,oa,na,ca,ea,la,ga⟩:=ha;obtain⟨ib,ob,nb,cb,eb,lb,gb⟩:=hb;have F2:=f1.trans f2;have gA:h2.get A=some (.cells false a.enc):=by rw[o2 _ (by omega)];exact g1
 have cA:h2.cell A 3=some a.ranks:=by rw[H.aE gA];rfl
 have cB:h2.cell (A+1) 3=some b.ranks:=by rw[H.aE g2];rfl
 rw[ea] at cA;rw[eb] at cB;have ra:h2.cell ia oa=some (aB (a.fst:Int)):=by rw[F2.cell la];exact ga
 have rb:h2.cell ib ob=some (aB (b.fst:Int)):=by rw[F2.cell lb];exact gb
 simp(disch:=omega)only[go_sem,kZ,aF,Dd,hA,e1,n1,e2,cA,cB,ra,rb];refine (Av _ _ _).mono ?_;rintro _ h3 ⟨rfl,f3⟩;have F3:Fr h2 h3:=((Fr.refl h2).bJ (by omega)).trans f3;have ha:=F2.next;have cA3:h3.cell A 3=some (.sl ia oa (na+1) ca):=by rw[F3.cell (by omega)];exact cA
 have cB3:h3.cell (A+1) 3=some (.sl ib ob (nb+1) cb):=by rw[F3.cell (by omega)];exact cB
 have ra3:h3.cell ia oa=some (aB (a.fst:Int)):=by rw[F3.cell (by omega)];exact ra
 have rb3:h3.cell ib ob=some (aB (b.fst:Int)):=by rw[F3.cell (by omega)];exact rb
 simp(disch:=omega)only[go_sem,cA3,cB3,ra3,rb3];exact F2.trans F3
theorem zZ {h:H}{A:Nat}{ro:Bool}{a:KE}(hg:h.get A=some (.cells ro a.enc)):h.row A 0 4=some a.enc:=by
 simp [H.row,hg,sub,KE.enc]
theorem Ep (a:KE):eN (.agg a.enc) (.agg a.enc)=true:=by
 show sJ a.enc a.enc=true;simp [KE.enc,sJ,eN,a.hrep.2.2,a.hranks.2.2]
theorem KE.At.fr {a:KE}{h h':H}(x:a.At h)(f:Fr h h'):a.At h':=by
 obtain⟨ia,oa,na,ca,ea,la,ga⟩:=x;exact⟨ia,oa,na,ca,ea,kY la f.next,by rw[f.cell la];exact ga⟩
theorem Xn (h:H)(x y z:Int):uY h 1 [aB 0] 3 [(0,1,aB x),(1,1,aB y),(2,1,aB z)]=some (.sl h.next 0 3 (.kn 3),h.new (.cells false (ints [x,y,z]))):=rfl
theorem UW (a b:KE)(h:H)(ha:a.At h)(hb:b.At h):Ev T 89 [.agg a.enc,.agg b.enc] h (λv h'=>v= aB (a.cmp b)/\Fr h h'):=by
 refine bN sH rfl rfl ?_;obtain⟨A,hA⟩:=exI h.next;obtain⟨h1,e1,n1,g1,o1,f1⟩:=iX hA a.enc;obtain⟨h2,e2,n2,g2,o2,f2⟩:=iX n1 b.enc;have F2:=f1.trans f2;have gA:h2.get A=some (.cells false a.enc):=by rw[o2 _ (by omega)];exact g1
 simp(disch:=omega)only[go_sem,sH,aF,Dd,hA,e1,n1,e2,zZ gA,zZ g2,Ep,H.Rs];have hn:=F2.next;refine (DO a b _).mono ?_;rintro _ h3 ⟨rfl,f3⟩;have F3:Fr h2 h3:=((Fr.refl h2).bJ (by omega)).trans f3;have gB3:h3.get (A+1)=some (.cells false b.enc):=by rw[F3.get _ (by omega)];exact g2
 simp(disch:=omega)only[go_sem,zZ gB3,Ep];refine (JD a b _).mono ?_;rintro _ h4 ⟨rfl,f4⟩;have F4:=F3.trans f4;have gB4:h4.get (A+1)=some (.cells false b.enc):=by rw[F4.get _ (by omega)];exact g2
 simp(disch:=omega)only[go_sem,zZ gB4,Ep];refine (FW a b _ (ha.fr (F2.trans F4)) (hb.fr (F2.trans F4))).mono ?_;rintro _ h5 ⟨rfl,f5⟩;have F5:=F4.trans f5;have gB5:h5.get (A+1)=some (.cells false b.enc):=by rw[F5.get _ (by omega)];exact g2
 simp(disch:=omega)only[go_sem,zZ gB5,Ep];obtain⟨I,hI⟩:=exI (h2.next+9+9);have n5:=f5.next;have n4:=f4.next;have n3:h2.next+9+12<=h3.next:=f3.next;simp(disch:=omega)only[go_sem,hI,Xn]
 obtain⟨h6,h6e⟩: ∃h6:H,h6=H.mk ((H.mk h5.tr I).new (Ob.cells false (ints [xW a.ord b.ord,xW a.size b.size,xW a.fst b.fst]))).tr h5.next:=⟨_,rfl⟩
 rw[←h6e];have g6:h6.get I=bZ (ints [xW a.ord b.ord,xW a.size b.size,xW a.fst b.fst]):=by rw[h6e];exact H.aL (H.mk h5.tr I) _
 have n6:h6.next=h5.next:=by rw[h6e]
 have o6: ∀k,k≠I->h6.get k=h5.get k:=λk hk=>by rw[h6e];exact H.bE (H.mk h5.tr I) (by simpa using hk) _
 have F6:Fr h2 h6:=⟨by have:=F5.next;omega,λk hk=>by rw[o6 k (by omega)];exact F5.get k hk⟩
 refine (abL _ [xW a.ord b.ord,xW a.size b.size,xW a.fst b.fst] h6 (by simp) (SV.all (by simp [aJ]) (by omega) g6 _)).mono ?_;rintro _ h7 ⟨rfl,f7⟩;have F7:=F6.trans f7;have gB7:h7.get (A+1)=some (.cells false b.enc):=by rw[F7.get _ (by omega)];exact g2
 simp(disch:=omega)only[go_sem,zZ gB7,Ep];exact⟨rfl,F2.trans F7⟩
theorem KE.lt_iff (a b:KE):a.lt b=true↔a.ord<b.ord∨a.ord=b.ord/\(a.size<b.size∨a.size=b.size/\a.fst<b.fst):=by
 unfold KE.lt KE.cmp HD HD HD HD xW;rw[decide_eq_true_eq]
 repeat' split
 all_goals omega
theorem XY:SWO KE.lt where
 irrefl x:=by rw[←Bool.not_eq_true,KE.lt_iff];omega
 trans x y z h1 h2:=by rw[KE.lt_iff] at*;omega
 ntrans x y z h1 h2:=by rw[←Bool.not_eq_true,KE.lt_iff] at*;omega
def KE.Pp (hB:H)(b0 S:Nat)(a:KE):Prop:= ∃id off n cap,a.ranks= .sl id off (n+1) cap/\id<b0/\id≠S/\hB.cell id off=some (aB (a.fst:Int))
def Bb (hB:H)(b0 S:Nat)(h:H):Prop:=b0<=h.next/\ ∀q,q<b0->q≠S->h.get q=hB.get q
theorem KE.Pp.at {hB h:H}{b0 S:Nat}{a:KE}(p:a.Pp hB b0 S)(b:Bb hB b0 S h):a.At h:=by
 obtain⟨id,off,n,cap,e,h1,h2,h3⟩:=p;refine⟨id,off,n,cap,e,kY h1 b.1,?_⟩;rw[←h3];unfold H.cell;rw[b.2 id h1 h2]
@[reducible] def abJ (hB:H)(b0 S:Nat):bI KE where
 lt:=KE.lt
 enc:=KE.enc
 P:=KE.Pp hB b0 S
 B:=Bb hB b0 S
 f:=89
 b0:=b0
 S:=S
 swo:=XY
 len _:=rfl
 one a:=by simp [KE.enc,a.hrep.2.1,a.hranks.2.1,show (aB (a.ord:Int)).one=true from rfl,show (aB (a.size:Int)).one=true from rfl]
 eqv:=Ep
 cmp h a b hb pa pb:=(UW a b h (pa.at hb) (pb.at hb)).mono λv h' ⟨e,f⟩=>⟨_,e,rfl,f⟩
 bfr h h' b f:=⟨Nat.le_trans b.1 f.next,λq h1 h2=>by rw[f.get q (kY h1 b.1)];exact b.2 q h1 h2⟩
 bS h h' b f:=⟨Nat.le_trans b.1 f.next,λq h1 h2=>by rw[f.get q (kY h1 b.1) h2];exact b.2 q h1 h2⟩
 bR h h' R b hR f:=⟨Nat.le_trans b.1 f.next,λq h1 h2=>by rw[f.get q (kY h1 b.1) (λe=>by have:q=R:=e;omega)];exact b.2 q h1 h2⟩
 bn h b:=b.1
theorem Ik {l:List KE}{N:Nat}(hl:l.length=N){e:Array KE}(hp:PermIn 0 N l.toArray e)(hs:SortedIn KE.lt 0 N e):e.toList.Perm l/\e.toList.Pairwise (λa b=>KE.lt b a=false):=by
 obtain⟨p1,p2,p3⟩:=hp;have hsz:e.size=N:=by rw[p1];simpa using hl
 refine⟨?_,?_⟩
 ·have a1:(e.extract 0 N).toList=e.toList:=by rw[←hsz];simp
  have a2:(l.toArray.extract 0 N).toList=l:=by rw[←hl];simp
  rwa [a1,a2] at p3
 ·rw[List.pairwise_iff_getElem]
  intro i j hi hj hij;have hj':j<N:=by simpa [hsz] using hj
  have:=hs i j (lG _) hij hj';have e1:e[i]! =e.toList[i]:=by simp at hi;simp [hi]
  have e2:e[j]! =e.toList[j]:=by simp at hj;simp [hj]
  rw[e1,e2] at this;exact this
def qL (l:List KE):List V:=l.flatMap KE.enc
theorem LM (h:H)(S b0:Nat)(l:List KE)(cp:qP)(hN:l.length<60000)(hg:h.get S=bZ (qL l))(hS:S<h.next)(hb:b0<=h.next)(hP: ∀a∈l,a.Pp h b0 S):
  Ev T 88 [.sl S 0 l.length cp,.fn 89 [] []] h (λ_ h'=> ∃l',h'.get S=bZ (qL l')/\l'.Perm l/\l'.Pairwise (λa b=>KE.lt b a=false)/\Fx (· =S) h h'):=by
 letI:=abJ h b0 S
 have A:dR h S l.length l.toArray:=⟨hg,by simp,hS,rfl,⟨hb,λ_ _ _=>rfl⟩,λi hi=>by
  have hi':i<l.length:=by simpa using hi
  have:l.toArray[i]! =l[i]:=by simp [hi']
  rw[this]
  exact hP _ (List.getElem_mem hi')⟩
 refine (Rx h S l.length l.toArray cp hN A).mono ?_
 rintro _ h' ⟨e,A2,p,s,F⟩
 obtain⟨q1,q2⟩:=Ik rfl p s
 exact⟨e.toList,A2.get,q1,q2,F⟩
end Go.Proofs.YtapfcpkecmmagaaGreat.Cls
namespace Go.Proofs.YtapfcpkecmmagaaGreat
open Go Go.Ay Go.Pm
set_option maxRecDepth 100000
section
variable {i j p:Nat} {S:LN} {Q:List Nat}
section
variable {n:Nat} {G:List Nat->Prop} {L:LN}
theorem Fl {l:LN}(nd:l.Nodup)(hi:i<l.length)(hj:j<l.length)(e:l.getD i []=l.getD j []):i=j:=by
 have ei:l.getD i []=l[i]:=by rw[List.getD,iK hi];rfl
 have ej:l.getD j []=l[j]:=by rw[List.getD,iK hj];rfl
 rw[ei,ej] at e;have h:=List.pairwise_iff_getElem.1 nd;rcases Nat.lt_trichotomy i j with h1|h1|h1
 ·exact absurd e (h i j hi hj h1)
 ·exact h1
 ·exact absurd e.symm (h j i hj hi h1)
def cR (G:List Nat->Prop)(L:LN)(i j:Nat):Prop:=cj G (L.getD i []) (L.getD j [])
open Classical in
noncomputable def gO (G:List Nat->Prop)(L:LN)(i:Nat):List Nat:=(List.range L.length).filter λj=>decide (cR G L i j)
theorem jP:j∈gO G L i↔j<L.length/\cR G L i j:=by
 classical
 unfold gO;rw[Tt,Pl,decide_eq_true_iff]
theorem Td (i:Nat):(gO G L i).Pairwise (· < ·):=by
 classical
 unfold gO;exact List.Pairwise.filter _ List.pairwise_lt_range
theorem Br (i:Nat):(gO G L i).Nodup:=by
 classical
 unfold gO;exact List.Pairwise.filter _ List.nodup_range
def AV (G:List Nat->Prop)(L:LN)(i:Nat):Prop:= ∀j,j<i-> ¬cR G L j i
open Classical in
noncomputable def jY (G:List Nat->Prop)(L:LN)(k:Nat):List Nat:=(List.range k).filter λj=>decide (AV G L j)
theorem Kl (k:Nat):(AV G L k->jY G L (k+1)=jY G L k++ [k])/\(¬AV G L k->jY G L (k+1)=jY G L k):=by
 classical
 unfold jY;rw[List.range_succ,List.filter_append];refine⟨λh=>?_,λh=>?_⟩
 ·rw[List.filter_cons_of_pos (by simpa using h)];rfl
 ·rw[List.filter_cons_of_neg (by simpa using h),List.filter_nil,List.append_nil]
theorem rR {k:Nat}:i∈jY G L k↔i<k/\AV G L i:=by
 classical
 unfold jY;rw[Tt,Pl,decide_eq_true_iff]
variable (hG:rO n G) (E:fL G L)
include hG E
omit hG in
theorem tF (hi:i<L.length):G (L.getD i []):=(E.mem _).1 (bB hi)
theorem jU (hi:i<L.length):bG n (L.getD i []):=hG.dS (tF E hi)
theorem De (hi:i<L.length):cR G L i i:=UO hG (jU hG E hi)
theorem zN (hi:i<L.length)(h:cR G L i j):cR G L j i:=TS hG (jU hG E hi) h
theorem mQ {k:Nat}(hi:i<L.length)(h:cR G L i j)(h2:cR G L j k):cR G L i k:=OE hG (jU hG E hi) h h2
theorem aaG (hi:i<L.length): ∃r,r<=i/\AV G L r/\cR G L r i:=by
 induction i using Nat.strongRecOn with
 |_ i ih=>
  by_cases h:AV G L i
  ·exact⟨i,jA _,h,De hG E hi⟩
  ·obtain⟨j,hj,hc⟩: ∃j,j<i/\cR G L j i:=Ln λhn=>h λj hj hc=>hn ⟨j,hj,hc⟩
   obtain⟨r,h1,h2,h3⟩:=ih j hj (by omega);exact⟨r,by omega,h2,mQ hG E (by omega) h3 hc⟩
theorem IT {r s:Nat}(hr:r<L.length)(hs:s<L.length)(h1:AV G L r)(h2:AV G L s)(c1:cR G L r i)(c2:cR G L s i):r=s:=by
 have a1:=mQ hG E hr c1 (zN hG E hs c2);have a2:=mQ hG E hs c2 (zN hG E hr c1);rcases Nat.lt_trichotomy r s with h|h|h
 ·exact absurd a1 (h2 r h)
 ·exact h
 ·exact absurd a2 (h1 s h)
omit hG E in
structure BQ (G:List Nat->Prop)(L S:LN)(i:Nat)(Q:List Nat)(p:Nat):Prop where
 nd:Q.Nodup
 ne:0<Q.length
 hd:Q.getD 0 0=i
 mem: ∀j∈Q,j<L.length/\cR G L i j
 cl: ∀k,k<p-> ∀s∈S,∃j∈Q,L.getD j []=fS (L.getD (Q.getD k 0) []) s
omit hG E in
theorem BQ.len (b:BQ G L S i Q p):Q.length<=L.length:=by
 have h:Q ⊆ List.range L.length:=λj hj=>Pl.2 (b.mem j hj).1
 have:=List.Nodup.length_le_of_subset b.nd h;rwa [List.length_range] at this
theorem BQ.done (b:BQ G L S i Q p)(hp:Q.length<=p)(hi:i<L.length)(hS: ∀s∈S,G s)(hgen: ∀x,G x->fF n (λg=>g∈S) x)(j:Nat):j∈Q↔j<L.length/\cR G L i j:=by
 refine⟨b.mem j,λ⟨hj,hc⟩=>?_⟩
 have key: ∃k∈Q,L.getD k []=L.getD j []:=by
  refine YD (S:=λg=>g∈S) (λg hg=>hG.dS (hS g hg)) hgen (P:=λy=> ∃k∈Q,L.getD k []=y) (jU hG E hi) ⟨i,by rw[←b.hd];exact bB b.ne,rfl⟩ ?_ hc;rintro y g Y ⟨k,hk,rfl⟩ hg;obtain⟨t,ht,et⟩:=Gx.1 hk;obtain⟨j2,h1,h2⟩:=b.cl t (by omega) g hg;have e:Q.getD t 0=k:=by rw[Pm.cJ ht,et]
  rw[e] at h2;exact⟨j2,h1,h2⟩
 obtain⟨k,hk,e⟩:=key;have hkl:=(b.mem k hk).1;rw[←Fl E.nodup hkl hj e];exact hk
theorem BQ.sort (b:BQ G L S i Q p)(hp:Q.length<=p)(hi:i<L.length)(hS: ∀s∈S,G s)(hgen: ∀x,G x->fF n (λg=>g∈S) x){l':List Int}(h1:l'.Perm (zi Q))(h2:l'.Pairwise (· <= ·)):l'=zi (gO G L i):=by
 refine Up (h1.trans ?_) h2 ?_
 ·refine List.Perm.map _ ((List.perm_ext_iff_of_nodup b.nd (Br i)).2 λj=>?_)
  rw[b.done hG E hp hi hS hgen j,jP]
 ·unfold zi
  rw[List.pairwise_map];exact (Td i).imp λh=>by omega
theorem Oc (hi:i<L.length)(hr:AV G L i):0<(gO G L i).length/\(gO G L i).getD 0 0=i:=by
 have hm:i∈gO G L i:=jP.2 ⟨hi,De hG E hi⟩;have hl:=List.length_pos_of_mem hm;refine⟨hl,?_⟩;have h0:=jP.1 (bB (d:=0) hl);obtain⟨k,hk,ek⟩:=Gx.1 hm;have asc:=List.pairwise_iff_getElem.1 (Td (G:=G) (L:=L) i);rw[Pm.cJ hl] at*
 by_cases hk0:k=0
 ·subst hk0;exact ek
 ·have h1:=asc 0 k hl hk (by omega)
  exact absurd (zN hG E hi h0.2) (hr _ (by omega))
end
end
end Go.Proofs.YtapfcpkecmmagaaGreat
namespace Go.Ay
open Go
def Zb (o:Option Ob)(h:H)(id:Nat)(s:xL)(k y:V):Option (V×H):=match o with
 |some (.wmap sh es)=>if s=sh/\isKey s k=true then
   some (V.undef,h.set id (some (.wmap sh (match fR k es with
    |some e=>es.set e.1 (k,y)
    |none=>es++ [(k,y)]))))
  else none
 |_=>none
def ZI (s:xL)(h:H)(x k y:V):Option (V×H):=match x with
 | .mp id=>Zb (h.get id) h id s k y
 |_=>none
theorem TV (ρ:X->V)(h:H)(s:xL)(x k y:X):cK ρ h (.msw s x k y)=ZI s h (ρ x) (ρ k) (ρ y):=by
 simp only[cK,ZI,Zb];cases ρ x<;>try rfl
theorem US (s:xL)(h:H)(id:Nat)(k y:V):ZI s h (.mp id) k y=Zb (h.get id) h id s k y:=rfl
def Ld (o:Option Ob)(s:xL)(zero:V)(ok:Bool)(k:V):Option V:=match o with
 |some (.wmap sh es)=>if s=sh/\isKey s k=true then
   match fR k es with
   |some e=>some (if ok then .tup [e.2,.bool true] else e.2)
   |none=>some (if ok then .tup [zero,.bool false] else zero)
  else none
 |_=>none
def abH (s:xL)(zero:V)(ok:Bool)(h:H)(x k:V):Option V:=match x with
 | .mp id=>Ld (h.get id) s zero ok k
 |_=>none
theorem Oq (ρ:X->V)(h:H)(s:xL)(zero:V)(ok:Bool)(x k:X):cK ρ h (.lkw s zero ok x k)=(abH s zero ok h (ρ x) (ρ k)).map (·,h):=by
 simp only[cK,abH,Ld];cases ρ x<;>try rfl
 rename_i id;simp only
 cases hg:h.get id with
 |none=>rfl
 |some o=>
  cases o<;>try rfl
  rename_i sh es;simp only
  by_cases hc:s=sh/\isKey s (ρ k)=true
  ·rw[if_pos hc,if_pos hc]
   cases fR (ρ k) es<;>rfl
  ·rw[if_neg hc,if_neg hc];rfl
theorem Qc (s:xL)(zero:V)(ok:Bool)(h:H)(id:Nat)(k:V):abH s zero ok h (.mp id) k=Ld (h.get id) s zero ok k:=rfl
attribute [go_sem] TV US Oq Qc
end Go.Ay
namespace Go.Proofs.YtapfcpkecmmagaaGreat
open Go Go.Ay Go.Pm
set_option maxRecDepth 100000
def Vg (L:LN)(k:Nat):List (V×V):=(List.range k).map λi=>(V.str (L.getD i []),aB i)
theorem Eb (k:V): ∀(a b:List (V×V)),fR k a=none->fR k (a++b)=(fR k b).map λq=>(q.1+a.length,q.2)
 | [],b,_=>by
  cases h:fR k b<;>simp [h]
 |e::a,b,h=>by
  show (if eN k e.1 then some (0,e.2) else (fR k (a++b)).map λq=>(q.1+1,q.2))=_;have h':(if eN k e.1 then some (0,e.2) else (fR k a).map λq=>(q.1+1,q.2))=none:=h;split at h'
  ·cases h'
  ·rename_i hn
   rw[if_neg hn,Eb k a b (by cases h2:fR k a with|none=>rfl|some x=>rw[h2] at h';cases h'),Option.map_map]
   rfl
theorem Hr (L:LN)(k:Nat):Vg L (k+1)=Vg L k++ [(V.str (L.getD k []),aB k)]:=by
 unfold Vg;rw[List.range_succ,List.map_append];rfl
theorem Ku {L:LN}{w:List Nat}: ∀{k:Nat},(∀i,i<k->L.getD i []≠w)->fR (.str w) (Vg L k)=none
 |0,_=>rfl
 |k+1,h=>by
  rw[Hr,Eb _ _ _ (Ku λi hi=>h i (by omega))]
  have:(eN (.str w) (.str (L.getD k [])))=false:=by
   have:=h k (by omega);simp only[eN,beq_eq_false_iff_ne,ne_eq];exact λe=>this e.symm
  show Option.map _ (if eN (.str w) (.str (L.getD k [])) then _ else _)=_;rw[if_neg (by rw[this];simp)];rfl
theorem Sh {L:LN}(nd:L.Nodup): ∀{k i:Nat},k<=L.length->i<k->fR (.str (L.getD i [])) (Vg L k)=some (i,aB i)
 |0,i,_,h=>by omega
 |k+1,i,hk,h=>by
  rw[Hr]
  by_cases e:i=k
  ·subst e
   rw[Eb _ _ _ (Ku λj hj e=>by have:=Fl nd (by omega) (by omega) e;omega)];show Option.map _ (if eN (.str (L.getD i [])) (.str (L.getD i [])) then some (0,aB i) else _)=_;rw[if_pos (by simp [eN])];simp [Vg]
  ·have ih:=Sh nd (k:=k) (by omega) (show i<k by omega)
   have key: ∀(a b:List (V×V)) (x:V) (r:Nat×V),fR x a=some r->fR x (a++b)=some r:=by
    intro a
    induction a with
    |nil=>intro b x r h;cases h
    |cons y a ih2=>
     intro b x r h;show (if eN x y.1 then some (0,y.2) else (fR x (a++b)).map λq=>(q.1+1,q.2))=_;have h':(if eN x y.1 then some (0,y.2) else (fR x a).map λq=>(q.1+1,q.2))=some r:=h
     by_cases hc:eN x y.1=true
     ·rw[if_pos hc] at h' ⊢;exact h'
     ·rw[if_neg hc] at h' ⊢
      cases h2:fR x a with
      |none=>rw[h2] at h';cases h'
      |some r2=>rw[h2] at h';rw[ih2 b x r2 h2];exact h'
   exact key _ _ _ _ ih
theorem Vu {w:List Nat}(h1:w.length<=1000)(h2: ∀x∈w,x<256):isKey .str (.str w)=true:=by
 have e:(decide (w.length<2^62)&&w.all λn=>decide (n<256))=true:=by
  rw[Bool.and_eq_true,decide_eq_true_eq,List.all_eq_true];exact⟨by omega,λx hx=>by simpa using h2 x hx⟩
 exact e
theorem PD {L:LN}(nd:L.Nodup){k:Nat}(hk:k<L.length)(hK:isKey .str (.str (L.getD k []))=true)(hh:H)(M:Nat):
  Zb (some (.wmap .str (Vg L k))) hh M .str (.str (L.getD k [])) (aB k)=some (.undef,hh.set M (some (.wmap .str (Vg L (k+1))))):=by
 have e:fR (.str (L.getD k [])) (Vg L k)=none:=Ku λj hj e=>by have:=Fl nd (by omega) hk e;omega
 simp only[Zb]
 rw[if_pos ⟨trivial,hK⟩,e,Hr]
theorem JQ {L:LN}(nd:L.Nodup){i:Nat}(hi:i<L.length)(hK:isKey .str (.str (L.getD i []))=true)(z:V):
  Ld (some (.wmap .str (Vg L L.length))) .str z false (.str (L.getD i []))=some (aB i):=by
 simp only[Ld]
 rw[if_pos ⟨trivial,hK⟩,Sh nd (jA _) hi];rfl
end Go.Proofs.YtapfcpkecmmagaaGreat
namespace Go.Proofs.YtapfcpkecmmagaaGreat
open Go Go.Ay Go.Pm
set_option maxRecDepth 100000
section
variable {G:List Nat->Prop} {L:LN} {i j n:Nat} {Q:List Nat} {h:H} {v:V}
theorem FB {vL:V}(hc:vL.cells= [vL])(ho:vL.one=true)(M N m:Nat):uK [.aC,.nilm,.aC,.aC] [(0,1,vL),(1,1,.mp M),(3,1,.sl N 0 m (.kn m))]=some (.agg [vL,.mp M,.aC,.sl N 0 m (.kn m)]):=by
 simp [uK,jQ,putAt,hc,ho,show (V.mp M).cells= [V.mp M] from rfl,show (V.sl N 0 m (.kn m)).cells= [V.sl N 0 m (.kn m)] from rfl,show (V.mp M).one=true from rfl,show (V.sl N 0 m (.kn m)).one=true from rfl]
theorem FX {vL:V}(ho:vL.one=true)(M N m:Nat)(h:H):Gy h (.agg [vL,.mp M,.aC,.sl N 0 m (.kn m)])=some (.ptr h.next 0,h.new (.cells false [vL,.mp M,.aC,.sl N 0 m (.kn m)])):=vG h _ (by simp [ho,show (V.mp M).one=true from rfl,show (V.sl N 0 m (.kn m)).one=true from rfl,show V.aC.one=true from rfl])
open Classical in
noncomputable def Dw (G:List Nat->Prop)(L:LN)(i:Nat)(Q:List Nat)(j:Nat):Bool:=decide ((∃i0,i0<i/\cR G L i0 j)∨j∈Q)
theorem mT:Dw G L i Q j=true↔(∃i0,i0<i/\cR G L i0 j)∨j∈Q:=by classical unfold Dw;simp only[decide_eq_true_eq]
theorem II (G:List Nat->Prop)(L:LN)(j:Nat):Dw G L 0 [] j=false:=by
 rw[←Bool.not_eq_true,mT];rintro (⟨i0,h,_⟩|h)
 ·omega
 ·cases h
theorem Tl {k:Nat}:Dw G L i (Q++ [k]) j=if j=k then true else Dw G L i Q j:=by
 by_cases e:j=k
 ·rw[if_pos e,mT];exact .inr (by simp [e])
 ·rw[if_neg e,Bool.eq_iff_iff,mT,mT]
  simp [e]
theorem Cx {p:Nat->Option Ay.Fn}{rd:Option Nat}{a:C}{k:Nat}{vars:List V}{Q:E->List V->H->Prop}(J:List V->H->Prop)(h1:Wp p rd (.loop a) vars h (λe v h'=>e= .exit k/\J v h'))(h2: ∀v h',J v h'->Q .norm v h'):Wp p rd (.loop a) vars h (uD k Q):=
 h1.mono λe v h' x=>by
  obtain⟨rfl,x⟩:=x;rw[yD];exact h2 v h' x
theorem fC.ge {sz id off b:Nat}{ws:List V}(o:fC h v sz ws b)(hn:ws.length=n*sz)(hz:0<sz)(s:Sl v sz n id off)(h0:0<n):b<=id:=by
 have hx:=s.ixa .i64 0 (by omega) (by omega);rcases o.sv with ⟨_,rfl⟩|⟨id',off',len,cap,ro,vs,e,h2,_⟩
 ·have:=Nat.mul_pos h0 hz
  simp at hn;omega
 ·have h3:=(o.in _ _ _ _ e).2.1
  subst e
  have hl:0<len:=by
   have:=Nat.mul_pos h0 hz;refine Nat.pos_of_ne_zero λe0=>?_
   subst e0;simp at h2;rw[h2] at hn;simp at hn;omega
  rw[Ds (by omega) (by omega)] at hx;simp only[Option.some.injEq,V.ptr.injEq] at hx;omega
theorem MQ (hG:rO n G)(E:fL G L)(hi:i<L.length)(hr: ¬AV G L i)(j:Nat):Dw G L i [] j=Dw G L (i+1) [] j:=by
 obtain⟨i0,h0,hc⟩: ∃j,j<i/\cR G L j i:=Ln λhn=>hr λj hj hc=>hn ⟨j,hj,hc⟩
 rw[Bool.eq_iff_iff,mT,mT];constructor
 ·rintro (⟨i1,h1,h2⟩|h)
  ·exact .inl ⟨i1,by omega,h2⟩
  ·cases h
 ·rintro (⟨i1,h1,h2⟩|h)
  ·by_cases e:i1=i
   ·subst e;exact .inl ⟨i0,h0,mQ hG E (by omega) hc h2⟩
   ·exact .inl ⟨i1,by omega,h2⟩
  ·cases h
theorem JI {S:LN}(hG:rO n G)(E:fL G L)(hi:i<L.length)(b:BQ G L S i Q Q.length)(hS: ∀s∈S,G s)(hgen: ∀x,G x->fF n (λg=>g∈S) x)(hj:j<L.length):Dw G L i Q j=Dw G L (i+1) [] j:=by
 rw[Bool.eq_iff_iff,mT,mT];constructor
 ·rintro (⟨i1,h1,h2⟩|h)
  ·exact .inl ⟨i1,by omega,h2⟩
  ·exact .inl ⟨i,by omega,(b.mem j h).2⟩
 ·rintro (⟨i1,h1,h2⟩|h)
  ·by_cases e:i1=i
   ·subst e;exact .inr ((b.done hG E (jA _) hi hS hgen j).2 ⟨hj,h2⟩)
   ·exact .inl ⟨i1,by omega,h2⟩
  ·cases h
theorem GA (hc:v.cells= [v])(ho:v.one=true)(x y:Int):uK [.aC,aB 0,aB 0] [(0,1,v),(1,1,aB x),(2,1,aB y)]=some (.agg [v,aB x,aB y]):=by
 simp [uK,jQ,putAt,hc,ho,show ∀z,(aB z).cells= [aB z] from λ_=>rfl,show ∀z,(aB z).one=true from λ_=>rfl]
theorem EW {w:V}(ho:v.one=true)(hc':w.cells= [w])(ho':w.one=true)(x y:Int):uK [.aC,aB 0,aB 0,.aC] [(0,3,.agg [v,aB x,aB y]),(3,1,w)]=some (.agg [v,aB x,aB y,w]):=by
 simp [uK,jQ,putAt,hc',ho,ho',show ∀l,(V.agg l).cells=l from λ_=>rfl,show ∀z,(aB z).one=true from λ_=>rfl]
theorem DE {w:V}(ho:v.one=true)(ho':w.one=true)(x y:Int)(h:H):uY h 4 [.aC,aB 0,aB 0,.aC] 1 [(0,4,.agg [v,aB x,aB y,w])]=some (.sl h.next 0 1 (.kn 1),h.new (.cells false [v,aB x,aB y,w])):=by
 have e:eE [V.aC,aB 0,aB 0,.aC] 4= [V.aC,aB 0,aB 0,.aC]:=rfl;simp [uY,jQ,putAt,e,ho,ho',show ∀l,(V.agg l).cells=l from λ_=>rfl,show ∀z,(aB z).one=true from λ_=>rfl]
theorem vF (k:Nat):(jY G L k).length<=k:=by
 classical
 unfold jY;exact Nat.le_trans (List.length_filter_le _ _) (by rw[List.length_range];exact jA _)
theorem Mb (ks:List Cls.KE):(Cls.qL ks).length=ks.length*4:=by
 induction ks with
 |nil=>rfl
 |cons a r ih=>
  show (a.enc++Cls.qL r).length=_;rw[oS,ih,List.length_cons];show 4+_=_;omega
theorem EF {a b c d:V}(hh:H)(id:Nat)(y:V):fI (some (.cells false [a,b,c,d])) hh id 2 [y]=some (hh.set id (some (.cells false [a,b,y,d]))):=by
 simp [fI,putAt]
theorem XO {sz:Nat}{ws:List V}(s:SV h v sz ws):Vl (λq=>h.next<=q) v:=by
 cases v with
 |sl id off len cap=>exact λh2=>by have:=s.in _ _ _ _ rfl;omega
 |_=>trivial
structure KO (n:Nat)(G:List Nat->Prop)(L:LN)(X:Nat)(W:Nat->Prop)(hh:H)(a:Cls.KE)(r:Nat):Prop where
 fst:a.fst=r
 ord:a.ord=jZ (L.getD r []) n
 size:a.size=(gO G L r).length
 rep:PV (λq=>X<=q) hh a.rep (L.getD r [])
 ranks:PV W hh a.ranks (gO G L r)
theorem KO.go {X:Nat}{W W':Nat->Prop}{h':H}{a:Cls.KE}{r:Nat}(k:KO n G L X W h a r)(f:Fx W h h')(hx:X<=h.next)(hW: ∀q,W q->X<=q)(hw: ∀q,q<h.next->W' q->W q):KO n G L X W' h' a r:=
 ⟨k.fst,k.ord,k.size,k.rep.fx ⟨f.next,λq h1 h2=>f.get q h1 λh3=>h2 (hW q h3)⟩,PV.go k.ranks f hw⟩
structure OfJ (n:Nat)(G:List Nat->Prop)(L:LN)(X D:Nat)(vL:V)(h5:H)(i:Nat)(hh:H):Prop where
 ex: ∃vK ks W,hh.get (X+8)=some (.cells false [vL,.mp (X+3),vK,.sl (X+6) 0 L.length (.kn L.length)])/\fC hh vK 4 (Cls.qL ks) (D+1)/\bY (KO n G L X W hh) ks (jY G L i)/\Kt W vK/\W D/\W (X+8)/\W (X+6)/\(∀q,W q->q<hh.next)/\(∀q,W q->X<=q)/\(ks= []∨ ∃id cap,vK= .sl id 0 ks.length cap/\hh.get id=some (.cells false (Cls.qL ks)))
 gD:hh.get D=some (.cells false (rc L.length λj=> .bool (Dw G L i [] j)))
 old:Fx (λq=>q=X+8∨D<=q) h5 hh
 nx:D<hh.next
def MH (n:Nat):C->Bool
 | .block k _=>k==n
 | .seq _ b=>MH n b
 |_=>false
def Ps (n:Nat):C->C
 | .seq a b=>if MH n a then b else Ps n b
 |c=>c
structure OfE (n:Nat)(G:List Nat->Prop)(L:LN)(X D:Nat)(vL:V)(h h2 h5 h7:H):Prop where
 el:fL G L
 le:L.length<=5040
 f2:Fr h h2
 x2:h2.next=X
 sp:SP h2 vL L
 f25:Fr h2 h5
 xD:X+10<=D
 n5:h5.next=D
 gM:h5.get (X+3)=some (.wmap .str (Vg L L.length))
 gN:h5.get (X+6)=some (.cells false (rc L.length λ_=> aB 0))
 j:OfJ n G L X D vL h5 L.length h7
theorem RP {W0:Nat->Prop}(vc:V)(n:Nat)(O:LN)(R:qI)(G:List Nat->Prop)(h:H)(gc:GC W0 h vc n O R G)(P:V->H->Prop)
  (hk: ∀L X D vL h2 h5 h7 A (g:Nat->V),dD O R n 0 (bW n)=L->OfE n G L X D vL h h2 h5 h7->Wp T none (Ps 2 kG.body) ([g 0,.ptr A 0,.nilp,aB 0,vL,g 5,.ptr (X+8) 0,g 7,g 8,g 9,g 10,g 11,g 12,g 13,g 14,g 15,g 16,g 17,g 18,g 19,g 20,g 21,g 22,g 23,g 24,g 25,g 26,g 27,g 28,g 29,g 30,g 31,g 32,g 33,g 34,g 35,g 36,g 37,g 38,g 39,g 40,g 41,g 42,g 43,g 44,g 45]) h7 (HT kG.results P)):
  Ev T 56 [vc] h P:=by
 obtain⟨vO,vR,e,sO,sR⟩:=gc.ch
 subst e
 refine bN kG rfl rfl ?_
 have oneO:vO.one=true:=QE sO
 have oneR:vR.one=true:=QF sR
 obtain⟨A,hA⟩:=exI h.next
 obtain⟨h1,e1,n1,g1,o1,f1⟩:=iX hA [aB n,vO,vR]
 have bx:=fJ h (v:= aB n) (u:=vO) (w:=vR) rfl oneO oneR
 have rB:=bX g1
 obtain⟨L,hL⟩:=exI (dD O R n 0 (bW n))
 obtain⟨E,ll⟩:=kV gc.oG gc.isc
 have ll5:=nT gc
 rw[hL] at E ll
 have hG:=gc.oG
 have n7:=gc.n7
 have n0:=gc.n0
 simp(disch:=omega)only[go_sem,kG,aF,bx,hA,e1,rB]
 refine (BR _ n O R G h1 (gc.mono f1)).mono ?_
 rw[hL]
 rintro _ h2 ⟨vL,rfl,nw⟩
 obtain⟨wL,W,owL,pvL,bkL,W1⟩:=nw.ex
 have hwL:=bY.length pvL
 obtain⟨m,hm⟩:=exI L.length
 rw[hm] at hwL
 have lvL:=fC.lens owL hwL
 have oneL:=owL.sv.eD.2.1
 have f2:=nw.fr
 simp(disch:=omega)only[go_sem,lvL]
 refine aZ (λhc=>(hc rfl).elim) (λ_=>?_)
 obtain⟨X,hX⟩:=exI h2.next
 simp(disch:=omega)only[go_sem,lvL,kT _ m (by omega),hX,FB owL.sv.eD.1 oneL,FX oneL]
 obtain⟨h3,h3e⟩: ∃h3:H,h3=H.mk ((H.mk ((H.mk ((H.mk h2.tr (X+3)).new (Ob.wmap xL.str [])).tr (X+6)).new (Ob.cells false (rc m λ_=>aB 0))).tr (X+8)).new (Ob.cells false [vL,.mp (X+3),.aC,.sl (X+6) 0 m (.kn m)])).tr (X+10):=⟨_,rfl⟩
 rw[←h3e]
 have n3:h3.next=X+10:=by rw[h3e]
 have gB:h3.get (X+8)=some (.cells false [vL,.mp (X+3),.aC,.sl (X+6) 0 m (.kn m)]):=by rw[h3e];exact H.aL (H.mk _ (X+8)) _
 have gN:h3.get (X+6)=some (.cells false (rc m λ_=>aB 0)):=by
  rw[h3e];exact (H.bE (H.mk _ (X+8)) (show X+6≠X+8 by omega) _).trans (H.aL (H.mk _ (X+6)) _)
 have gM:h3.get (X+3)=some (.wmap .str (Vg L 0)):=by
  rw[h3e];exact (H.bE (H.mk _ (X+8)) (show X+3≠X+8 by omega) _).trans ((H.bE (H.mk _ (X+6)) (show X+3≠X+6 by omega) _).trans (H.aL (H.mk _ (X+3)) _))
 have f3:Fr h2 h3:=⟨by omega,λq hq=>by
  rw[h3e]
  exact (H.bE (H.mk _ (X+8)) (show q≠X+8 by omega) _).trans ((H.bE (H.mk _ (X+6)) (show q≠X+6 by omega) _).trans (H.bE (H.mk _ (X+3)) (show q≠X+3 by omega) _))⟩
 clear h3e
 have lt64: ∀i,i<m->(L.getD i []).length<=1000/\ ∀x∈L.getD i [],x<256:=λi hi=>by
  have P:=jU hG E (show i<L.length by omega);exact⟨by rw[P.len];omega,λx hx=>by have:=P.lt x hx;omega⟩
 obtain⟨idL,offL,shL,hidL,hcL⟩:=SV.shape owL.sv m (by omega) (by omega)
 have hLa: ∀i,i<m-> ∃vx,(∀h',Fr h2 h'->h'.cell idL (offL+i)=some vx)/\SI h2 vx (zi (L.getD i [])):=λi hi=>by
  obtain⟨v,h1,h2'⟩:=jO.at pvL (i:=i) (by omega);exact⟨v,λh' f=>by rw[f.cell (hidL (by omega)),hcL i (by omega),h1],h2'.si⟩
 have hK: ∀i,i<m->isKey .str (.str (L.getD i []))=true:=λi hi=>Vu (lt64 i hi).1 (lt64 i hi).2
 refine cV (λvs hh=>(∃g:Nat->V,vs= [g 0,.ptr A 0,.nilp,aB 0,vL,g 5,.ptr (X+8) 0,g 7,g 8,g 9,g 10,g 11,g 12,g 13,g 14,g 15,g 16,g 17,g 18,g 19,g 20,g 21,g 22,g 23,g 24,g 25,g 26,g 27,g 28,g 29,g 30,g 31,g 32,g 33,g 34,g 35,g 36,g 37,g 38,g 39,g 40,g 41,g 42,g 43,g 44,g 45])/\hh.get (X+3)=some (.wmap .str (Vg L m))/\Fx (· =X+3) h3 hh) ?_ ?_
 ·refine aI (λk' vs hh=> ∃(i:Nat),(∃g:Nat->V,vs= [g 0,.ptr A 0,.nilp,aB 0,vL,g 5,.ptr (X+8) 0,g 7,g 8,g 9,g 10,g 11,g 12,g 13,g 14,g 15,g 16,g 17,g 18,g 19,g 20,g 21,g 22,vL,aB m,aB i,g 26,g 27,g 28,g 29,g 30,g 31,g 32,g 33,g 34,g 35,g 36,g 37,g 38,g 39,g 40,g 41,g 42,g 43,g 44,g 45])/\i<=m/\hh.get (X+3)=some (.wmap .str (Vg L i))/\Fx (· =X+3) h3 hh/\k'=m-i) m
   ⟨0,aA rfl,lG _,gM,Fx.refl _ h3,rfl⟩ ?_
  rintro k' vars h4 ⟨i,⟨g,rfl⟩,hi,gM4,F4,rfl⟩
  by_cases hlt:(i:Int)<(m:Int)
  case neg=>
   have d4:=jC hlt;obtain rfl:i=m:=by omega
   simp(disch:=omega)only[go_sem,d4];exact⟨aA rfl,gM4,F4⟩
  have d4:=nL hlt
  have hi':i<m:=by omega
  have f24:Fr h2 h4:=⟨by have:=F4.next;omega,λq hq=>by rw[F4.get q (by omega) (by omega)];exact f3.get q hq⟩
  have gB4:h4.get (X+8)=some (.cells false [vL,.mp (X+3),.aC,.sl (X+6) 0 m (.kn m)]):=by rw[F4.get _ (by omega) (by omega)];exact gB
  obtain⟨vx,cx,sx⟩:=hLa i hi'
  have cB2:h4.cell (X+8) 1=some (.mp (X+3)):=by rw[H.aE gB4];rfl
  simp(disch:=omega)only[go_sem,d4,shL.ixa,cx h4 f24,cB2]
  refine (AZ vx (L.getD i []) _ (lt64 i hi').1 (lt64 i hi').2 (sx.mono (f24.trans ((Fr.refl h4).bJ (by omega))))).mono ?_
  rintro _ h5 ⟨rfl,f5⟩
  have f45:Fr h4 h5:=((Fr.refl h4).bJ (by omega)).trans f5
  have n4:=F4.next
  have gM5:h5.get (X+3)=some (.wmap .str (Vg L i)):=by rw[f45.get _ (by omega)];exact gM4
  have cB5:h5.cell (X+8) 1=some (.mp (X+3)):=by rw[f45.cell (by omega)];exact cB2
  have pt:=λhh=>PD E.nodup (show i<L.length by omega) (hK i hi') hh (X+3)
  simp(disch:=omega)only[go_sem,cB5,gM5,pt]
  rw[iJ i]
  refine⟨by simp [eN],m-(i+1),by omega,i+1,aA rfl,by omega,rfl,⟨by have:=f45.next;show h3.next<=h5.next;omega,λq h1 h2=>by rw[H.aH _ (λe=>h2 e),f45.get q (by omega)];exact F4.get q h1 h2⟩,rfl⟩
 rintro vars h4 ⟨⟨g,rfl⟩,gM4,F4⟩
 have n4:=F4.next
 have f24:Fr h2 h4:=⟨by omega,λq hq=>by rw[F4.get q (by omega) (by omega)];exact f3.get q hq⟩
 have gB4:h4.get (X+8)=some (.cells false [vL,.mp (X+3),.aC,.sl (X+6) 0 m (.kn m)]):=by rw[F4.get _ (by omega) (by omega)];exact gB
 have gN4:h4.get (X+6)=some (.cells false (rc m λ_=>aB 0)):=by rw[F4.get _ (by omega) (by omega)];exact gN
 have f14:=f2.trans f24
 have rA:=bX (h:=h4) (id:=A) (ro:=false) (by rw[f14.get _ (by omega)];exact g1)
 simp(disch:=omega)only[go_sem,rA]
 refine (GZ _ n O R G h4 (gc.mono (f1.trans f14))).mono ?_
 rintro _ h5 ⟨vS,rfl,nS⟩
 have f5:=nS.fr
 obtain⟨D,hD⟩:=exI h5.next
 obtain⟨h6,e6,n6,g6,o6,f6⟩:=iX hD (rc m λ_=>V.bool false)
 simp(disch:=omega)only[go_sem,lvL,GB,hD,e6]
 have f25:=f24.trans f5
 have hX5:=f25.next
 have n5:=f5.next
 obtain⟨wS,WS,owS,pvS,bkS,WS1⟩:=nS.ex
 obtain⟨S,hS⟩:=exI (gT R)
 rw[hS] at pvS
 have hwS:=bY.length pvS
 have hSG: ∀s∈S,G s:=λs hs=>Ix gc.isc (by rw[hS];exact hs)
 have hSgen: ∀x,G x->fF n (λg=>g∈S) x:=λx hx=>by rw[←hS];exact Xb hG gc.isc hx
 obtain⟨sl,hsl⟩:=exI S.length
 have hsl7:sl<=49:=by
  have h1: ∀j,j<R.length->(R.getD j []).length<=n:=λj hj=>by
   have hj':j<n:=by rw[←gc.isc.lr];exact hj
   rw[gc.isc.rl j hj'];have:=zY (λx hx=>hG.dS hx) hj' (gc.isc.asc j hj') (gc.isc.mem j hj');omega
  have h2:=Bo (n:=n) (R:=R) (jA _) h1;rw[List.take_length,hS,hsl,gc.isc.lr] at h2;have:n*n<=7*7:=Nat.mul_le_mul n7 n7;omega
 have lvS:=fC.lens owS (hwS.trans hsl)
 obtain⟨idS,offS,shS,hidS,hcS⟩:=SV.shape owS.sv sl (by omega) (by omega)
 have geS:=fC.ge owS (n:=sl) (by omega) (by omega) shS
 have hSa: ∀t,t<sl-> ∃vy,(∀hh,Fx (λq=>q=X+8∨D<=q) h5 hh->hh.cell idS (offS+t)=some vy)/\PV (λq=>q=X+8∨D<=q) h5 vy (S.getD t []):=λt ht=>by
  obtain⟨v,h1,h2'⟩:=jO.at pvS (i:=t) (by omega);have hi:=hidS (by omega);have hge:h4.next<=idS:=geS (by omega);refine⟨v,λhh f=>?_,h2'.tN λid hid hw=>WS1 id ?_⟩
  ·have e:hh.get idS=h5.get idS:=f.get idS hi (by omega)
   unfold H.cell;rw[e];have:=hcS t (by omega);rw[h1] at this;exact this
  ·rcases hw with e|e
   ·omega
   ·omega
 have J0:OfJ n G L X D vL h5 0 h6:=
  ⟨⟨.aC, [],λq=>q=D∨q=X+8∨q=X+6,by rw[f6.get _ (by omega),f5.get _ (by omega),hm];exact gB4,fC.aC _ _ _,trivial,λ_ _ _ _ e=>(by cases e),.inl rfl,.inr (.inl rfl),.inr (.inr rfl),λq h=>by rcases h with h|h|h<;>omega,λq h=>by rcases h with h|h|h<;>omega,.inl rfl⟩,
   by rw[g6,hm,show (λj=>V.bool (Dw G L 0 [] j))=λ_=>V.bool false from funext λj=>by rw[II]],Fx.of f6,by omega⟩
 refine cV (λvs hh=>(∃g:Nat->V,vs= [g 0,.ptr A 0,.nilp,aB 0,vL,g 5,.ptr (X+8) 0,g 7,g 8,g 9,g 10,g 11,g 12,g 13,g 14,g 15,g 16,g 17,g 18,g 19,g 20,g 21,g 22,g 23,g 24,g 25,g 26,g 27,g 28,g 29,g 30,g 31,g 32,g 33,g 34,g 35,g 36,g 37,g 38,g 39,g 40,g 41,g 42,g 43,g 44,g 45])/\OfJ n G L X D vL h5 m hh) ?_ ?_
 ·refine aI (λk' vs hh=> ∃(i:Nat),(∃g:Nat->V,vs= [g 0,.ptr A 0,.nilp,aB 0,vL,g 5,.ptr (X+8) 0,g 7,g 8,vS,.sl D 0 m (.kn m),g 11,g 12,g 13,g 14,g 15,g 16,g 17,g 18,g 19,g 20,g 21,g 22,g 23,g 24,g 25,g 26,vL,aB m,aB i,g 30,g 31,g 32,g 33,g 34,g 35,g 36,g 37,g 38,g 39,g 40,g 41,g 42,g 43,g 44,g 45])/\i<=m/\OfJ n G L X D vL h5 i hh/\k'=m-i) m
   ⟨0,aA rfl,lG _,J0,rfl⟩ ?_
  clear J0
  rintro k' vars h7 ⟨i,⟨g,rfl⟩,hi,J,rfl⟩
  by_cases hlt:(i:Int)<(m:Int)
  case neg=>
   have d4:=jC hlt;obtain rfl:i=m:=by omega
   simp(disch:=omega)only[go_sem,d4];exact⟨aA rfl,J⟩
  have d4:=nL hlt
  have hi':i<m:=by omega
  have nD:=J.nx
  have f27:Fr h2 h7:=⟨by omega,λq hq=>by rw[J.old.get q (by omega) (by omega)];exact f25.get q hq⟩
  obtain⟨vx,cx,sx⟩:=hLa i hi'
  have cD:=zQ J.gD (i:=i) (by omega)
  by_cases hr:AV G L i
  case neg=>
   have hsn:Dw G L i [] i=true:=by
    rw[mT];exact .inl (Ln λhn=>hr λj hj hc=>hn ⟨j,hj,hc⟩)
   rw[hsn] at cD;simp(disch:=omega)only[go_sem,d4,shL.ixa,cx h7 f27,cD];rw[iJ i];refine⟨m-(i+1),by omega,i+1,aA rfl,by omega,?_,rfl⟩;refine⟨?_,?_,J.old,J.nx⟩
   ·rw[(Kl i).2 hr];exact J.ex
   ·rw[J.gD,aU λj _=>by rw[MQ hG E (show i<L.length by omega) hr j]]
  have hsn:Dw G L i [] i=false:=by
   rw[←Bool.not_eq_true,mT];rintro (⟨j,hj,hc⟩|h)
   ·exact hr j hj hc
   ·cases h
  rw[hsn] at cD
  obtain⟨h8,e8,n8,g8,o8⟩:=Bv h7 D ((rc L.length λj=> .bool (Dw G L i [] j)).set i (.bool true))
  obtain⟨Z,hZ⟩:=exI h8.next
  obtain⟨h9,e9,n9,g9,o9,f9⟩:=iX hZ [aB i]
  have pt:=aX (vs:=rc L.length λj=> .bool (Dw G L i [] j)) (off:=i) (by rw[cZ];omega)
  clear bx gc sO sR rB rA hcL gN4 gB4 g1 o1 f1 f3 gB gN gM
  simp(disch:=omega)only[go_sem,d4,shL.ixa,cx h7 f27,cD,J.gD,pt,e8,dL h8 (z:= aB 0) (v:= aB i) rfl rfl,hZ,e9]
  have hZ7:h7.next=Z:=by omega
  have hc0:(rc L.length λj=>V.bool (Dw G L i [] j)).set i (.bool true)=rc L.length λj=> .bool (Dw G L i [i] j):=by
   rw[fW]
   exact aU λj _=>by
    rw[show [i]= []++ [i] from rfl,Tl]
    by_cases e:j=i
    ·rw[if_pos e,if_pos e]
    ·rw[if_neg e,if_neg e]
  have F79:Fx (· =D) h7 h9:=⟨by omega,λq h1 h2=>by rw[o9 q (by omega),o8 q h2]⟩
  have B0:BQ G L S i [i] 0:=⟨by simp,by simp,rfl,λj hj=>by
   obtain rfl:j=i:=by simpa using hj
   exact⟨by omega,De hG E (by omega)⟩,λk hk=>by omega⟩
  refine cV (λvs hh=> ∃(Q:List Nat) (q:Nat) (cp:qP),(∃g:Nat->V,vs= [g 0,.ptr A 0,.nilp,aB 0,vL,g 5,.ptr (X+8) 0,g 7,g 8,vS,.sl D 0 m (.kn m),aB i,vx,.sl q 0 Q.length cp,g 14,g 15,g 16,g 17,g 18,g 19,g 20,g 21,g 22,g 23,g 24,g 25,g 26,vL,aB m,aB i,g 30,g 31,g 32,g 33,g 34,g 35,g 36,g 37,g 38,g 39,g 40,g 41,g 42,g 43,g 44,g 45])/\
    BQ G L S i Q Q.length/\(cp= .un 1∨cp= .kn Q.length)/\hh.get q=some (.cells false (ints (zi Q)))/\Z<=q/\q<hh.next/\hh.get D=some (.cells false (rc L.length λj=> .bool (Dw G L i Q j)))/\Fx (· =D) h7 hh) ?_ ?_
  ·refine aI (λk' vs hh=> ∃(Q:List Nat) (q:Nat) (cp:qP) (p:Nat),(∃g:Nat->V,vs= [g 0,.ptr A 0,.nilp,aB 0,vL,g 5,.ptr (X+8) 0,g 7,g 8,vS,.sl D 0 m (.kn m),aB i,vx,.sl q 0 Q.length cp,aB p,g 15,g 16,g 17,g 18,g 19,g 20,g 21,g 22,g 23,g 24,g 25,g 26,vL,aB m,aB i,g 30,g 31,g 32,g 33,g 34,g 35,g 36,g 37,g 38,g 39,g 40,g 41,g 42,g 43,g 44,g 45])/\
    p<=Q.length/\BQ G L S i Q p/\(cp= .un 1∨cp= .kn Q.length)/\hh.get q=some (.cells false (ints (zi Q)))/\Z<=q/\q<hh.next/\hh.get D=some (.cells false (rc L.length λj=> .bool (Dw G L i Q j)))/\Fx (· =D) h7 hh/\k'=m-p) m
    ⟨[i],Z,_,0,aA rfl,lG _,B0,.inr rfl,g9,jA _,by omega,by rw[o9 _ (by omega),g8,hc0],F79,rfl⟩ ?_
   clear F79 B0 e8 n8 g8 o8 hZ e9 n9 g9 o9 f9 pt hc0
   rintro k' vars ha ⟨Q,q,cp,p,⟨g2,rfl⟩,hp,BQ0,hcp,gq,hq,nq,gD,Fa,rfl⟩
   have hQl:=BQ0.len
   by_cases hpl:(p:Int)<(Q.length:Int)
   case neg=>
    have d5:decide ((p:Int)<(Q.length:Int))=false:=decide_eq_false hpl;obtain rfl:p=Q.length:=by omega
    simp(disch:=omega)only[go_sem,d5];exact⟨Q,q,cp,aA rfl,BQ0,hcp,gq,hq,nq,gD,Fa⟩
   have d5:decide ((p:Int)<(Q.length:Int))=true:=decide_eq_true hpl
   have hp':p<Q.length:=by omega
   simp(disch:=omega)only[go_sem,d5,lvS]
   obtain⟨c,hc⟩:=exI (Q.getD p 0)
   obtain⟨hcm,hcc⟩:=BQ0.mem c (by rw[←hc];exact bB hp')
   have Cp:=jU hG E hcm
   refine Cx (λvs hh=> ∃(Q:List Nat) (q:Nat) (cp:qP),(∃g:Nat->V,vs= [g 0,.ptr A 0,.nilp,aB 0,vL,g 5,.ptr (X+8) 0,g 7,g 8,vS,.sl D 0 m (.kn m),aB i,vx,.sl q 0 Q.length cp,aB p,g 15,g 16,g 17,g 18,g 19,g 20,g 21,g 22,g 23,g 24,g 25,g 26,vL,aB m,aB i,g 30,g 31,g 32,g 33,g 34,g 35,g 36,g 37,g 38,g 39,g 40,g 41,g 42,g 43,g 44,g 45])/\
     p<Q.length/\BQ G L S i Q (p+1)/\(cp= .un 1∨cp= .kn Q.length)/\hh.get q=some (.cells false (ints (zi Q)))/\Z<=q/\q<hh.next/\hh.get D=some (.cells false (rc L.length λj=> .bool (Dw G L i Q j)))/\Fx (· =D) h7 hh) ?_ ?_
   ·refine aI (λk' vs hh=> ∃(Q:List Nat) (q:Nat) (cp:qP) (t:Nat),(∃g:Nat->V,vs= [g 0,.ptr A 0,.nilp,aB 0,vL,g 5,.ptr (X+8) 0,g 7,g 8,vS,.sl D 0 m (.kn m),aB i,vx,.sl q 0 Q.length cp,aB p,g 15,g 16,g 17,g 18,g 19,g 20,g 21,g 22,g 23,g 24,g 25,g 26,vL,aB m,aB i,g 30,g 31,g 32,vS,aB sl,aB t,g 36,g 37,g 38,g 39,g 40,g 41,g 42,g 43,g 44,g 45])/\
     p<Q.length/\t<=sl/\BQ G L S i Q p/\Q.getD p 0=c/\(∀s∈S.take t,∃j∈Q,L.getD j []=fS (L.getD c []) s)/\(cp= .un 1∨cp= .kn Q.length)/\hh.get q=some (.cells false (ints (zi Q)))/\Z<=q/\q<hh.next/\hh.get D=some (.cells false (rc L.length λj=> .bool (Dw G L i Q j)))/\Fx (· =D) h7 hh/\k'=sl-t) sl
     ⟨Q,q,cp,0,aA rfl,hp',lG _,BQ0,hc,λs hs=>(by simp at hs),hcp,gq,hq,nq,gD,Fa,rfl⟩ ?_
    clear BQ0 hcp gq hq nq gD Fa hc hp' hQl hpl d5 hp
    clear Q q cp
    rintro k' vars hb ⟨Q,q,cp,t,⟨g3,rfl⟩,hp',ht,BQ0,hc,hcl,hcp,gq,hq,nq,gD,Fb,rfl⟩
    by_cases htl:(t:Int)<(sl:Int)
    case neg=>
     have d5:decide ((t:Int)<(sl:Int))=false:=decide_eq_false htl;obtain rfl:t=sl:=by omega
     simp(disch:=omega)only[go_sem,d5];refine⟨Q,q,cp,aA rfl,hp',⟨BQ0.nd,BQ0.ne,BQ0.hd,BQ0.mem,λk hk s hs=>?_⟩,hcp,gq,hq,nq,gD,Fb⟩
     by_cases e:k=p
     ·subst e
      rw[hc];exact hcl s (by rw[←hsl,List.take_length];exact hs)
     ·exact BQ0.cl k (by omega) s hs
    have d5:decide ((t:Int)<(sl:Int))=true:=decide_eq_true htl
    have ht':t<sl:=by omega
    have hQl:=BQ0.len
    have nb:=Fb.next
    have FBb:Fx (λq=>q=X+8∨D<=q) h5 hb:=⟨by have:=J.old.next;omega,λq h1 h2=>by rw[Fb.get q (by omega) (λe=>h2 (.inr (by have:q=D:=e;omega)))];exact J.old.get q h1 h2⟩
    have f2b:Fr h2 hb:=⟨by omega,λq hq=>by rw[Fb.get q (by omega) (λe=>by have:q=D:=e;omega)];exact f27.get q hq⟩
    obtain⟨vy,cy,py⟩:=hSa t ht'
    obtain⟨vz,cz,sz⟩:=hLa c (by omega)
    obtain⟨s,hs⟩:=exI (S.getD t [])
    rw[hs] at py
    have hsS:s∈S:=by rw[←hs];exact bB (by omega)
    have Sp:=hG.dS (hSG s hsS)
    have cq:hb.cell q p=some (aB c):=by rw[H.aE gq,Bl hp',hc]
    simp(disch:=omega)only[go_sem,d5,shS.ixa,cy hb FBb,cq,shL.ixa,cz hb f2b]
    refine (Oj (rfl:T 85=some mF) vy n s _ (by omega) Sp ((py.fx FBb).si.mono ((Fr.refl hb).bJ (by omega)))).mono ?_
    rintro v47 k1 np1
    have K1:Fr hb k1:=((Fr.refl hb).bJ (by omega)).trans np1.fr
    have cq1:k1.cell q p=some (aB c):=by rw[K1.cell nq];exact cq
    have ez:=sz.eN
    simp(disch:=omega)only[go_sem,cq1,cz k1 (f2b.trans K1),ez]
    refine (Vj v47 vz (cF s) (L.getD c []) k1 (by rw[jS,Sp.len];omega) (np1.pv (W:=λ_=>False) id).si (sz.mono (f2b.trans K1)) (λj hj=>by rw[Cp.len];exact Sp.inv.eZ (by rw[←Sp.inv.len];exact hj))).mono ?_
    rintro v55 k2 np2
    have K2:=K1.trans np2.fr
    have P2:=Sp.inv.mul Cp
    simp(disch:=omega)only[go_sem]
    refine (Vj v55 vy _ s k2 (by rw[P2.len];omega) (np2.pv (W:=λ_=>False) id).si ((py.fx FBb).si.mono K2) (λj hj=>by rw[Sp.len];exact P2.eZ (by rw[←P2.len];exact hj))).mono ?_
    rintro v57 k3 np3
    have K3:=K2.trans np3.fr
    have P3:=P2.mul Sp
    have cq3:k3.cell q p=some (aB c):=by rw[K3.cell nq];exact cq
    have s57:=(np3.pv (W:=λ_=>False) id).si
    have o57:=s57.eD.2.1
    have gB3: ∃vK,k3.get (X+8)=some (.cells false [vL,.mp (X+3),vK,.sl (X+6) 0 L.length (.kn L.length)]):=by
     obtain⟨vK,_,_,gB,_⟩:=J.ex;exact⟨vK,by rw[K3.get _ (by omega),Fb.get _ (by omega) (λe=>by have:X+8=D:=e;omega)];exact gB⟩
    obtain⟨vK,gB3⟩:=gB3
    have cB3:k3.cell (X+8) 1=some (.mp (X+3)):=by rw[H.aE gB3];rfl
    obtain⟨j,hj,ej⟩: ∃j,j<L.length/\L.getD j []=fS (L.getD c []) s:=by
     have hm2:fS (L.getD c []) s∈L:=(E.mem _).2 (hG.mul (hG.mul (hG.inv (hSG s hsS)) (tF E hcm)) (hSG s hsS));obtain⟨j,hj,ej⟩:=Gx.1 hm2;exact⟨j,hj,by rw[List.getD,iK hj,←ej];rfl⟩
    have e57:aS (aS (cF s) (L.getD c [])) s=L.getD j []:=ej.symm
    rw[e57] at s57
    simp(disch:=omega)only[go_sem,cq3,cz k3 (f2b.trans K3),cB3,ez]
    refine (AZ v57 (L.getD j []) _ (lt64 j (by omega)).1 (lt64 j (by omega)).2 (s57.mono ((Fr.refl k3).bJ (by omega)))).mono ?_
    rintro _ k4 ⟨rfl,f4'⟩
    have K34:Fr k3 k4:=((Fr.refl k3).bJ (by omega)).trans f4'
    have K4:=K3.trans K34
    have n3k:=K3.next
    have gM4k:k4.get (X+3)=some (.wmap .str (Vg L L.length)):=by
     rw[K4.get _ (by omega),Fb.get _ (by omega) (λe=>by have:X+3=D:=e;omega),J.old.get _ (by omega) (by omega),f5.get _ (by omega),hm];exact gM4
    have cB4:k4.cell (X+8) 1=some (.mp (X+3)):=by rw[K34.cell (by omega)];exact cB3
    have lk:=λz=>JQ E.nodup hj (hK j (by omega)) z
    have cDj:k4.cell D j=some (.bool (Dw G L i Q j)):=by rw[K4.cell (by omega)];exact zQ gD hj
    have hij:cR G L i j:=mQ hG E (by omega) hcc ⟨s,hSG s hsS,ej.symm⟩
    have etk:S.take (t+1)=S.take t++ [s]:=by rw[iY [] (by omega),hs]
    have gq4:k4.get q=some (.cells false (ints (zi Q))):=by rw[K4.get _ nq];exact gq
    have gD4:k4.get D=some (.cells false (rc L.length λj=> .bool (Dw G L i Q j))):=by rw[K4.get _ (by omega)];exact gD
    have F4k:Fx (· =D) h7 k4:=⟨by have:=K4.next;omega,λq h1 h2=>by rw[K4.get q (by omega)];exact Fb.get q h1 h2⟩
    cases hsn2:Dw G L i Q j with
    |true=>
     rw[hsn2] at cDj
     have hjQ:j∈Q:=by
      rcases mT.1 hsn2 with ⟨i0,h1,h2'⟩|h1
      ·exact absurd (mQ hG E (by omega) h2' (zN hG E (by omega) hij)) (hr i0 h1)
      ·exact h1
     simp(disch:=omega)only[go_sem,cB4,gM4k,lk,cDj];rw[iJ t];refine⟨by simp [eN],sl-(t+1),by omega,Q,q,cp,t+1,aA rfl,hp',by omega,BQ0,hc,?_,hcp,gq4,hq,by have:=K4.next;omega,gD4,F4k,rfl⟩;rw[etk];intro s' hs';rcases La.1 hs' with h1|h1
     ·exact hcl s' h1
     ·obtain rfl:s'=s:=by simpa using h1
      exact⟨j,hjQ,ej⟩
    |false=>
     rw[hsn2] at cDj;have hjQ:j∉Q:=λh1=>by rw[mT.2 (.inr h1)] at hsn2;cases hsn2
     obtain⟨k5,e5,m5,g5,o5⟩:=Bv k4 D ((rc L.length λj=> .bool (Dw G L i Q j)).set j (.bool true));obtain⟨Y,hY⟩:=exI k5.next;obtain⟨k6,e6',m6,g6',o6',f6'⟩:=iX hY [aB j];have pt:=aX (vs:=rc L.length λj=> .bool (Dw G L i Q j)) (off:=j) (by rw[cZ];exact hj);have nk:=K4.next;have gq6:k6.get q=some (.cells false (ints (zi Q))):=by rw[o6' _ (by omega),o5 _ (by omega)];exact gq4
     have ow6:fC k6 (.sl q 0 Q.length cp) 1 (ints (zi Q)) 0:= .inr ⟨q,Q.length,cp, [],rfl,by rw[aJ,aP];simp,by rcases hcp with h1|h1;exact .inl h1;exact .inr ⟨h1,rfl⟩,lG _,by omega,by rw[List.append_nil];exact gq6⟩;obtain⟨k7,a7,p7⟩:=ow6.push (bytes:=8) (SV.one (v:= aB j) (id:=Y) (by omega) g6' (.kn 1)) (n:=Q.length) (m:=1) (by rw[aJ,aP];simp) rfl (by omega) (by omega) (by omega);simp(disch:=omega)only[go_sem,cB4,gM4k,lk,cDj,gD4,pt,e5,dL k5 (z:= aB 0) (v:= aB j) rfl rfl,hY,e6',a7];rw[iJ t];have el:ints (zi (Q++ [j]))=ints (zi Q)++ [aB j]:=by simp [zi,ints]
     have m7:=p7.next;have apD:dO (.sl q 0 Q.length cp) D:=λid off n c e e2=>by cases e;omega
     have hc0:(rc L.length λj'=>V.bool (Dw G L i Q j')).set j (.bool true)=rc L.length λj'=> .bool (Dw G L i (Q++ [j]) j'):=by
      rw[fW]
      exact aU λj' _=>by
       rw[Tl]
       by_cases e:j'=j
       ·rw[if_pos e,if_pos e]
       ·rw[if_neg e,if_neg e]
     refine⟨by simp [eN],sl-(t+1),by omega,Q++ [j],k6.next,.un 1,t+1,by rw[oS];exact aA rfl,by rw[oS];omega,by omega,⟨?_,by rw[oS];simp,?_,?_,?_⟩,?_,?_,.inl rfl,by rw[el];exact p7.get,by omega,by omega,?_,?_,rfl⟩
     ·rw[List.nodup_append]
      exact⟨BQ0.nd,by simp,λx hx y hy e=>by
       obtain rfl:y=j:=by simpa using hy
       exact hjQ (e▸hx)⟩
     ·rw[List.getD,Hu BQ0.ne];exact BQ0.hd
     ·intro x hx
      rcases La.1 hx with h1|h1
      ·exact BQ0.mem x h1
      ·obtain rfl:x=j:=by simpa using h1
       exact⟨hj,hij⟩
     ·intro k hk s' hs'
      obtain⟨y,hy,ey⟩:=BQ0.cl k hk s' hs';refine⟨y,La.2 (.inl hy),?_⟩;rw[ey,List.getD,List.getD,List.getD,List.getD,Hu (by omega)]
     ·rw[List.getD,Hu hp'];exact hc
     ·rw[etk]
      intro s' hs';rcases La.1 hs' with h1|h1
      ·obtain⟨y,hy,ey⟩:=hcl s' h1
       exact⟨y,La.2 (.inl hy),ey⟩
      ·obtain rfl:s'=s:=by simpa using h1
       exact⟨j,La.2 (.inr (by simp)),ej⟩
     ·rw[p7.old D (by omega) apD,o6' D (by omega),g5,hc0]
     ·refine⟨by omega,λx h1 h2=>?_⟩
      rw[p7.old x (by omega) (λid off n c e e2=>by cases e;omega),o6' x (by omega),o5 x h2];exact F4k.get x h1 h2
   clear BQ0 hcp gq hq nq gD Fa hc hpl d5 hp hp' hQl
   clear Q q cp
   rintro vars hb ⟨Q,q,cp,⟨g3,rfl⟩,hp',BQ1,hcp,gq,hq,nq,gD,Fb⟩
   have hQl:=BQ1.len
   simp(disch:=omega)only[go_sem]
   rw[iJ p]
   exact⟨m-(p+1),by omega,Q,q,cp,p+1,aA rfl,by omega,BQ1,hcp,gq,hq,nq,gD,Fb,rfl⟩
  clear F79 B0 e8 n8 g8 o8 hZ e9 n9 g9 o9 f9 pt hc0
  rintro vars hb ⟨Q,q,cp,⟨g3,rfl⟩,BQ1,hcp,gq,hq,nq,gD,Fb⟩
  have hQl:=BQ1.len
  have nb:=Fb.next
  have srt:=Pt hb q (zi Q) cp (by rw[aP];omega) gq nq
  rw[aP] at srt
  simp(disch:=omega)only[go_sem]
  refine srt.mono ?_
  rintro _ ka ⟨l',gl,pl,al,Fa⟩
  obtain rfl:=BQ1.sort hG E (jA _) (by omega) hSG hSgen pl al
  have hQo:Q.length=(gO G L i).length:=by have:=pl.length_eq;rw[aP,aP] at this;exact this.symm
  have na:=Fa.next
  have f2a:Fr h2 ka:=⟨by omega,λx hx=>by rw[Fa.get x (by omega) (λe=>by have:x=q:=e;omega),Fb.get x (by omega) (λe=>by have:x=D:=e;omega)];exact f27.get x hx⟩
  have X1:=jU hG E (show i<L.length by omega)
  simp(disch:=omega)only[go_sem]
  refine (Sj vx n (L.getD i []) ka n0 n7 X1 (sx.mono f2a)).mono ?_
  rintro _ kb ⟨rfl,fb⟩
  have nkb:=fb.next
  obtain⟨vK,ks,WK,gB,owK,aK,bK,wD,wB,wN,wn,wX,_⟩:=J.ex
  have hks:=bY.length aK
  have gBb:kb.get (X+8)=some (.cells false [vL,.mp (X+3),vK,.sl (X+6) 0 L.length (.kn L.length)]):=by
   rw[fb.get _ (by omega),Fa.get _ (by omega) (λe=>by have:X+8=q:=e;omega),Fb.get _ (by omega) (λe=>by have:X+8=D:=e;omega)];exact gB
  have cB2:kb.cell (X+8) 2=some vK:=by rw[H.aE gBb];rfl
  have owx:=sx.eD.2.1
  have eKo:=owK.sv.eN
  obtain⟨Y,hY⟩:=exI kb.next
  obtain⟨kc,ec,mc,gc',oc,fc⟩:=iX hY [vx,aB (jZ (L.getD i []) n:Nat),aB (Q.length:Int),.sl q 0 Q.length cp]
  have old7: ∀x,x<Z->x≠D->kc.get x=h7.get x:=λx h1 h2=>by
   rw[oc x (by omega),fb.get x (by omega),Fa.get x (by omega) (λe=>by have:x=q:=e;omega),Fb.get x (by omega) h2]
  have owKc:fC kc vK 4 (Cls.qL ks) (D+1):=owK.mono (by omega) λid off n' c e h1 h2=>old7 id (by omega) (by omega)
  have lr:=vF (G:=G) (L:=L) i
  obtain⟨kd,ad,pd⟩:=owKc.push (bytes:=64) (y:= .sl Y 0 1 (.kn 1)) (us:= [vx,aB (jZ (L.getD i []) n:Nat),aB (Q.length:Int),.sl q 0 Q.length cp]) (SV.all rfl (by omega) gc' _) (n:=ks.length) (m:=1) (Mb ks) rfl (by omega) (by omega) (by omega)
  have md:=pd.next
  have apB:dO vK (X+8):=λid off n' c e e2=>by have:=(owK.in _ _ _ _ e).2.1;omega
  have gBd:kd.get (X+8)=some (.cells false [vL,.mp (X+3),vK,.sl (X+6) 0 L.length (.kn L.length)]):=by
   rw[pd.old _ (by omega) apB,oc _ (by omega)];exact gBb
  obtain⟨ke,ee,me,ge,oe⟩:=Bv kd (X+8) [vL,.mp (X+3),.sl kc.next 0 (ks.length+1) (.un 4),.sl (X+6) 0 L.length (.kn L.length)]
  simp(disch:=omega)only[go_sem,cB2,GA sx.eD.1 owx,EW owx (w:= .sl q 0 Q.length cp) rfl rfl,DE owx (w:= .sl q 0 Q.length cp) rfl,hY,ec,ad,gBd,EF,ee]
  rw[iJ i]
  have dPV: ∀x,x<Z-> ¬WK x->ke.get x=h7.get x:=λx h1 h2=>by
   rw[oe x (λe=>h2 (e▸wB)),pd.old x (by omega) (λid off n' c e e2=>h2 (e2▸bK _ _ _ _ e)),old7 x h1 (λe=>h2 (e▸wD))]
  have FK:Fx WK h7 ke:=⟨by omega,λx h1 h2=>dPV x (by omega) h2⟩
  have f2e:Fr h2 ke:=⟨by omega,λx hx=>by rw[dPV x (by omega) (λh1=>by have:=wX x h1;omega)];exact f27.get x hx⟩
  have e1k:Cls.qL (ks++ [⟨vx,jZ (L.getD i []) n,Q.length,.sl q 0 Q.length cp,i,⟨sx.eD.1,owx,sx.eN⟩,⟨rfl,rfl,by simp [eN]⟩⟩])=Cls.qL ks++ [vx,aB (jZ (L.getD i []) n:Nat),aB (Q.length:Int),.sl q 0 Q.length cp]:=by
   simp [Cls.qL,Cls.KE.enc]
  refine⟨m-(i+1),by omega,i+1,aA rfl,by omega,⟨⟨_,ks++ [⟨vx,jZ (L.getD i []) n,Q.length,.sl q 0 Q.length cp,i,⟨sx.eD.1,owx,sx.eN⟩,⟨rfl,rfl,by simp [eN]⟩⟩],λx=>WK x∨x=kc.next,ge,?_,?_,λid off n' c e=>by cases e;exact .inr rfl,   .inl wD,.inl wB,.inl wN,λx h=>by rcases h with h|h;have:=wn x h;omega;omega,λx h=>by rcases h with h|h;exact wX x h;omega,.inr ⟨_,_,by rw[oS];rfl,?_⟩⟩,?_,?_,by omega⟩,rfl⟩
  ·rw[e1k]
   exact (pd.own (b:=D+1) (Mb ks) rfl (by omega)).mono (by omega) λid off n' c e h1 h2=>by cases e;exact oe _ (by omega)
  ·rw[(Kl i).1 hr]
   refine bY.append (aK.mono λa r k=>k.go FK (by omega) wX λx h1 h2=>by rcases h2 with h2|h2;exact h2;omega) ⟨⟨rfl,rfl,hQo,⟨sx.mono f2e,?_⟩,⟨?_,?_⟩⟩,trivial⟩
   ·rw[←hX];exact XO sx
   ·rw[hQo]
    refine SV.all (ro:=false) (by rw[aJ,aP,Nat.mul_one]) (by omega) ?_ _
    rw[oe q (by omega),pd.old q (by omega) (λid off n' c e e2=>by have:=wn _ (bK _ _ _ _ e);omega),oc q (by omega),fb.get q (by omega)]
    exact gl
   ·exact λh=>by rcases h with h|h;have:=wn _ h;omega;omega
  ·rw[e1k,oe _ (by omega)];exact pd.get
  ·rw[oe D (by omega),pd.old D (by omega) (λid off n' c e e2=>by have:=(owK.in _ _ _ _ e).2.1;omega),oc D (by omega),fb.get D (by omega),Fa.get D (by omega) (λe=>by have:D=q:=e;omega),gD,aU λj hj=>by rw[JI hG E (show i<L.length by omega) BQ1 hSG hSgen hj]]
  ·refine⟨by have:=J.old.next;omega,λx h1 h2=>?_⟩
   have hx8:x≠X+8:=λe=>h2 (.inl e)
   have hxD:x<D:=by omega
   rw[oe x hx8,pd.old x (by omega) (λid off n' c e e2=>by have:=(owK.in _ _ _ _ e).2.1;omega),old7 x (by omega) (by omega)]
   exact J.old.get x h1 h2
 rintro vars h7 ⟨⟨g,rfl⟩,J⟩
 exact hk L X D vL h2 h5 h7 A g hL ⟨E,by omega,f1.trans f2,hX,nw.sp,f25,by omega,hD,by rw[f5.get _ (by omega),hm];exact gM4,by rw[f5.get _ (by omega),hm];exact gN4,by rw[hm];exact J⟩
end
open Classical in
noncomputable def fQ (G:List Nat->Prop)(L:LN)(K:List Nat)(j:Nat):Nat:=K.findIdx λr=>decide (cR G L r j)
structure KR (n:Nat)(G:List Nat->Prop)(L:LN)(hh:H)(a:Cls.KE)(r:Nat):Prop where
 fst:a.fst=r
 ord:a.ord=jZ (L.getD r []) n
 size:a.size=(gO G L r).length
 rep:SI hh a.rep (zi (L.getD r []))
 ranks:SI hh a.ranks (zi (gO G L r))
theorem KR.mono {n:Nat}{G:List Nat->Prop}{L:LN}{h h':H}{a:Cls.KE}{r:Nat}(k:KR n G L h a r)(f:Fr h h'):KR n G L h' a r:=⟨k.fst,k.ord,k.size,k.rep.mono f,k.ranks.mono f⟩
def WX (n:Nat)(G:List Nat->Prop)(L:LN)(r s:Nat):Prop:=jZ (L.getD r []) n<jZ (L.getD s []) n∨jZ (L.getD r []) n=jZ (L.getD s []) n/\((gO G L r).length<(gO G L s).length∨(gO G L r).length=(gO G L s).length/\r<s)
structure Ap (n:Nat)(G:List Nat->Prop)(L:LN)(K:List Nat):Prop where
 perm:K.Perm (jY G L L.length)
 asc:K.Pairwise (WX n G L)
structure RG (n:Nat)(G:List Nat->Prop)(L:LN)(K:List Nat)(hh:H)(v:V):Prop where
 ex: ∃B M N S cp vL ks,v= .ptr B 0/\B<hh.next/\M<hh.next/\N<hh.next/\S<hh.next/\hh.get B=some (.cells false [vL,.mp M,.sl S 0 K.length cp,.sl N 0 L.length (.kn L.length)])/\
  hh.get M=some (.wmap .str (Vg L L.length))/\hh.get N=some (.cells false (rc L.length λj=> aB (fQ G L K j:Nat)))/\hh.get S=some (.cells false (Cls.qL ks))/\bY (KR n G L hh) ks K/\SP hh vL L
theorem RG.mono {n:Nat}{G:List Nat->Prop}{L:LN}{K:List Nat}{h h':H}{v:V}(g:RG n G L K h v)(f:Fr h h'):RG n G L K h' v:=by
 obtain⟨B,M,N,S,cp,vL,ks,e,hB,hM,hN,hS,gB,gM,gN,gS,a,sp⟩:=g.ex;have n1:=f.next;exact⟨B,M,N,S,cp,vL,ks,e,by omega,by omega,by omega,by omega,by rw[f.get _ hB];exact gB,by rw[f.get _ hM];exact gM,by rw[f.get _ hN];exact gN,by rw[f.get _ hS];exact gS,a.mono λ_ _ k=>k.mono f,sp.mono f⟩
section
variable {n:Nat} {G:List Nat->Prop} {L:LN} {K:List Nat} (hG:rO n G) (E:fL G L)
include hG E
omit hG E in
theorem Jl (h0:0<L.length):0∈jY G L L.length:=rR.2 ⟨h0,λj hj=>by omega⟩
theorem Hi (pK:K.Perm (jY G L L.length)){k:Nat}(hk:k<K.length){j:Nat}(hj:j∈gO G L (K.getD k 0)):fQ G L K j=k:=by
 classical
 obtain⟨hjl,hc⟩:=jP.1 hj;have hnd:K.Nodup:=pK.nodup_iff.2 (by unfold jY;exact List.Pairwise.filter _ List.nodup_range);have hK: ∀r∈K,r<L.length/\AV G L r:=λr hr=>rR.1 (pK.mem_iff.1 hr)
 unfold fQ;rw[List.findIdx_eq hk];have ek:K.getD k 0=K[k]:=Pm.cJ hk;rw[ek] at hc;refine⟨by simpa using hc,λi hi=>?_⟩;simp only[decide_eq_false_iff_not];intro hc2;have h1:=hK K[i] (List.getElem_mem _);have h2:=hK K[k] (List.getElem_mem _);have:=IT hG E h1.1 h2.1 h1.2 h2.2 hc2 hc;have hne:=List.pairwise_iff_getElem.1 hnd i k (by omega) hk hi;exact hne this
theorem Ed (pK:K.Perm (jY G L L.length)){j:Nat}(hj:j<L.length): ∃k,k<K.length/\j∈gO G L (K.getD k 0):=by
 obtain⟨r,h1,h2,h3⟩:=aaG hG E hj;have hr:r∈K:=pK.mem_iff.2 (rR.2 ⟨by omega,h2⟩);obtain⟨k,hk,ek⟩:=Gx.1 hr;exact⟨k,hk,jP.2 ⟨hj,by rw[Pm.cJ hk,ek];exact h3⟩⟩
end
open Classical in
noncomputable def Ll (G:List Nat->Prop)(L:LN)(K:List Nat)(k t j:Nat):Nat:=if (∃k0,k0<k/\j∈gO G L (K.getD k0 0))∨j∈(gO G L (K.getD k 0)).take t then fQ G L K j else 0
theorem KT (G:List Nat->Prop)(L:LN)(K:List Nat)(j:Nat):Ll G L K 0 0 j=0:=by
 classical
 unfold Ll;rw[if_neg];rintro (⟨k0,h,_⟩|h)
 ·omega
 ·simp at h
theorem ON (G:List Nat->Prop)(L:LN)(K:List Nat)(k j:Nat):Ll G L K k (gO G L (K.getD k 0)).length j=Ll G L K (k+1) 0 j:=by
 classical
 unfold Ll;rw[List.take_length,List.take_zero]
 have e:((∃k0,k0<k/\j∈gO G L (K.getD k0 0))∨j∈gO G L (K.getD k 0))↔((∃k0,k0<k+1/\j∈gO G L (K.getD k0 0))∨j∈([]:List Nat)):=by
  constructor
  ·rintro (⟨k0,h1,h2⟩|h)
   ·exact .inl ⟨k0,by omega,h2⟩
   ·exact .inl ⟨k,by omega,h⟩
  ·rintro (⟨k0,h1,h2⟩|h)
   ·by_cases e:k0=k
    ·subst e;exact .inr h2
    ·exact .inl ⟨k0,by omega,h2⟩
   ·cases h
 by_cases h:((∃k0,k0<k/\j∈gO G L (K.getD k0 0))∨j∈gO G L (K.getD k 0))
 ·rw[if_pos h,if_pos (e.1 h)]
 ·rw[if_neg h,if_neg (λx=>h (e.2 x))]
theorem JA {n:Nat}{G:List Nat->Prop}{L:LN}{K:List Nat}(hG:rO n G)(E:fL G L)(pK:K.Perm (jY G L L.length)){k:Nat}(hk:k<K.length){t:Nat}(ht:t<(gO G L (K.getD k 0)).length)(j:Nat):
  Ll G L K k (t+1) j=if j=(gO G L (K.getD k 0)).getD t 0 then k else Ll G L K k t j:=by
 classical
 by_cases e:j=(gO G L (K.getD k 0)).getD t 0
 ·rw[if_pos e]
  have hj:j∈gO G L (K.getD k 0):=by rw[e];exact bB ht
  unfold Ll
  rw[if_pos (.inr (by rw[iY 0 ht,e];simp))]
  exact Hi hG E pK hk hj
 ·rw[if_neg e]
  unfold Ll
  rw[iY 0 ht]
  simp only[La,List.mem_singleton,e,or_false]
theorem PC {n:Nat}{G:List Nat->Prop}{L:LN}{K:List Nat}(hG:rO n G)(E:fL G L)(pK:K.Perm (jY G L L.length)){j:Nat}(hj:j<L.length):Ll G L K K.length 0 j=fQ G L K j:=by
 classical
 obtain⟨k,h1,h2⟩:=Ed hG E pK hj;unfold Ll;rw[if_pos (.inl ⟨k,h1,h2⟩)]
theorem Ex {h:H}{S:Nat}{ro:Bool}: ∀{ks:List Cls.KE} {pre:List V},h.get S=some (.cells ro (pre++Cls.qL ks))-> ∀{i:Nat} (hi:i<ks.length),h.row S (pre.length+i*4) 4=some ks[i].enc
 | [],_,_,_,hi=>by simp at hi
 |a::r,pre,g,0,_=>by
  unfold H.row;rw[g];show sub (pre++(a.enc++Cls.qL r)) (pre.length+0*4) 4=some a.enc;simp only[sub,Nat.zero_mul,Nat.add_zero];have:a.enc.length=4:=rfl;rw[if_pos (by rw[oS,oS];omega),List.drop_left,List.take_append,List.take_of_length_le (by omega),this];simp
 |a::r,pre,g,i+1,hi=>by
  have g':h.get S=some (.cells ro ((pre++a.enc)++Cls.qL r)):=by rw[g,List.append_assoc];rfl
  have:=Ex g' (i:=i) (by simpa using hi);rw[oS,show a.enc.length=4 from rfl] at this;rw[show pre.length+(i+1)*4=pre.length+4+i*4 by omega];simpa using this
theorem IN (h:H)(id off:Nat)(a:Cls.KE):Zp h 4 (.ptr id off) (.agg a.enc)=fI (h.get id) h id off a.enc:=zR h id off 4 _ rfl (by simp [Cls.KE.enc,a.hrep.2.1,a.hranks.2.1,show (aB (a.ord:Int)).one=true from rfl,show (aB (a.size:Int)).one=true from rfl])
theorem IE (hh:H)(id:Nat)(a:Cls.KE)(x y z w:V):fI (some (.cells false [x,y,z,w])) hh id 0 a.enc=some (hh.set id (some (.cells false a.enc))):=by
 simp [fI,putAt,Cls.KE.enc]
theorem bY.ex {α β:Type}{R:α->β->Prop}{as:List α}{bs:List β}(h:bY R as bs){a:α}(ha:a∈as): ∃b∈bs,R a b:=by
 obtain⟨i,hi,rfl⟩:=Gx.1 ha;have hl:=bY.length h;exact⟨bs[i]'(by omega),List.getElem_mem _,bY.get h i hi (by omega)⟩
theorem SI.lit {h:H}{v:V}{l:List Int}(s:SI h v l)(hl:0<l.length): ∃id off m cap,v= .sl id off (m+1) cap/\m+1=l.length/\id<h.next/\ ∀i,i<l.length->h.cell id (off+i)=some (aB (l.getD i 0)):=by
 obtain⟨id,off,sh,hid,hc⟩:=s.open;rcases s with ⟨_,h0⟩|⟨id',off',len,cap,ro,vs,e,h2,h3,_⟩
 ·have:l.length=0:=by rw[←aJ,h0];rfl
  omega
 ·rw[aJ,Nat.mul_one] at h2
  have hx:=sh.ixa .i64 0 (by omega) (by omega);subst e;rw[Ds (by omega) (by omega)] at hx;simp only[Option.some.injEq,V.ptr.injEq] at hx;obtain⟨rfl,h5⟩:=hx;have h6:off'=off:=by omega
  subst h6;exact⟨id',off',l.length- 1,cap,by rw[show l.length- 1+1=len by omega],by omega,h3,hc⟩
theorem WU {W0:Nat->Prop}(vc:V)(n:Nat)(O:LN)(R:qI)(G:List Nat->Prop)(h:H)(gc:GC W0 h vc n O R G):
  Ev T 56 [vc] h (λv h'=> ∃p K,v= .tup [p,aB 0]/\RG n G (dD O R n 0 (bW n)) K h' p/\Ap n G (dD O R n 0 (bW n)) K/\Fr h h'):=by
 refine RP vc n O R G h gc _ λL X D vL h2 h5 h7 A g hL e=>?_
 rw[hL]
 have hG:=gc.oG
 have E:=e.el
 obtain⟨vK,ks,WK,gB,owK,aK,bK,wD,wB,wN,wn,wX,xK⟩:=e.j.ex
 have hks:=bY.length aK
 obtain⟨m,hm⟩:=exI L.length
 have h0:0<L.length:=List.length_pos_of_mem ((E.mem _).2 hG.one)
 have hk0:0<ks.length:=by rw[hks];exact List.length_pos_of_mem (Jl h0)
 obtain⟨S,cp,rfl,gS⟩: ∃id cap,vK= .sl id 0 ks.length cap/\h7.get id=some (.cells false (Cls.qL ks)):=by
  rcases xK with h1|h1
  ·subst h1;simp at hk0
  ·exact h1
 have wS:=bK _ _ _ _ rfl
 have nS:=wn _ wS
 have cB2:h7.cell (X+8) 2=some (.sl S 0 ks.length cp):=by rw[H.aE gB];rfl
 show Wp T none (Ps 2 kG.body) _ h7 _
 simp(disch:=omega)only[go_sem,Ps,MH,kG,cB2]
 have hR: ∀r∈jY G L L.length,r<L.length/\AV G L r:=λr hr=>rR.1 hr
 have hPp: ∀a∈ks,a.Pp h7 h7.next S:=λa ha=>by
  obtain⟨r,hr,k⟩:=bY.ex aK ha;obtain⟨hrl,hri⟩:=hR r hr;obtain⟨l1,l2⟩:=Oc hG E hrl hri;obtain⟨id,off,m',cap,e1,e2,e3,e4⟩:=SI.lit k.ranks.si (by rw[aP];exact l1);have ho:=k.ranks.off;rw[e1] at ho;refine⟨id,off,m',cap,e1,e3,λh1=>ho (h1▸wS),?_⟩;have:=e4 0 (by rw[aP];exact l1);rw[Nat.add_zero] at this;rw[this,zi,oK _ (d:=0) l1,l2,k.fst]
 refine (Cls.LM h7 S h7.next ks cp (by rw[hks];have:=vF (G:=G) (L:=L) L.length;have:=e.le;omega) gS nS (jA _) hPp).mono ?_
 rintro _ h8 ⟨ks',gS8,pm,srt,F8⟩
 obtain⟨K,hK⟩:=exI (ks'.map (λa:Cls.KE=>a.fst))
 have hlK:K.length=ks.length:=by rw[←hK,qX];exact pm.length_eq
 have hkr:ks.map (λa:Cls.KE=>a.fst)=jY G L L.length:=by
  refine List.ext_getElem (by rw[qX];exact hks) λi h1 h2=>?_
  rw[List.getElem_map];exact (bY.get aK i (by simpa using h1) h2).fst
 have pK:K.Perm (jY G L L.length):=by rw[←hK,←hkr];exact pm.map _
 have kK: ∀a∈ks',KO n G L X WK h7 a a.fst:=λa ha=>by
  obtain⟨r,hr,k⟩:=bY.ex aK (pm.mem_iff.1 ha);rw[k.fst];exact k
 have FK:Fx WK h7 h8:=⟨F8.next,λq h1 h2=>F8.get q h1 λh3=>h2 (by have:q=S:=h3;rw[this];exact wS)⟩
 have kK8: ∀a∈ks',KO n G L X WK h8 a a.fst:=λa ha=>(kK a ha).go FK (by have:=wX S wS;omega) wX λ_ _ h1=>h1
 have hSD:=(owK.in _ _ _ _ rfl).2.1
 have xD:=e.xD
 have n8:=F8.next
 have gB8:h8.get (X+8)=some (.cells false [vL,.mp (X+3),.sl S 0 ks.length cp,.sl (X+6) 0 L.length (.kn L.length)]):=by
  rw[F8.get _ (wn _ wB) (λh1=>by have:X+8=S:=h1;omega)];exact gB
 have cB8:h8.cell (X+8) 2=some (.sl S 0 ks.length cp):=by rw[H.aE gB8];rfl
 have gN7:h7.get (X+6)=some (.cells false (rc L.length λ_=> aB 0)):=by
  rw[e.j.old.get _ (by rw[e.n5];omega) (by omega)];exact e.gN
 have gN8:h8.get (X+6)=some (.cells false (rc L.length λj=> aB (Ll G L K 0 0 j:Nat))):=by
  rw[F8.get _ (wn _ wN) (λh1=>by have:X+6=S:=h1;omega),gN7,show (λj=>aB (Ll G L K 0 0 j:Nat))=λ_=>aB 0 from funext λj=>by rw[KT];rfl]
 have hKk: ∀k,k<K.length-> ∃a,ks'[k]? =some a/\KO n G L X WK h8 a (K.getD k 0):=λk hk=>by
  have hk':k<ks'.length:=by rw[pm.length_eq,←hlK];exact hk
  refine⟨ks'[k],iK hk',?_⟩;have:=kK8 _ (List.getElem_mem hk');have e2:K.getD k 0=(ks'[k]).fst:=by rw[Pm.cJ hk];subst hK;rw[List.getElem_map]
  rw[e2];exact this
 have le:=e.le
 have hKle:K.length<=L.length:=by rw[hlK,hks];exact vF _
 have nN:=wn _ wN
 rw[←hlK] at cB8 gB8
 simp(disch:=omega)only[go_sem,cB8]
 refine cV (λvs hh=>(∃g:Nat->V,vs= [g 0,g 1,.nilp,aB 0,g 4,g 5,.ptr (X+8) 0,g 7,g 8,g 9,g 10,g 11,g 12,g 13,g 14,g 15,g 16,g 17,g 18,g 19,g 20,g 21,g 22,g 23,g 24,g 25,g 26,g 27,g 28,g 29,g 30,g 31,g 32,g 33,g 34,g 35,g 36,g 37,g 38,g 39,g 40,g 41,g 42,g 43,g 44,g 45])/\hh.get (X+6)=some (.cells false (rc L.length λj=> aB (Ll G L K K.length 0 j:Nat)))/\Fx (· =X+6) h8 hh) ?_ ?_
 ·refine aI (λk' vs hh=> ∃(k:Nat),(∃g:Nat->V,vs= [g 0,g 1,.nilp,aB 0,g 4,g 5,.ptr (X+8) 0,g 7,g 8,g 9,g 10,g 11,g 12,g 13,g 14,g 15,g 16,g 17,g 18,g 19,g 20,g 21,g 22,g 23,g 24,g 25,g 26,g 27,g 28,g 29,g 30,g 31,g 32,g 33,g 34,g 35,g 36,g 37,.sl S 0 K.length cp,aB (K.length:Int),aB k,g 41,g 42,g 43,g 44,g 45])/\k<=K.length/\hh.get (X+6)=some (.cells false (rc L.length λj=> aB (Ll G L K k 0 j:Nat)))/\Fx (· =X+6) h8 hh/\k'=K.length-k) K.length
   ⟨0,aA rfl,lG _,gN8,Fx.refl _ _,rfl⟩ ?_
  rintro k' vars h9 ⟨k,⟨g,rfl⟩,hk,gN9,F9,rfl⟩
  have n9:=F9.next
  by_cases hlt:(k:Int)<(K.length:Int)
  case neg=>
   have d4:=jC hlt;obtain rfl:k=K.length:=by omega
   simp(disch:=omega)only[go_sem,d4];exact⟨aA rfl,gN9,F9⟩
  have d4:=nL hlt
  have hk':k<K.length:=by omega
  obtain⟨a,ea,ko⟩:=hKk k hk'
  have hkl:k<ks'.length:=by rw[pm.length_eq,←hlK];exact hk'
  have ea':ks'[k]=a:=by rw[iK hkl] at ea;simpa using ea
  have gS9:h9.get S=some (.cells false (Cls.qL ks')):=by rw[F9.get _ (by omega) (λh1=>by have:S=X+6:=h1;omega)];exact gS8
  have rw9:h9.row S (k*4) 4=some a.enc:=by
   have:=Ex (pre:= []) (by simpa using gS9) hkl;rw[ea'] at this;simpa using this
  obtain⟨Y,hY⟩:=exI h9.next
  obtain⟨ha,eha,na,ga,oa,fa⟩:=iX hY [.aC,aB 0,aB 0,.aC]
  obtain⟨hb,ehb,nb,gb,ob⟩:=Bv ha Y a.enc
  have cb3:hb.cell Y 3=some a.ranks:=by rw[H.aE gb];rfl
  have lr:=ko.ranks.si.lens
  rw[aP] at lr
  obtain⟨r,hr⟩:=exI (K.getD k 0)
  rw[hr] at ko lr
  simp(disch:=omega)only[go_sem,d4,rw9,hY,eha,IN,ga,IE,ehb,cb3,lr]
  have hrK:r∈jY G L L.length:=by rw[←hr];exact pK.mem_iff.1 (bB hk')
  obtain⟨hrl,hri⟩:=hR r hrK
  obtain⟨l1,l2⟩:=Oc hG E hrl hri
  obtain⟨idR,offR,mR,capR,e1,e2,e3,e4⟩:=SI.lit ko.ranks.si (by rw[aP];exact l1)
  have ho:=ko.ranks.off
  rw[e1] at ho
  have hRN:idR≠X+6:=λh1=>ho (h1▸wN)
  obtain⟨c,hc⟩:=exI ((gO G L r).length)
  rw[aP,hc] at e2 e4
  have hcl:c<=L.length:=by
   rw[←hc];have:=List.Nodup.length_le_of_subset (Br (G:=G) (L:=L) r) (l₂:=List.range L.length) λj hj=>Pl.2 (jP.1 hj).1
   rwa [List.length_range] at this
  rw[hc,e1]
  have Fb:Fx (· =X+6) h8 hb:=⟨by omega,λq h1 h2=>by rw[ob q (by omega),oa q (by omega)];exact F9.get q h1 h2⟩
  have gNb:hb.get (X+6)=some (.cells false (rc L.length λj=> aB (Ll G L K k 0 j:Nat))):=by rw[ob _ (by omega),oa _ (by omega)];exact gN9
  have gBb: ∀hh,Fx (· =X+6) h8 hh->hh.cell (X+8) 3=some (.sl (X+6) 0 L.length (.kn L.length)):=λhh f=>by
   have:hh.get (X+8)=h8.get (X+8):=f.get _ (by have:=wn _ wB;omega) (by omega);rw[H.aE (this.trans gB8)];rfl
  refine Cx (λvs hh=>(∃g:Nat->V,vs= [g 0,g 1,.nilp,aB 0,g 4,g 5,.ptr (X+8) 0,g 7,g 8,g 9,g 10,g 11,g 12,g 13,g 14,g 15,g 16,g 17,g 18,g 19,g 20,g 21,g 22,g 23,g 24,g 25,g 26,g 27,g 28,g 29,g 30,g 31,g 32,g 33,g 34,g 35,g 36,g 37,.sl S 0 K.length cp,aB (K.length:Int),aB k,g 41,g 42,g 43,g 44,g 45])/\hh.get (X+6)=some (.cells false (rc L.length λj=> aB (Ll G L K (k+1) 0 j:Nat)))/\Fx (· =X+6) h8 hh) ?_ ?_
  ·refine aI (λk' vs hh=> ∃(t:Nat),(∃g:Nat->V,vs= [g 0,g 1,.nilp,aB 0,g 4,g 5,.ptr (X+8) 0,g 7,g 8,g 9,g 10,g 11,g 12,g 13,g 14,g 15,g 16,g 17,g 18,aB k,g 20,g 21,g 22,g 23,g 24,g 25,g 26,g 27,g 28,g 29,g 30,g 31,g 32,g 33,g 34,g 35,g 36,g 37,.sl S 0 K.length cp,aB (K.length:Int),aB k,g 41,.sl idR offR (mR+1) capR,aB c,aB t,g 45])/\t<=c/\hh.get (X+6)=some (.cells false (rc L.length λj=> aB (Ll G L K k t j:Nat)))/\Fx (· =X+6) h8 hh/\k'=c-t) c
    ⟨0,aA rfl,lG _,gNb,Fb,rfl⟩ ?_
   clear gNb Fb gb ob cb3 nb ehb ga oa fa na eha rw9 gN9 F9 n9
   rintro k' vars hc' ⟨t,⟨g2,rfl⟩,ht,gNc,Fc,rfl⟩
   by_cases htl:(t:Int)<(c:Int)
   case neg=>
    have d5:decide ((t:Int)<(c:Int))=false:=decide_eq_false htl;obtain rfl:t=c:=by omega
    simp(disch:=omega)only[go_sem,d5];refine⟨aA rfl,?_,Fc⟩;rw[gNc,show (λj=>aB (Ll G L K k t j:Nat))=λj=>aB (Ll G L K (k+1) 0 j:Nat) from funext λj=>by rw[←ON,hr,hc]]
   have d5:decide ((t:Int)<(c:Int))=true:=decide_eq_true htl
   have ht':t<c:=by omega
   obtain⟨x,hx⟩:=exI ((gO G L r).getD t 0)
   have hxl:x<L.length:=by rw[←hx];exact (jP.1 (bB (by omega))).1
   have cR':hc'.cell idR (offR+t)=some (aB x):=by
    have e5:=e4 t ht';unfold H.cell at e5 ⊢;rw[Fc.get idR e3 hRN,e5,zi,oK _ (d:=0) (by omega),hx]
   have pt:=aX (vs:=rc L.length λj=> aB (Ll G L K k t j:Nat)) (off:=x) (by rw[cZ];exact hxl)
   have tl:(t:Int).toNat=t:=rfl
   simp(disch:=omega)only[go_sem,d5,cR',gBb hc' Fc,gNc,pt]
   rw[iJ t]
   refine⟨c-(t+1),by omega,t+1,aA rfl,by omega,?_,⟨Fc.next,λq h1 h2=>by rw[H.aH _ h2];exact Fc.get q h1 h2⟩,rfl⟩
   rw[fW,aU λj hj=>?_]
   rw[JA hG E pK hk' (by rw[hr];omega),hr,hx]
   by_cases ej:j=x
   ·rw[if_pos ej,if_pos ej]
   ·rw[if_neg ej,if_neg ej]
  rintro vars hd ⟨⟨g2,rfl⟩,gNd,Fd⟩
  simp(disch:=omega)only[go_sem]
  rw[iJ k]
  exact⟨K.length-(k+1),by omega,k+1,aA rfl,by omega,gNd,Fd,rfl⟩
 rintro vars h9 ⟨⟨g,rfl⟩,gN9,F9⟩
 have n9:=F9.next
 simp(disch:=omega)only[go_sem]
 have n2:=e.x2
 have o9: ∀q,q<D->q≠X+8->q≠X+6->h9.get q=h5.get q:=λq h1 h2 h3=>by
  rw[F9.get q (by have:=e.j.nx;omega) h3,F8.get q (by have:=e.j.nx;omega) (λh4=>by have:q=S:=h4;omega),e.j.old.get q (by rw[e.n5];exact h1) (λh4=>by rcases h4 with h4|h4;exact h2 h4;omega)]
 have nx:=e.j.nx
 have f29:Fr h2 h9:=⟨by omega,λq hq=>by rw[o9 q (by omega) (by omega) (by omega)];exact e.f25.get q hq⟩
 have F89:Fx WK h8 h9:=⟨F9.next,λq h1 h2=>F9.get q h1 λh3=>h2 (by have:q=X+6:=h3;rw[this];exact wN)⟩
 have hnd:K.Nodup:=pK.nodup_iff.2 (by classical exact (by unfold jY;exact List.Pairwise.filter _ List.nodup_range))
 have hlk:ks'.length=K.length:=by rw[←hK,qX]
 refine⟨.ptr (X+8) 0,K,rfl,⟨X+8,X+3,X+6,S,cp,vL,ks',rfl,by omega,by omega,by omega,by omega,?_,?_,?_,?_,?_,e.sp.mono f29⟩,⟨pK,?_⟩,e.f2.trans f29⟩
 ·rw[F9.get _ (by omega) (by omega)];exact gB8
 ·rw[o9 _ (by omega) (by omega) (by omega)];exact e.gM
 ·rw[gN9,aU λj hj=>by rw[PC hG E pK hj]]
 ·rw[F9.get _ (by omega) (by omega)];exact gS8
 ·refine bY.nC hlk λi h1 h2=>?_
  obtain⟨a,ea,ko⟩:=hKk i h2
  have ea':ks'[i]=a:=by rw[iK h1] at ea;simpa using ea
  have k9:=ko.go F89 (by omega) wX λ_ _ h1=>h1
  rw[Pm.cJ h2] at k9
  rw[ea']
  exact⟨k9.fst,k9.ord,k9.size,k9.rep.si,k9.ranks.si⟩
 ·have h1:ks'.Pairwise λa b=>a.fst≠b.fst:=by
   have:=hnd;rw[←hK] at this;exact List.pairwise_map.1 this
  rw[←hK,List.pairwise_map];refine List.Pairwise.imp_of_mem ?_ (List.Pairwise.and srt h1);rintro a b ha hb ⟨h2,h3⟩;have ka:=kK a ha;have kb:=kK b hb;have h4: ¬(b.lt a=true):=by rw[h2];simp
  rw[Cls.KE.lt_iff] at h4;unfold WX;rw[←ka.ord,←kb.ord,←ka.size,←kb.size];omega
theorem GI {n:Nat}{G:List Nat->Prop}{L:LN}{r s:Nat}(a:WX n G L r s)(b:WX n G L s r):False:=by
 unfold WX at a b;omega
theorem Ap.uniq {n:Nat}{G:List Nat->Prop}{L:LN}{K K':List Nat}(a:Ap n G L K)(b:Ap n G L K'):K=K':=
 (a.perm.trans b.perm.symm).eq_of_pairwise (λ_ _ _ _ h1 h2=>(GI h1 h2).elim) a.asc b.asc
noncomputable def yZ (G:List Nat->Prop)(L:LN)(K:List Nat):List Nat:=(List.range L.length).map (fQ G L K)
theorem QZ (G:List Nat->Prop)(L:LN)(K:List Nat):(rc L.length λj=>aB (fQ G L K j:Nat))=ints (zi (yZ G L K)):=by
 refine Kh (by rw[aJ,aP];simp [yZ]) λi hi=>?_
 rw[Bl (by simpa [yZ] using hi)];have:(yZ G L K).getD i 0=fQ G L K i:=by simp [yZ,hi]
 rw[this]
theorem MW {W0:Nat->Prop}(vc:V)(n:Nat)(O:LN)(R:qI)(G:List Nat->Prop)(h:H)(gc:GC W0 h vc n O R G)(L:LN)(hL:dD O R n 0 (bW n)=L):
  Ev T 21 [vc] h (λv h'=> ∃vl K,v= .tup [vl,aB 0]/\Ap n G L K/\SI h' vl (zi (yZ G L K))/\Fr h h'):=by
 obtain⟨vO,vR,e,sO,sR⟩:=gc.ch
 subst e
 refine bN uL rfl rfl ?_
 have oneO:vO.one=true:=QE sO
 have oneR:vR.one=true:=QF sR
 obtain⟨A,hA⟩:=exI h.next
 obtain⟨h1,e1,n1,g1,o1,f1⟩:=iX hA [aB n,vO,vR]
 have bx:=fJ h (v:= aB n) (u:=vO) (w:=vR) rfl oneO oneR
 have rB:=bX g1
 simp(disch:=omega)only[go_sem,uL,aF,bx,hA,e1,rB]
 refine (WU _ n O R G h1 (gc.mono f1)).mono ?_
 rw[hL]
 rintro _ h2 ⟨p,K,rfl,go,ik,f2⟩
 obtain⟨B,M,N,S,cp,vL,ks,rfl,hB,hM,hN,hS,gB,gM,gN,gS,a,sp⟩:=go.ex
 have c3:h2.cell B 3=some (.sl N 0 L.length (.kn L.length)):=by rw[H.aE gB];rfl
 simp(disch:=omega)only[go_sem]
 refine aZ (λhc=>(hc rfl).elim) (λ_=>?_)
 simp(disch:=omega)only[go_sem,c3]
 rw[QZ] at gN
 exact⟨_,K,rfl,ik,SV.all (by rw[aJ,aP];simp [yZ]) hN gN _,f1.trans f2⟩
def rG (ks:List Cls.KE):List V:=ks.flatMap λa=> [a.rep,aB (a.ord:Int),aB (a.size:Int)]
theorem zJ (ks:List Cls.KE):(rG ks).length=ks.length*3:=by
 induction ks with
 |nil=>rfl
 |cons a r ih=>
  show ([a.rep,aB (a.ord:Int),aB (a.size:Int)]++rG r).length=_;rw[oS,ih];show 3+r.length*3=(r.length+1)*3;omega
theorem QT {h:H}{Y:Nat}{ro:Bool}{a:Cls.KE}(g:h.get Y=some (.cells ro a.enc)):h.row Y 0 3=some [a.rep,aB (a.ord:Int),aB (a.size:Int)]:=by
 simp [H.row,g,sub,Cls.KE.enc]
theorem FI {v:V}(ho:v.one=true)(x y:Int)(h:H):uY h 3 [.aC,aB 0,aB 0] 1 [(0,3,.agg [v,aB x,aB y])]=some (.sl h.next 0 1 (.kn 1),h.new (.cells false [v,aB x,aB y])):=by
 have e:eE [V.aC,aB 0,aB 0] 3= [V.aC,aB 0,aB 0]:=rfl;simp [uY,jQ,putAt,e,ho,show ∀l,(V.agg l).cells=l from λ_=>rfl,show ∀z,(aB z).one=true from λ_=>rfl]
theorem So {W0:Nat->Prop}(vc:V)(n:Nat)(O:LN)(R:qI)(G:List Nat->Prop)(h:H)(gc:GC W0 h vc n O R G)(L:LN)(hL:dD O R n 0 (bW n)=L):
  Ev T 20 [vc] h (λv h'=> ∃vl K ks,v= .tup [vl,aB 0]/\Ap n G L K/\SV h' vl 3 (rG ks)/\bY (KR n G L h') ks K/\Fr h h'):=by
 obtain⟨vO,vR,e,sO,sR⟩:=gc.ch
 subst e
 refine bN tB rfl rfl ?_
 have oneO:vO.one=true:=QE sO
 have oneR:vR.one=true:=QF sR
 obtain⟨A,hA⟩:=exI h.next
 obtain⟨h1,e1,n1,g1,o1,f1⟩:=iX hA [aB n,vO,vR]
 have bx:=fJ h (v:= aB n) (u:=vO) (w:=vR) rfl oneO oneR
 have rB:=bX g1
 simp(disch:=omega)only[go_sem,tB,aF,bx,hA,e1,rB]
 refine (WU _ n O R G h1 (gc.mono f1)).mono ?_
 rw[hL]
 rintro _ h2 ⟨p,K,rfl,go,ik,f2⟩
 obtain⟨B,M,N,S,cp,vL,ks,rfl,hB,hM,hN,hS,gB,gM,gN,gS,aK,sp⟩:=go.ex
 have c2:h2.cell B 2=some (.sl S 0 K.length cp):=by rw[H.aE gB];rfl
 have hlk:=bY.length aK
 have hKle:K.length<=5040:=by
  have h1:=ik.perm.length_eq;have h2:=vF (G:=G) (L:=L) L.length;have h3:=nT gc;have h4:=(kV gc.oG gc.isc).2;rw[hL] at h4;omega
 simp(disch:=omega)only[go_sem]
 refine aZ (λhc=>(hc rfl).elim) (λ_=>?_)
 simp(disch:=omega)only[go_sem,c2]
 refine cV (λvs hh=> ∃v6,(∃g:Nat->V,vs= [g 0,g 1,g 2,g 3,g 4,g 5,v6,g 7,g 8,g 9,g 10,g 11,g 12])/\SV hh v6 3 (rG ks)/\Fr h2 hh) ?_ ?_
 ·refine aI (λk' vs hh=> ∃(k:Nat) (v6:V),(∃g:Nat->V,vs= [g 0,g 1,g 2,g 3,.ptr B 0,g 5,v6,g 7,g 8,.sl S 0 K.length cp,aB (K.length:Int),aB k,g 12])/\k<=K.length/\fC hh v6 3 (rG (ks.take k)) h2.next/\Fr h2 hh/\k'=K.length-k) K.length
   ⟨0,.aC,aA rfl,lG _,fC.aC _ _ _,Fr.refl _,rfl⟩ ?_
  rintro k' vars h9 ⟨k,v6,⟨g,rfl⟩,hk,ow,F9,rfl⟩
  by_cases hlt:(k:Int)<(K.length:Int)
  case neg=>
   have d4:=jC hlt;obtain rfl:k=K.length:=by omega
   simp(disch:=omega)only[go_sem,d4];rw[List.take_of_length_le (by omega)] at ow;exact⟨v6,aA rfl,ow.sv,F9⟩
  have d4:=nL hlt
  have hk':k<K.length:=by omega
  have hkl:k<ks.length:=by omega
  obtain⟨a,ea⟩:=exI (ks[k])
  have gS9:h9.get S=bZ (Cls.qL ks):=by rw[F9.get _ hS];exact gS
  have rw9:h9.row S (k*4) 4=some a.enc:=by
   have:=Ex (pre:= []) (by simpa using gS9) hkl;rw[ea] at this;simpa using this
  obtain⟨Y,hY⟩:=exI h9.next
  obtain⟨ha,eha,na,ga,oa,fa⟩:=iX hY [.aC,aB 0,aB 0,.aC]
  obtain⟨hb,ehb,nb,gb,ob⟩:=Bv ha Y a.enc
  obtain⟨Z,hZ⟩:=exI hb.next
  obtain⟨hc',ehc,nc,gc',oc,fc⟩:=iX hZ [a.rep,aB (a.ord:Int),aB (a.size:Int)]
  have F9c:Fr h9 hc':=⟨by omega,λq hq=>by rw[oc q (by omega),ob q (by omega),oa q (by omega)]⟩
  have owc:fC hc' v6 3 (rG (ks.take k)) h2.next:=ow.fr F9c
  obtain⟨hd,ad,pd⟩:=owc.push (bytes:=40) (y:= .sl Z 0 1 (.kn 1)) (us:= [a.rep,aB (a.ord:Int),aB (a.size:Int)]) (SV.all rfl (by omega) gc' _) (n:=k) (m:=1) (by rw[zJ,Lm];omega) rfl (by omega) (by omega) (by omega)
  simp(disch:=omega)only[go_sem,d4,rw9,hY,eha,IN,ga,IE,ehb,QT gb,FI a.hrep.2.1,hZ,ehc,ad]
  rw[iJ k]
  have el:rG (ks.take (k+1))=rG (ks.take k)++ [a.rep,aB (a.ord:Int),aB (a.size:Int)]:=by
   rw[List.take_succ_eq_append_getElem hkl,ea];simp [rG]
  have n9:=F9.next
  have nd:=pd.next
  have F9d:Fr h2 hd:=⟨by omega,λq hq=>by rw[pd.old q (by omega) (λid off n' c e e2=>by have:=(ow.in _ _ _ _ e).2.1;omega),F9c.get q (by omega)];exact F9.get q hq⟩
  exact⟨K.length-(k+1),by omega,k+1,_,aA rfl,by omega,by rw[el];exact pd.own (by rw[zJ,Lm];omega) rfl (by omega),F9d,rfl⟩
 rintro vars h9 ⟨v6,⟨g,rfl⟩,sv,F9⟩
 simp(disch:=omega)only[go_sem]
 exact⟨v6,K,ks,rfl,ik,sv,aK.mono λ_ _ k=>k.mono F9,(f1.trans f2).trans F9⟩
set_option maxRecDepth 100000
set_option maxRecDepth 100000
theorem Rt {n:Nat}{a:List Nat}(A:bG n a)(hn:n<=7):jZ a n∣420:=by
 unfold jZ;rw[Cw];intro c hc;obtain⟨l,hl,rfl⟩:=xV.1 hc;obtain⟨i,hi,rfl⟩:=xV.1 hl;have hin:i<n:=by unfold Lf at hi;exact Pl.1 (Tt.1 hi).1
 rw[zX];have h1:=(nY A hin).1;have h2:=Wz A hin;have: ∀k,k<8->0<k->k∣420:=by decide
 exact this _ (by omega) h1
theorem Ud {n:Nat}{G:List Nat->Prop}{L:LN}{K:List Nat}(hG:rO n G)(E:fL G L)(pK:K.Perm (jY G L L.length)){k:Nat}(hk:k<K.length){j:Nat}(hj:j<L.length):fQ G L K j=k↔cR G L (K.getD k 0) j:=by
 constructor
 ·intro h
  obtain⟨k2,h1,h2⟩:=Ed hG E pK hj;have h3:=Hi hG E pK h1 h2;obtain rfl:k2=k:=by omega
  exact (jP.1 h2).2
 ·intro h
  exact Hi hG E pK hk (jP.2 ⟨hj,h⟩)
theorem WZ {n:Nat}{a:List Nat}(A:bG n a): ∀k,pw n (aS a a) k=pw n a (2*k)
 |0=>rfl
 |k+1=>by
  show aS (pw n (aS a a) k) (aS a a)=pw n a (2*k+2);rw[WZ A k,←aW (mL A _) A A];rfl
theorem Qf {n:Nat}{a:List Nat}(A:bG n a):pw n a 1=a:=eY A
theorem NF {n:Nat}{G:List Nat->Prop}{L:LN}(hG:rO n G)(E:fL G L):0<L.length/\L.getD 0 []=bW n:=by
 have hm:=(E.mem _).2 hG.one;have h0:=List.length_pos_of_mem hm;refine⟨h0,?_⟩;obtain⟨i,hi,ei⟩:=Gx.1 hm;have e0:L.getD 0 []=L[0]:=by rw[List.getD,iK h0];rfl
 by_cases h:i=0
 ·subst h;rw[e0,ei]
 ·have h1:=List.pairwise_iff_getElem.1 E.asc 0 i h0 hi (by omega)
  rw[ei] at h1;have X:=jU hG E h0;rw[e0] at X;rcases one_le X with h2|h2
  ·rw[e0,←h2]
  ·exact (h1.asymm h2).elim
theorem Lx {α:Type}(p:α->Bool): ∀l:List α,l.length=(l.filter p).length+(l.filter λg=>!p g).length
 | []=>rfl
 |a::l=>by
  have ih:=Lx p l;cases h:p a
  ·rw[List.filter_cons_of_neg (by simp [h]),List.filter_cons_of_pos (by simp [h]),List.length_cons,List.length_cons];omega
  ·rw[List.filter_cons_of_pos (by simp [h]),List.filter_cons_of_neg (by simp [h]),List.length_cons,List.length_cons];omega
theorem Dr {α:Type}(f:α->Nat): ∀(J:List Nat) (l:List α),J.Nodup->(∀g∈l,f g∈J)->l.length=(J.map λj=>(l.filter λg=>decide (f g=j)).length).sum
 | [],l,_,h=>by
  cases l with
  |nil=>rfl
  |cons a r=>exact absurd (h a (by simp)) (by simp)
 |j::J,l,nd,h=>by
  rw[List.nodup_cons] at nd
  have ih:=Dr f J (l.filter λg=>!decide (f g=j)) nd.2 λg hg=>by
   rw[Tt] at hg;have h2:=h g hg.1;have h3:f g≠j:=by simpa using hg.2
   simpa [h3] using h2
  have e:(J.map λj'=>((l.filter λg=>!decide (f g=j)).filter λg=>decide (f g=j')).length)=J.map λj'=>(l.filter λg=>decide (f g=j')).length:=by
   refine List.map_congr_left λj' hj'=>?_
   rw[List.filter_filter];congr 1;refine List.filter_congr λg _=>?_
   by_cases h1:f g=j'
   ·have:j'≠j:=λe=>nd.1 (e▸hj')
    simp [h1,this]
   ·simp [h1]
  rw[e] at ih;rw[List.map_cons,List.sum_cons,←ih];exact Lx (λg=>decide (f g=j)) l
theorem Mm (c:Nat): ∀J:List Nat,(J.map λ_=>c).sum=J.length*c
 | []=>by simp
 |_::J=>by rw[List.map_cons,List.sum_cons,Mm c J,List.length_cons,Nat.succ_mul,Nat.add_comm]
section
variable {n:Nat} {G:List Nat->Prop} {L:LN} (hG:rO n G) (E:fL G L)
theorem Fv {n:Nat}{x c:List Nat}(X:bG n x)(C:bG n c):fS x c=x↔aS x c=aS c x:=by
 unfold fS;constructor
 ·intro h
  have h2:aS c (aS (aS (cF c) x) c)=aS c x:=by rw[h]
  rwa [←aW C (C.inv.mul X) C,←aW C C.inv X,iA C,eY X] at h2
 ·intro h
  rw[aW C.inv X C,h,←aW C.inv C X,gG C,eY X]
def MD (L:LN)(x:List Nat):LN:=L.filter λg=>decide (aS x g=aS g x)
include hG E in
theorem Wk {r:Nat}(hr:r<L.length):L.length=(gO G L r).length*(MD L (L.getD r [])).length:=by
 have X:=jU hG E hr;obtain⟨x,hx⟩:=exI (L.getD r []);have hxG:G x:=by rw[←hx];exact tF E hr
 rw[hx] at X ⊢;have hcm: ∀g∈L,fS x g∈L:=λg hg=>(E.mem _).2 (Xg hG hxG ⟨g,(E.mem _).1 hg,rfl⟩)
 have hidx: ∀y,y∈L->L.idxOf y<L.length/\L.getD (L.idxOf y) []=y:=λy hy=>by
  have h1:=List.idxOf_lt_length_of_mem hy;exact⟨h1,by rw[List.getD,iK h1];exact List.getElem_idxOf h1⟩
 rw[Dr (λg=>L.idxOf (fS x g)) (gO G L r) L (Br r) λg hg=>by
  obtain⟨h1,h2⟩:=hidx _ (hcm g hg);refine jP.2 ⟨h1,g,(E.mem _).1 hg,?_⟩
  rw[hx,h2],←Mm]
 congr 1;refine List.map_congr_left λj hj=>?_
 obtain⟨hjl,g0,hg0,e0⟩:=jP.1 hj;rw[hx] at e0;have G0:=hG.dS hg0
 have perm:((MD L x).map λc=>aS c g0).Perm (L.filter λg=>decide (L.idxOf (fS x g)=j)):=by
  refine (List.perm_ext_iff_of_nodup ?_ (List.Pairwise.filter _ E.nodup)).2 λg=>?_
  ·unfold MD
   refine List.pairwise_map.2 (List.Pairwise.imp_of_mem ?_ (List.Pairwise.filter _ E.nodup));intro a b ha hb hne e;exact hne (xE (hG.dS ((E.mem _).1 (Tt.1 ha).1)) (hG.dS ((E.mem _).1 (Tt.1 hb).1)) G0 e)
  ·rw[Tt,xV,decide_eq_true_eq]
   unfold MD;constructor
   ·rintro⟨c,hc,rfl⟩
    rw[Tt,decide_eq_true_eq] at hc;have hcG:=(E.mem _).1 hc.1;have C:=hG.dS hcG;refine⟨(E.mem _).2 (hG.mul hcG hg0),?_⟩;rw[rS X C G0,(Fv X C).2 hc.2,e0];have h1:=hidx (L.getD j []) (bB hjl);exact Fl E.nodup h1.1 hjl h1.2
   ·rintro⟨hg,hi⟩
    have hgG:=(E.mem _).1 hg;have Gp:=hG.dS hgG;have h1:=hidx _ (hcm g hg);rw[hi] at h1;have C:=Gp.mul G0.inv;refine⟨aS g (cF g0),?_,by rw[aW Gp G0.inv G0,gG G0,cI Gp]⟩;rw[Tt,decide_eq_true_eq];refine⟨(E.mem _).2 (hG.mul hgG (hG.inv hg0)),(Fv X C).1 ?_⟩;rw[rS X Gp G0.inv,←h1.2,←e0,zT X G0]
 rw[←perm.length_eq,qX]
end
set_option maxRecDepth 100000
set_option maxRecDepth 100000
structure Plc (l:LN)(x:List Nat)(k:Nat):Prop where
 le:k<=l.length
 lo: ∀i,i<k->tE (l.getD i []) x=true
 hi: ∀i,k<=i->i<l.length->tE (l.getD i []) x=false
theorem HZ (vl vx:V)(n:Nat)(l:LN)(x:List Nat)(h:H)(hn:n<1000)(hl:l.length<1000000)(hP: ∀g∈l,bG n g)(X:bG n x)(asc:l.Pairwise Lt)(hv:SP h vl l)(hx:SI h vx (zi x)):
  Ev T 54 [vl,vx] h (λv h'=> ∃k:Nat,v= .tup [aB k,.bool (decide (x∈l))]/\Plc l x k/\(x∈l->k<l.length/\l.getD k []=x)/\Fr h h'):=by
 obtain⟨ws,sv,al⟩:=hv
 have hws:=bY.length al
 rw[qX] at hws
 refine bN yC rfl rfl ?_
 have lv:dM vl=some (aB (l.length:Int)):=by unfold dM;rw[SV.len sv (n:=l.length) (by omega) (by omega)];rfl
 obtain⟨id,off,sh,hid,hc⟩:=SV.shape sv l.length (by omega) (by omega)
 have hlen: ∀i,i<l.length->(l.getD i []).length=n:=λi hi=>(hP _ (bB hi)).len
 have mono: ∀i j,i<j->j<l.length->Lt (l.getD i []) (l.getD j []):=λi j h1 h2=>by
  have ei:l.getD i []=l[i]:=by rw[List.getD,iK (by omega)];rfl
  have ej:l.getD j []=l[j]:=by rw[List.getD,iK h2];rfl
  rw[ei,ej];exact List.pairwise_iff_getElem.1 asc i j (by omega) h2 h1
 have cell: ∀hh,Fr h hh-> ∀i,i<l.length->hh.cell id (off+i)=some (ws.getD i .undef):=λhh f i hi=>by
  rw[f.cell (hid (by omega)),hc i (by omega)];simp [List.getD,show i<ws.length by omega]
 simp(disch:=omega)only[go_sem,yC,aF,lv]
 refine cV (λvs hh=> ∃k,(∃g:Nat->V,vs= [vl,vx,g 2,g 3,aB (k:Nat),g 5,g 6,g 7,g 8])/\Plc l x k/\Fr h hh) ?_ ?_
 ·refine aI (λk' vars hh=> ∃(i j:Nat),(∃g:Nat->V,vars= [vl,vx,g 2,g 3,aB i,aB j,g 6,g 7,g 8])/\i<=j/\j<=l.length/\(∀q,q<i->tE (l.getD q []) x=true)/\(∀q,j<=q->q<l.length->tE (l.getD q []) x=false)/\Fr h hh/\k'=j-i) l.length
   ⟨0,l.length,aA rfl,by omega,by omega,λm hm=>by omega,λm h1 h2=>by omega,Fr.refl h,rfl⟩ ?_
  rintro k' vars hh ⟨i,j,⟨g,rfl⟩,hij,hj,hlo,hhi,F,rfl⟩
  by_cases hlt:(i:Int)<(j:Int)
  case neg=>
   have e1:=jC hlt;obtain rfl:i=j:=by omega
   simp(disch:=omega)only[go_sem,e1];exact⟨i,aA rfl,⟨hj,hlo,hhi⟩,F⟩
  have e1:=nL hlt
  obtain⟨m,hm⟩:=exI ((i+j)/2)
  have ea:(i:Int)+(j:Int)=((i+j:Nat):Int):=by omega
  have ed:((i+j:Nat):Int).tdiv 2=(m:Int):=by rw[Int.tdiv_eq_ediv_of_nonneg (by omega)];omega
  have cm:=cell hh F m (by omega)
  have sm:=Tw al (i:=m) (by omega)
  generalize ws.getD m .undef=vm at cm sm
  simp(disch:=omega)only[go_sem,e1,ea,ed,sh.ixa,cm]
  refine (UL vm vx n _ x hh (by omega) (hlen m (by omega)) X.len (sm.mono F) (hx.mono F)).mono ?_
  rintro _ h3 ⟨rfl,f3⟩
  cases hl2:tE (l.getD m []) x with
  |true=>
   simp(disch:=omega)only[go_sem];rw[iJ m];refine⟨j-(m+1),by omega,m+1,j,aA rfl,by omega,hj,λq hq=>?_,hhi,F.trans f3,rfl⟩
   by_cases e:q=m
   ·rw[e];exact hl2
   ·have h1:=mono q m (by omega) (by omega)
    have h2:=(nK (by rw[hlen m (by omega),X.len])).1 hl2;exact (nK (by rw[hlen q (by omega),X.len])).2 (Lt.trans (by rw[hlen q (by omega),hlen m (by omega)]) h1 h2)
  |false=>
   simp(disch:=omega)only[go_sem];refine⟨m-i,by omega,i,m,aA rfl,by omega,by omega,hlo,λq h1 h2=>?_,F.trans f3,rfl⟩
   by_cases e:q=m
   ·rw[e];exact hl2
   ·rw[←Bool.not_eq_true]
    intro h3;have h4:=mono m q (by omega) h2;have h5:=(nK (by rw[hlen q h2,X.len])).1 h3;rw[(nK (by rw[hlen m (by omega),X.len])).2 (Lt.trans (by rw[hlen q h2,hlen m (by omega)]) h4 h5)] at hl2;cases hl2
 rintro vars h2 ⟨k,⟨g,rfl⟩,pk,F⟩
 have hmem:x∈l->k<l.length/\l.getD k []=x:=λhx2=>by
  obtain⟨q,hq,eq⟩:=Gx.1 hx2;have eq':l.getD q []=x:=by rw[List.getD,iK hq,←eq];rfl
  have h1:k<=q:=Nat.le_of_not_lt λh3=>by
   have:=pk.lo q h3;rw[eq',wM] at this;cases this
  have h2:k=q:=Nat.le_antisymm h1 (Nat.le_of_not_lt λh3=>by
   have h4:=mono k q h3 hq;rw[eq'] at h4;have h5:=pk.hi k (jA _) (by omega);rw[(nK (by rw[hlen k (by omega),X.len])).2 h4] at h5
   cases h5)
  exact⟨by omega,by rw[h2];exact eq'⟩
 by_cases hk:(k:Int)<(l.length:Int)
 ·have e1:=nL hk
  have cm:=cell h2 F k (by omega)
  have sm:=Tw al (i:=k) (by omega)
  generalize ws.getD k .undef=vm at cm sm
  simp(disch:=omega)only[go_sem,lv,e1,sh.ixa,cm]
  refine (qA vm vx _ _ h2 (sm.mono F) (hx.mono F) (by rw[aP,hlen k (by omega)];omega) (by rw[aP,X.len];omega)).mono ?_
  rintro _ h3 ⟨rfl,f3⟩
  have ed:decide (zi (l.getD k [])=zi x)=decide (x∈l):=by
   rw[decide_eq_decide];constructor
   ·intro h4
    have h5:l.getD k []=x:=List.map_inj_right (λu v h2=>by omega)|>.1 h4;rw[←h5];exact bB (by omega)
   ·intro h4;rw[(hmem h4).2]
  simp(disch:=omega)only[go_sem,ed]
  exact⟨k,rfl,pk,hmem,F.trans f3⟩
 ·have e1:=jC hk
  have ed:decide (x∈l)=false:=decide_eq_false λh4=>by have:=(hmem h4).1;omega
  simp(disch:=omega)only[go_sem,lv,e1]
  exact⟨k,by rw[ed],pk,hmem,F⟩
theorem Ot {g:Nat}(hgt:T g=some iC)(u w:V)(a b:List (List Int))(h:H)(hu:SR h u a)(hw:SR h w b)(la:a.length<1000000)(lb:b.length<1000000)(ra: ∀x∈a,x.length<1000000)(rb: ∀x∈b,x.length<1000000):
  Ev T g [u,w] h (λv h'=>v= .bool (decide (a=b))/\Fr h h'):=by
 refine Gq hgt rfl ?_
 have lu:=hu.lens
 have lw:=hw.lens
 obtain⟨wa,sa,aa⟩:=hu
 obtain⟨wb,sb,ab⟩:=hw
 have hwa:=bY.length aa
 have hwb:=bY.length ab
 obtain⟨id,off,sh,hid,hc⟩:=SV.shape sa a.length (by omega) (by omega)
 obtain⟨id2,off2,sh2,hid2,hc2⟩:=SV.shape sb b.length (by omega) (by omega)
 by_cases hl:(a.length:Int)=(b.length:Int)
 case neg=>
  have d1:decide ((a.length:Int)≠(b.length:Int))=true:=decide_eq_true hl;simp(disch:=omega)only[go_sem,iC,aF,lu,lw,d1];exact⟨by rw[decide_eq_false];intro e;exact hl (by rw[e]),Fr.refl h⟩
 have hl':a.length=b.length:=by omega
 have d1:decide ((a.length:Int)≠(b.length:Int))=false:=decide_eq_false (by simpa using hl)
 simp(disch:=omega)only[go_sem,iC,aF,lu,lw,d1]
 refine aI (λk' vars hh=> ∃(i:Nat),(∃g:Nat->V,vars= [u,w,g 2,aB i,g 4,g 5,g 6])/\i<=a.length/\(∀j,j<i->a.getD j []=b.getD j [])/\Fr h hh/\k'=a.length-i) a.length
  ⟨0,aA rfl,lG _,λj hj=>by omega,Fr.refl h,rfl⟩ ?_
 rintro k' vars hh ⟨i,⟨g,rfl⟩,hi,hs,F,rfl⟩
 by_cases hlt:(i:Int)<(a.length:Int)
 case neg=>
  have e1:=jC hlt;obtain rfl:i=a.length:=by omega
  simp(disch:=omega)only[go_sem,lu,e1]
  have:a=b:=by
   refine List.ext_getElem hl' λj h1 h2=>?_
   have:=hs j h1;rwa [List.getD,iK h1,List.getD,iK h2] at this
  exact⟨by rw[decide_eq_true this],F⟩
 have e1:=nL hlt
 have c1:hh.cell id (off+i)=some (wa.getD i .undef):=by
  rw[F.cell (hid (by omega)),hc i (by omega)];simp [List.getD,show i<wa.length by omega]
 have c2:hh.cell id2 (off2+i)=some (wb.getD i .undef):=by
  rw[F.cell (hid2 (by omega)),hc2 i (by omega)];simp [List.getD,show i<wb.length by omega]
 have s1:=Oi aa (i:=i) (by omega)
 have s2:=Oi ab (i:=i) (by omega)
 generalize wa.getD i .undef=va at c1 s1
 generalize wb.getD i .undef=vb at c2 s2
 have ev1:=s1.eN
 have ev2:=s2.eN
 simp(disch:=omega)only[go_sem,lu,e1,sh.ixa,c1,sh2.ixa,c2]
 refine (qA va vb _ _ _ (s1.mono (F.trans ((Fr.refl hh).bJ (by omega)))) (s2.mono (F.trans ((Fr.refl hh).bJ (by omega)))) (ra _ (bB (by omega))) (rb _ (bB (by omega)))).mono ?_
 rintro _ h3 ⟨rfl,f3⟩
 have F3:=F.trans (((Fr.refl hh).bJ (by omega)).trans f3)
 have c1':h3.cell id (off+i)=some va:=by
  have h4:Fr hh h3:=((Fr.refl hh).bJ (by omega)).trans f3;rw[h4.cell (by have:=hid (by omega);have:=F.next;omega)];exact c1
 have c2':h3.cell id2 (off2+i)=some vb:=by
  have h4:Fr hh h3:=((Fr.refl hh).bJ (by omega)).trans f3;rw[h4.cell (by have:=hid2 (by omega);have:=F.next;omega)];exact c2
 by_cases he:a.getD i []=b.getD i []
 ·have d2:decide (a.getD i []=b.getD i [])=true:=decide_eq_true he
  simp(disch:=omega)only[go_sem,d2,c1',c2',ev1,ev2]
  rw[iJ i]
  refine⟨a.length-(i+1),by omega,i+1,aA rfl,by omega,λj hj=>?_,F3,rfl⟩
  by_cases e:j=i
  ·rw[e];exact he
  ·exact hs j (by omega)
 ·have d2:decide (a.getD i []=b.getD i [])=false:=decide_eq_false he
  simp(disch:=omega)only[go_sem,d2,c1',c2',ev1,ev2]
  exact⟨by rw[decide_eq_false];intro e;exact he (by rw[e]),F3⟩
theorem Qj (u w:V)(a b:List (List Int))(h:H)(hu:SR h u a)(hw:SR h w b)(la:a.length<1000000)(lb:b.length<1000000)(ra: ∀x∈a,x.length<1000000)(rb: ∀x∈b,x.length<1000000):
  Ev T 32 [u,w] h (λv h'=>v= .bool (decide (a=b))/\Fr h h'):=Ot (rfl:T 32=some iC) u w a b h hu hw la lb ra rb
set_option maxRecDepth 100000
set_option maxRecDepth 100000
set_option maxRecDepth 100000
set_option maxRecDepth 100000
theorem OZ {ks:List Cls.KE}{i:Nat}(hi:i<ks.length):(rG ks)[i*3]? =some ks[i].rep/\(rG ks)[i*3+1]? =some (aB (ks[i].ord:Int))/\(rG ks)[i*3+2]? =some (aB (ks[i].size:Int)):=by
 induction ks generalizing i with
 |nil=>simp at hi
 |cons a r ih=>
  have e:rG (a::r)= [a.rep,aB (a.ord:Int),aB (a.size:Int)]++rG r:=rfl
  cases i with
  |zero=>exact⟨rfl,rfl,rfl⟩
  |succ i=>
   have h1:=ih (i:=i) (by simpa using hi);rw[e,show (i+1)*3=i*3+3 by omega];refine⟨?_,?_,?_⟩
   ·rw[List.getElem?_append_right (by simp)];exact h1.1
   ·rw[List.getElem?_append_right (by simp)];exact h1.2.1
   ·rw[List.getElem?_append_right (by simp)];exact h1.2.2
end Go.Proofs.YtapfcpkecmmagaaGreat
namespace Go.Pm
set_option maxRecDepth 100000
section
variable {n:Nat} {t:Dj}
theorem vM.gt (T:vM n t){i p:Nat}{y:List Nat}(h:t i p=some y):i<p:=by
 have Y:=T.dS _ _ _ h;have F:=T.fix _ _ _ h;obtain⟨h1,h2,h3⟩:=T.lt _ _ _ h;have m:=T.maps _ _ _ h;rcases Nat.lt_or_ge p i with h4|h4
 ·exact absurd (Y.inj h1 h2 (m.trans (F p h4).symm)) (by omega)
 ·omega
def eR (t:Dj)(i p:Nat):yA:=(List.range p).filterMap (t i)
def eB (n:Nat)(t:Dj)(i:Nat):yA:=(List.range i).flatMap λi=>eR t i n
theorem aaF:eB n t n=iU n t 0:=by
 unfold eB iU eR;simp
theorem Bf (T:vM n t):(iU n t 0).Nodup:=by
 have key: ∀i p i' p' y,t i p=some y->t i' p'=some y->i=i'/\p=p':=λi p i' p' y h1 h2=>by
  have g1:=T.gt h1;have g2:=T.gt h2;have f1:=T.fix _ _ _ h1;have f2:=T.fix _ _ _ h2;have m1:=T.maps _ _ _ h1;have m2:=T.maps _ _ _ h2
  have e:i=i':=by
   rcases Nat.lt_trichotomy i i' with h|h|h
   ·have:=f2 i h;omega
   ·exact h
   ·have:=f1 i' h;omega
  subst e;exact⟨rfl,m1.symm.trans m2⟩
 rw[←aaF];unfold eB;rw[List.Nodup,List.pairwise_flatMap];refine⟨λi _=>?_,?_⟩
 ·unfold eR
  rw[List.pairwise_filterMap];refine (List.nodup_range (n:=n)).imp ?_;intro p p' hne y hy y' hy' e;subst e;exact hne (key _ _ _ _ _ hy hy').2
 ·refine (List.nodup_range (n:=n)).imp ?_
  intro i i' hne y hy y' hy' e;subst e;obtain⟨p,_,h1⟩:=List.mem_filterMap.1 hy;obtain⟨p',_,h2⟩:=List.mem_filterMap.1 hy';exact hne (key _ _ _ _ _ h1 h2).1
def frF (n:Nat)(t:Dj)(l:yA):yA:=(iU n t 0).filter λy=>decide (y∉l)
def clF (n:Nat)(t:Dj)(x:List Nat)(l:yA):yA:=if (iU n t 0).length<(iU n (uH t n x) 0).length then l++frF n (uH t n x) l else l
structure Rd (n:Nat)(L:List Nat->Prop)(t:Dj)(l:yA):Prop where
 tl:Xt n L t
 nd:l.Nodup
 mem: ∀y,y∈l↔y∈iU n t 0
variable {L:List Nat->Prop} {l:yA}
theorem Rd.dS (c:Rd n L t l): ∀y∈l,bG n y:=λy hy=>c.tl.Jx.NX y ((c.mem y).1 hy)
theorem Rd.start (c:Xt n L t):Rd n L t (iU n t 0):=⟨c,Bf c.Jx,λ_=>Iff.rfl⟩
theorem Uz {t':Dj}(s:Sub t t'): ∀y,y∈iU n t 0->y∈iU n t' 0:=λy hy=>by
 obtain⟨i,p,h1,h2,h3,h4⟩:=fZ.1 hy;exact fZ.2 ⟨i,p,h1,h2,h3,s _ _ _ h4⟩
theorem Rd.step (c:Rd n L t l)(hL: ∀g,L g->bG n g){x:List Nat}(hx:fF n L x):
  Rd n L (uH t n x) (clF n t x l)/\Sub t (uH t n x)/\ins (uH t n x) n 0 x=none/\ ∃m,clF n t x l=l++m:=by
 obtain⟨a1,a2,a3⟩:=c.tl.ins hL hx
 have nd':=Bf a1.Jx
 refine⟨?_,a2,a3,?_⟩
 ·cases h:ins t n 0 x with
  |none=>
   have e:uH t n x=t:=by unfold uH;rw[h]
   unfold clF;rw[e,if_neg (Nat.lt_irrefl _)];exact c
  |some q=>
   obtain⟨i,r⟩:=q;have e:uH t n x=put t i (r.getD i 0) r:=by unfold uH;rw[h]
   obtain⟨b1,b2,b3,b4,b5,b6,_⟩:=yH c.tl.Jx n 0 x i r (by omega) (hx.dS hL) (λk hk=>by omega) h;have hr:r∈iU n (uH t n x) 0:=fZ.2 ⟨i,r.getD i 0,Nat.zero_le _,b2,b3.eZ b2,by rw[e];unfold put;rw[if_pos ⟨rfl,rfl⟩]⟩
   have hr2:r∉iU n t 0:=λh=>by
    obtain⟨j,q,_,_,_,h4⟩:=fZ.1 h;have h5:=a2 _ _ _ h4;have g1:=a1.Jx.gt h5;have f1:=a1.Jx.fix _ _ _ h5;have m1:=a1.Jx.maps _ _ _ h5;have h6:uH t n x i (r.getD i 0)=some r:=by rw[e];unfold put;rw[if_pos ⟨rfl,rfl⟩]
    have g2:=a1.Jx.gt h6
    have eij:i=j:=by
     rcases Nat.lt_trichotomy i j with h|h|h
     ·have:=f1 i h;omega
     ·exact h
     ·have:=b4 j h;omega
    subst eij;rw[←m1] at h4;rw[b6] at h4;cases h4
   have hlt:(iU n t 0).length<(iU n (uH t n x) 0).length:=by
    have:(r::iU n t 0).length<=(iU n (uH t n x) 0).length:=List.Nodup.length_le_of_subset (List.nodup_cons.2 ⟨hr2,Bf c.tl.Jx⟩) (λy hy=>by
     rcases List.mem_cons.1 hy with rfl|hy
     ·exact hr
     ·exact Uz a2 y hy)
    rw[List.length_cons] at this;omega
   unfold clF;rw[if_pos hlt];refine⟨a1,List.nodup_append.2 ⟨c.nd,nd'.filter _,λy hy z hz e2=>?_⟩,λy=>?_⟩
   ·subst e2
    have:=(List.mem_filter.1 hz).2;simp at this;exact this hy
   ·rw[List.mem_append]
    unfold frF;rw[List.mem_filter];constructor
    ·rintro (h|h)
     ·exact Uz a2 y ((c.mem y).1 h)
     ·exact h.1
    ·intro h
     by_cases h2:y∈l
     ·exact .inl h2
     ·exact .inr ⟨h,by simpa using h2⟩
 ·unfold clF
  split
  ·exact⟨_,rfl⟩
  ·exact⟨[],(List.append_nil _).symm⟩
theorem Rd.gen (c:Rd n L t l): ∀y∈l,fF n L y:=λy hy=>c.tl.gen y ((c.mem y).1 hy)
def Pr (n:Nat)(t:Dj)(l:yA)(a b:Nat):Prop:=ins t n 0 (aS (l.getD a []) (l.getD b []))=none
theorem Pr.mono {t':Dj}{m:yA}{a b:Nat}(h:Pr n t l a b)(s:Sub t t')(ha:a<l.length)(hb:b<l.length):Pr n t' (l++m) a b:=by
 have e: ∀k,k<l.length->(l++m).getD k []=l.getD k []:=λk hk=>by rw[List.getD,List.getD,List.getElem?_append_left hk]
 unfold Pr;rw[e a ha,e b hb];exact Qo s _ _ _ h
end
end Go.Pm
namespace Go.Proofs.YtapfcpkecmmagaaGreat
open Go Go.Ay Go.Pm
set_option maxRecDepth 100000
theorem Pw (h:H)(x:Int):uY h 1 [aB 0] 1 [(0,1,aB x)]=some (.sl h.next 0 1 (.kn 1),h.new (.cells false (ints [x]))):=by
 have e:eE [aB 0] 1= [aB 0]:=rfl;simp [uY,jQ,e,putAt,V.cells,V.one,ints]
theorem NB {h:H}{v:V}{sz b:Nat}{ws:List V}(o:fC h v sz ws b): ∀id off len cap,v= .sl id off len cap->b<=id:=by
 rcases o with ⟨rfl,_⟩|⟨id,n,cap,rest,rfl,_,_,h3,_⟩
 ·intro _ _ _ _ e;cases e
 ·intro _ _ _ _ e;cases e;exact h3
theorem Hc (l:List Nat)(x:Nat):zi (l++ [x])=zi l++ [(x:Int)]:=by simp [zi]
theorem Fw {l:List Nat}{i:Nat}(hi:i<l.length):l.take (i+1)=l.take i++ [l.getD i 0]:=by
 rw[List.take_add_one,iK hi,cJ hi];rfl
theorem By (u w:V)(a b:List Nat)(h:H)(hN:a.length<=1000)(hu:SI h u (zi a))(hw:SI h w (zi b))(hr: ∀i,i<a.length->a.getD i 0<b.length):
  Ev T 24 [u,w] h (λv h'=>SI h' v (zi (aS a b))/\Fr h h'/\ ∀id off len cap,v= .sl id off len cap->h.next<=id):=by
 refine bN Eu rfl rfl ?_
 have lu:=hu.lens
 rw[aP] at lu
 obtain⟨id,off,sh,hid,hc⟩:=hu.open
 rw[aP] at sh hid hc
 obtain⟨id2,off2,sh2,hid2,hc2⟩:=hw.open
 rw[aP] at sh2 hid2 hc2
 simp(disch:=omega)only[go_sem,Eu,aF]
 refine aI (λk' vars hh=> ∃(i:Nat) (o:V),(∃j:Nat->V,vars= [u,w,j 2,o,aB i,j 5])/\i<=a.length/\fC hh o 1 (ints (zi ((aS a b).take i))) h.next/\Fr h hh/\k'=a.length-i) a.length
  ⟨0,.aC,aA rfl,lG _,fC.aC _ _ _,Fr.refl h,rfl⟩ ?_
 rintro k' vars h2 ⟨i,o,⟨jk,rfl⟩,hi,oO,F,rfl⟩
 simp(disch:=omega)only[go_sem,lu]
 by_cases hlt:(i:Int)<(a.length:Int)
 ·rw[decide_eq_true hlt]
  have hi':i<a.length:=by omega
  have ci:h2.cell id (off+i)=some (aB (a.getD i 0:Nat)):=by rw[F.cell (hid (by omega)),hc i hi'];congr 2;simp [zi,hi']
  have r:=hr i hi'
  have hm:=cU (b:=b) hi'
  generalize hk:a.getD i 0=k at ci r hm
  have ck:h2.cell id2 (off2+k)=some (aB (b.getD k 0:Nat)):=by rw[F.cell (hid2 (by omega)),hc2 k r];congr 2;simp [zi,r]
  simp(disch:=omega)only[go_sem,sh.ixa,ci,sh2.ixa,ck,Pw]
  have hf31:Fr h2 (h2.new (.cells false (ints [((b.getD k 0:Nat):Int)]))):=(Fr.refl h2).new _
  have hg31:(h2.new (.cells false (ints [((b.getD k 0:Nat):Int)]))).get h2.next=some (.cells false (ints [((b.getD k 0:Nat):Int)])):=H.aL ..
  have hn31:(h2.new (.cells false (ints [((b.getD k 0:Nat):Int)]))).next=h2.next+1:=H.aV ..
  generalize h2.new (.cells false (ints [((b.getD k 0:Nat):Int)]))=h31 at*
  have sx:SV h31 (.sl h2.next 0 1 (.kn 1)) 1 (ints [((b.getD k 0:Nat):Int)]):=SV.all rfl (by omega) hg31 _
  have nF:=F.next
  have hl:(aS a b).length=a.length:=fK a b
  obtain⟨v2,h32,e32,a32⟩:=(oO.fr hf31).app (bytes:=8) (n:=i) (m:=1) (by omega) sx (by rw[aJ,aP,Lm,Nat.mul_one];omega) rfl (by omega) (by omega)
  simp(disch:=omega)only[go_sem,e32]
  have t32:=a32.own
  rw[←qD,←hm,←Hc,←Fw (by omega)] at t32
  rw[iJ i]
  exact⟨a.length-(i+1),by omega,i+1,v2,aA rfl,by omega,t32,a32.fr h (F.trans hf31) (jA _),rfl⟩
 rw[decide_eq_false hlt]
 obtain rfl:i=a.length:=by omega
 simp(disch:=omega)only[go_sem]
 rw[List.take_of_length_le (by rw[fK];omega)] at oO
 exact⟨oO.sv,F,NB oO⟩
theorem AF (n:Nat)(h:H)(hN:n<=1000):
  Ev T 51 [aB n] h (λv h'=>SI h' v (zi (bW n))/\Fr h h'/\ ∀id off len cap,v= .sl id off len cap->h.next<=id):=by
 refine bN vQ rfl rfl ?_
 simp(disch:=omega)only[go_sem,vQ,aF]
 refine aI (λk' vars hh=> ∃(i:Nat) (o:V),(∃j:Nat->V,vars= [aB n,j 1,o,aB i,j 4])/\i<=n/\fC hh o 1 (ints (zi ((bW n).take i))) h.next/\Fr h hh/\k'=n-i) n
  ⟨0,.aC,aA rfl,lG _,fC.aC _ _ _,Fr.refl h,rfl⟩ ?_
 rintro k' vars h2 ⟨i,o,⟨jk,rfl⟩,hi,oO,F,rfl⟩
 simp(disch:=omega)only[go_sem]
 by_cases hlt:(i:Int)<(n:Int)
 ·rw[decide_eq_true hlt]
  have hi':i<n:=by omega
  simp(disch:=omega)only[go_sem,Pw]
  have hf31:Fr h2 (h2.new (.cells false (ints [(i:Int)]))):=(Fr.refl h2).new _
  have hg31:(h2.new (.cells false (ints [(i:Int)]))).get h2.next=some (.cells false (ints [(i:Int)])):=H.aL ..
  have hn31:(h2.new (.cells false (ints [(i:Int)]))).next=h2.next+1:=H.aV ..
  generalize h2.new (.cells false (ints [(i:Int)]))=h31 at*
  have sx:SV h31 (.sl h2.next 0 1 (.kn 1)) 1 (ints [(i:Int)]):=SV.all rfl (by omega) hg31 _
  have nF:=F.next
  have hl:=iB n
  obtain⟨v2,h32,e32,a32⟩:=(oO.fr hf31).app (bytes:=8) (n:=i) (m:=1) (by omega) sx (by rw[aJ,aP,Lm,Nat.mul_one];omega) rfl (by omega) (by omega)
  simp(disch:=omega)only[go_sem,e32]
  have t32:=a32.own
  have hm:=fD hi'
  have e1:zi ((bW n).take i)++ [(i:Int)]=zi ((bW n).take (i+1)):=by rw[Fw (by omega),Hc,hm]
  rw[←qD,e1] at t32
  rw[iJ i]
  exact⟨n-(i+1),by omega,i+1,v2,aA rfl,by omega,t32,a32.fr h (F.trans hf31) (jA _),rfl⟩
 rw[decide_eq_false hlt]
 obtain rfl:i=n:=by omega
 simp(disch:=omega)only[go_sem]
 rw[List.take_of_length_le (by rw[iB];omega)] at oO
 exact⟨oO.sv,F,NB oO⟩
theorem WI (u:V)(n:Nat)(a:List Nat)(h:H)(hn:n<=1000)(A:bG n a)(hu:SI h u (zi a)):
  Ev T 25 [u] h (λv h'=>Vb h h' v (cF a)):=by
 refine bN Gc rfl rfl ?_
 have la:=A.len
 have lu:=hu.lens
 rw[aP,la] at lu
 obtain⟨id,off,sh,hid,hc⟩:=hu.open
 rw[aP,la] at sh hid hc
 simp(disch:=omega)only[go_sem,Gc,aF,lu,kT h n (by omega)]
 have hf1:Fr h (h.new (.cells false (rc n λ_=> aB 0))):=(Fr.refl h).new _
 have hg1:(h.new (.cells false (rc n λ_=> aB 0))).get h.next=some (.cells false (rc n λ_=> aB 0)):=H.aL ..
 have hn1:(h.new (.cells false (rc n λ_=> aB 0))).next=h.next+1:=H.aV ..
 generalize h.new (.cells false (rc n λ_=> aB 0))=h1 at*
 obtain⟨S,hS⟩:=exI h.next
 rw[hS] at hg1 hn1
 rw[hS]
 refine aI (λk' vars hh=> ∃(i:Nat),(∃j:Nat->V,vars= [u,.aC,.sl S 0 n (.kn n),aB i,j 4])/\i<=n/\
   hh.get S=some (.cells false (rc n λj=>if a.idxOf j<i then aB (a.idxOf j:Nat) else aB 0))/\hh.next=S+1/\Fr h hh/\k'=n-i) n
  ⟨0,aA rfl,lG _,by rw[hg1];rfl,hn1,hf1,rfl⟩ ?_
 clear hg1 hf1 hn1
 rintro k' vars h2 ⟨i,⟨jk,rfl⟩,hi,gS,lS,F,rfl⟩
 simp(disch:=omega)only[go_sem,lu]
 by_cases hlt:(i:Int)<(n:Int)
 ·rw[decide_eq_true hlt]
  have hi':i<n:=by omega
  have ci:h2.cell id (off+i)=some (aB (a.getD i 0:Nat)):=by rw[F.cell (hid (by omega)),hc i hi'];congr 2;simp [zi,la,hi']
  have r:=A.eZ hi'
  have hx:a.idxOf (a.getD i 0)=i:=A.inj (A.idx r).1 hi' (A.idx r).2
  generalize hk:a.getD i 0=k at ci r hx
  have e1:decide ((k:Int)<0)=false:=jC (by omega)
  have e2:decide ((n:Int)<=(k:Int))=false:=jC (by omega)
  have pt:=aX (vs:=rc n λj=>if a.idxOf j<i then aB (a.idxOf j:Nat) else aB 0) (off:=k) (by rw[cZ];exact r) h2 S (aB i)
  rw[fW] at pt
  simp(disch:=omega)only[go_sem,sh.ixa,ci,e1,e2,gS,pt]
  rw[iJ i]
  refine⟨n-(i+1),by omega,i+1,aA rfl,by omega,?_,lS,F.set (by omega) _,rfl⟩
  congr 2
  refine aU λj hj=>?_
  by_cases e:j=k
  ·rw[if_pos e,e,hx,if_pos (by omega)]
  ·rw[if_neg e]
   have hne:a.idxOf j≠i:=λe3=>e (by rw[←(A.idx hj).2,e3,hk])
   by_cases e2:a.idxOf j<i
   ·rw[if_pos e2,if_pos (by omega)]
   ·rw[if_neg e2,if_neg (by omega)]
 rw[decide_eq_false hlt]
 obtain rfl:i=n:=by omega
 simp(disch:=omega)only[go_sem]
 refine⟨by rw[jS,la,hS],?_,by rw[hS];exact lS,F⟩
 rw[hS,gS]
 congr 2
 rw[←Mv,jS,la]
 exact aU λj hj=>by rw[if_pos (A.idx hj).1,pZ (by rw[la];exact hj)]
structure CH (b:Nat)(W:Nat->Prop)(h:H)(n:Nat)(tv:V)(ρ:Nat->Nat)(F:Nat->Nat->V)(t:Dj):Prop where
 sv:SV h tv 1 (rc n λi=> .sl (ρ i) 0 n (.kn n))
 off:Vl W tv
 row: ∀i,i<n->h.get (ρ i)=some (.cells false (rc n (F i)))
 wb: ∀i,i<n->W (ρ i)
 DJ: ∀id,W id->id<h.next
 low: ∀id,W id->b<=id
 inj: ∀i j,i<n->j<n->ρ i=ρ j->i=j
 ent: ∀i p,i<n->p<n->Slot W h (F i p) (t i p)
section
variable {b:Nat} {W:Nat->Prop} {h h':H} {n:Nat} {tv:V} {ρ:Nat->Nat} {F:Nat->Nat->V} {t:Dj}
theorem CH.open (R:CH b W h n tv ρ F t):dM tv=some (aB n)/\ ∃id off,Sl tv 1 n id off/\ ∀i,i<n->h.cell id (off+i)=some (.sl (ρ i) 0 n (.kn n)):=by
 have s:=R.sv;have hl:(rc n λi=>V.sl (ρ i) 0 n (.kn n)).length=n:=cZ n _;refine⟨by unfold dM;rw[SV.len s (n:=n) (by omega) (by omega)];rfl,?_⟩;obtain⟨id,off,sh,hid,hc⟩:=SV.shape s n (by omega) (by omega);refine⟨id,off,sh,λi hi=>?_⟩;rw[hc i (by omega),kF hi]
theorem CH.cell (R:CH b W h n tv ρ F t){i p:Nat}(hi:i<n)(hp:p<n):h.cell (ρ i) p=some (F i p):=zQ (R.row i hi) hp
theorem CH.mono (R:CH b W h n tv ρ F t)(f:Fr h h'):CH b W h' n tv ρ F t:=
 ⟨R.sv.mono f,R.off,λi hi=>by rw[f.get _ (R.DJ _ (R.wb i hi))];exact R.row i hi,R.wb,λid hid=>kY (R.DJ id hid) f.next,R.low,R.inj,λi p hi hp=>(R.ent i p hi hp).fx (Fx.of f)⟩
theorem CH.go (R:CH b W h n tv ρ F t){W':Nat->Prop}(f:Fx W h h')(hr: ∀i,i<n->h'.get (ρ i)=h.get (ρ i))(hw: ∀id,id<h.next->W' id->W id)(hw2: ∀id,W id->W' id)(DJ: ∀id,W' id->id<h'.next)(low: ∀id,W' id->b<=id):CH b W' h' n tv ρ F t:=
 ⟨R.sv.fx R.off f,R.off.tN R.sv hw,λi hi=>by rw[hr i hi];exact R.row i hi,λi hi=>hw2 _ (R.wb i hi),DJ,low,R.inj,λi p hi hp=>(R.ent i p hi hp).go f hw⟩
def WB (n:Nat)(ρ:Nat->Nat)(id:Nat):Prop:= ∃i,i<n/\ρ i=id
def F2 (F:Nat->Nat->V)(i p:Nat)(v:V):Nat->Nat->V:=λj q=>if j=i/\q=p then v else F j q
theorem CH.put (R:CH b W h n tv ρ F t){i p:Nat}(hi:i<n)(hp:p<n){vx:V}{x:List Nat}(hx:PV W h vx x):
  ∃h',fI (h.get (ρ i)) h (ρ i) p [vx]=some h'/\CH b W h' n tv ρ (F2 F i p vx) (Pm.put t i p x)/\Fx (WB n ρ) h h'/\h'.next=h.next:=by
 have pt:=aX (vs:=rc n (F i)) (off:=p) (by rw[cZ];exact hp) h (ρ i) vx
 rw[R.row i hi,pt,fW]
 refine⟨_,rfl,?_,Fx.set h (W:=WB n ρ) ⟨i,hi,rfl⟩ _,rfl⟩
 have f:Fx W h (h.set (ρ i) (some (.cells false (rc n λj=>if j=p then vx else F i j)))):=Fx.set h (R.wb i hi) _
 refine⟨R.sv.fx R.off f,R.off,λj hj=>?_,R.wb,R.DJ,R.low,R.inj,λj q hj hq=>?_⟩
 ·by_cases e:j=i
  ·subst e
   rw[H.aT]
   congr 2
   refine aU λq _=>?_
   unfold F2
   by_cases e2:q=p
   ·rw[if_pos e2,if_pos ⟨rfl,e2⟩]
   ·rw[if_neg e2,if_neg (λh=>e2 h.2)]
  ·rw[H.aH h (λe2=>e (R.inj _ _ hj hi e2)),R.row j hj]
   congr 2
   refine aU λq _=>?_
   unfold F2
   rw[if_neg (λh=>e h.1)]
 ·unfold F2 Pm.put
  by_cases e:j=i/\q=p
  ·rw[if_pos e,if_pos e]
   exact PV.fx hx f
  ·rw[if_neg e,if_neg e]
   exact (R.ent j q hj hq).fx f
theorem PV.fresh {v:V}{l:List Nat}(s:SI h' v (zi l))(hf: ∀id off len cap,v= .sl id off len cap->h.next<=id)(hw: ∀id,W id->id<h.next):PV W h' v l:=by
 refine⟨s,?_⟩
 cases v with
 |sl id off len cap=>exact λhx=>by have:=hf _ _ _ _ rfl;have:=hw id hx;omega
 |_=>trivial
theorem Slot.nil {v:V}(s:Slot W h v none):v= .aC:=s
end
theorem jO.open {W:Nat->Prop}{h:H}{v:V}{ws:List V}{l:LN}(sv:SV h v 1 ws)(p:jO W h ws l):dM v=some (aB (l.length:Int))/\ ∃id off,Sl v 1 l.length id off/\ ∀i,i<l.length->id<h.next/\h.cell id (off+i)=some (ws.getD i .undef)/\PV W h (ws.getD i .undef) (l.getD i []):=by
 have hl:=bY.length p;refine⟨by unfold dM;rw[SV.len sv (n:=l.length) (by omega) (by omega)];rfl,?_⟩;obtain⟨id,off,sh,hid,hc⟩:=SV.shape sv l.length (by omega) (by omega);refine⟨id,off,sh,λi hi=>⟨hid (by omega),?_,?_⟩⟩
 ·rw[hc i (by omega)];simp [List.getD,show i<ws.length by omega]
 ·obtain⟨w,h1,h2⟩:=jO.at p hi
  rw[List.getD,h1];exact h2
theorem OI {α:Type}{l:List α}{x d:α}{k:Nat}:x∈l.take k↔ ∃q,q<k/\q<l.length/\l.getD q d=x:=by
 constructor
 ·intro h
  obtain⟨q,hq,e⟩:=Gx.1 h;rw[Lm] at hq;refine⟨q,by omega,by omega,?_⟩;rw[List.getElem_take] at e;rw[List.getD,iK (by omega),←e];rfl
 ·rintro⟨q,h1,h2,e⟩
  rw[List.getD,iK h2] at e;refine Gx.2 ⟨q,by rw[Lm];omega,?_⟩;rw[List.getElem_take];exact e
set_option maxRecDepth 100000
set_option maxRecDepth 100000
set_option maxRecDepth 100000
theorem KC (h:H)(n:Nat)(hn:n<=100000):Fh h 1 24 [.aC] (aB n) (aB n)=some (.sl h.next 0 n (.kn n),h.new (.cells false (rc n λ_=> .aC))):=by
 have e:eE [V.aC] n=rc n λ_=> .aC:=(Kh (by simp [eE]) λi hi=>by simp [eE,hi,Nat.mod_one]).symm
 rw[sG (by omega) (Int.le_refl _) (by omega) (by omega),Int.toNat_natCast,Nat.mul_one,e]
section
variable {h:H} {v:V} {n:Nat} {l:List Nat}
theorem oL (x:Nat)(l:List Int)(n:Int)(h:H)(ht:Tk h x l)(hl:l.length<9223372036854775808)(hn:1<=n)(hn2:n<1000000000):
  Ev T 50 [.ptr x 0,aB n] h (λv h'=> ∃z,v= aB z/\0<=z/\z<n/\Tk h' x l/\xY x h h'):=by
 obtain⟨vl,a,hg,hs,hne,ha,hx⟩:=ht
 refine bN pG rfl rfl ?_
 have g0:h.cell x 0=some vl:=by rw[H.aE hg];rfl
 have g1:h.cell x 1=some (aB a):=by rw[H.aE hg];rfl
 have ev:eN vl vl=true:=SV.eN hs
 obtain⟨id,off,hsl,hid,hc⟩:=hs.open
 simp (disch:=first|omega|(simp only[Qn];(try omega);done)|fail) only[go_sem,pG,aF,g0,g1,hs.lens,ev]
 by_cases hal:(l.length:Int)<=(a:Int)
 ·rw[decide_eq_true hal]
  simp (disch:=first|omega|(simp only[Qn];(try omega);done)|fail) only[go_sem]
  exact⟨0,rfl,by omega,by omega,⟨vl,a,hg,hs.mono ((Fr.refl h).bJ (by omega)),hne,ha,by show x<h.next+14;omega⟩,xY.of ((Fr.refl h).bJ (by omega))⟩
 ·rw[decide_eq_false hal]
  simp (disch:=first|omega|(simp only[Qn];(try omega);done)|fail) only[go_sem]
  rw[decide_eq_false (show ¬n<1 by omega)]
  simp (disch:=first|omega|(simp only[Qn];(try omega);done)|fail) only[go_sem,g1,hg]
  have hne2:id≠x:=by
   intro e;have:=hsl.ixa .i64 0 (by omega) (by omega);rcases hs with ⟨_,h0⟩|⟨id',o',len',cap',_,_,rfl,_⟩
   ·have:(ints l).length=0:=by rw[h0];rfl
    rw[aJ] at this;omega
   ·have hll:len'=l.length:=Option.some.inj hsl.len
    rw[Ds (by omega) (by omega)] at this;simp only[Option.some.injEq,V.ptr.injEq] at this;have:=hne _ _ _ _ rfl;omega
  have c0:h.cell id (off+a)=some (aB (l.getD a 0)):=hc a (by omega)
  have ea:((a:Int)+1- 1).toNat=a:=by omega
  simp (disch:=first|omega|(simp only[Qn];(try omega);done)|fail) only[go_sem,g0,g1,hg,hsl.ixa,c0,ev,ea]
  have hgg: ∀m,(H.mk ((H.mk h.tr (h.next+14)).set x (some (.cells false [vl,aB ((a:Int)+1)]))).tr m).get x=some (.cells false [vl,aB ((a:Int)+1)]):=λm=>H.aT ..
  have hfx:xY x h (H.mk ((H.mk h.tr (h.next+14)).set x (some (.cells false [vl,aB ((a:Int)+1)]))).tr (h.next+14+14)):=⟨by show h.next<=h.next+14+14;omega,λid hid hne=>H.aH _ hne _⟩
  have hnn:(H.mk ((H.mk h.tr (h.next+14)).set x (some (.cells false [vl,aB ((a:Int)+1)]))).tr (h.next+14+14)).next=h.next+14+14:=rfl
  have hgx:=hgg (h.next+14+14)
  generalize H.mk ((H.mk h.tr (h.next+14)).set x (some (.cells false [vl,aB ((a:Int)+1)]))).tr (h.next+14+14)=h2 at*
  refine (Qs (l.getD a 0) n h2 (by omega) hn2).mono ?_
  rintro v h3 ⟨rfl,rfl⟩
  have k0:h3.cell x 0=some vl:=by rw[H.aE hgx];rfl
  have k1:h3.cell x 1=some (aB ((a:Int)+1)):=by rw[H.aE hgx];rfl
  simp (disch:=first|omega|(simp only[Qn];(try omega);done)|fail) only[go_sem,k0,k1,ev]
  have hr:=Wv (l.getD a 0) (show 0<n by omega)
  refine⟨_,rfl,hr.1,hr.2,⟨vl,a+1,?_,?_,hne,by omega,by omega⟩,hfx⟩
  ·rw[hgx];simp
  ·rcases hs with h0|⟨id',o',len',cap',ro,vs,rfl,q2,q3,q4,q5,q6⟩
   ·exact .inl h0
   ·exact .inr ⟨id',o',len',cap',ro,vs,rfl,q2,by omega,(hfx.get id' q3 (λe=>by have:=hne _ _ _ _ rfl;omega)).trans q4,q5,q6⟩
theorem Jr (n:Nat)(h:H)(hN:n<=1000):
  Ev T 51 [aB n] h (λv h'=>fC h' v 1 (ints (zi (bW n))) h.next/\Fr h h'):=by
 refine bN vQ rfl rfl ?_
 simp (disch:=first|omega|(simp only[Qn];(try omega);done)|fail) only[go_sem,vQ,aF]
 refine aI (λk' vars hh=> ∃(i:Nat) (o:V),(∃j:Nat->V,vars= [aB n,j 1,o,aB i,j 4])/\i<=n/\fC hh o 1 (ints (zi ((bW n).take i))) h.next/\Fr h hh/\k'=n-i) n
  ⟨0,.aC,aA rfl,lG _,fC.aC _ _ _,Fr.refl h,rfl⟩ ?_
 rintro k' vars h2 ⟨i,o,⟨jk,rfl⟩,hi,oO,F,rfl⟩
 simp (disch:=first|omega|(simp only[Qn];(try omega);done)|fail) only[go_sem]
 by_cases hlt:(i:Int)<(n:Int)
 ·rw[decide_eq_true hlt]
  have hi':i<n:=by omega
  simp (disch:=first|omega|(simp only[Qn];(try omega);done)|fail) only[go_sem,Pw]
  have hf31:Fr h2 (h2.new (.cells false (ints [(i:Int)]))):=(Fr.refl h2).new _
  have hg31:(h2.new (.cells false (ints [(i:Int)]))).get h2.next=some (.cells false (ints [(i:Int)])):=H.aL ..
  have hn31:(h2.new (.cells false (ints [(i:Int)]))).next=h2.next+1:=H.aV ..
  generalize h2.new (.cells false (ints [(i:Int)]))=h31 at*
  have sx:SV h31 (.sl h2.next 0 1 (.kn 1)) 1 (ints [(i:Int)]):=SV.all rfl (by omega) hg31 _
  have nF:=F.next
  have hl:=iB n
  obtain⟨v2,h32,e32,a32⟩:=(oO.fr hf31).app (bytes:=8) (n:=i) (m:=1) (by omega) sx (by rw[aJ,aP,Lm,Nat.mul_one];omega) rfl (by omega) (by omega)
  simp (disch:=first|omega|(simp only[Qn];(try omega);done)|fail) only[go_sem,e32]
  have t32:=a32.own
  have hm:=fD hi'
  have e1:zi ((bW n).take i)++ [(i:Int)]=zi ((bW n).take (i+1)):=by rw[Fw (by omega),Hc,hm]
  rw[←qD,e1] at t32
  rw[iJ i]
  exact⟨n-(i+1),by omega,i+1,v2,aA rfl,by omega,t32,a32.fr h (F.trans hf31) (jA _),rfl⟩
 rw[decide_eq_false hlt]
 obtain rfl:i=n:=by omega
 simp (disch:=first|omega|(simp only[Qn];(try omega);done)|fail) only[go_sem]
 rw[List.take_of_length_le (by rw[iB];omega)] at oO
 exact⟨oO,F⟩
structure Mp (h:H)(v:V)(n id:Nat)(l:List Nat):Prop where
 ex: ∃cap rest,v= .sl id 0 n cap/\id<h.next/\h.get id=some (.cells false (ints (zi l)++rest))
 dS:bG n l
theorem Mp.of {b:Nat}(h0:0<n)(X:bG n l)(o:fC h v 1 (ints (zi l)) b): ∃id,Mp h v n id l/\b<=id:=by
 rcases o with ⟨_,e⟩|⟨id,m,cap,rest,rfl,e2,e3,e4,e5,e6⟩
 ·have:=congrArg List.length e
  rw[aJ,aP,List.length_nil,X.len] at this;omega
 ·rw[aJ,aP,Nat.mul_one,X.len] at e2
  subst e2;exact⟨id,⟨⟨cap,rest,rfl,e5,e6⟩,X⟩,e4⟩
theorem Mp.si {id:Nat}(m:Mp h v n id l):SI h v (zi l):=by
 obtain⟨⟨cap,rest,rfl,h1,h2⟩,X⟩:=m;refine .inr ⟨id,0,n,cap,false,_,rfl,by rw[aJ,aP,X.len,Nat.mul_one],h1,h2,by rw[oS,aJ,aP,X.len];omega,?_⟩;rw[List.drop_zero,Nat.mul_one,List.take_left' (by rw[aJ,aP,X.len])]
theorem Mp.mono {h':H}{id:Nat}(m:Mp h v n id l)(hn:h.next<=h'.next)(hg:h'.get id=h.get id):Mp h' v n id l:=by
 obtain⟨⟨cap,rest,h1,h2,h3⟩,X⟩:=m;exact⟨⟨cap,rest,h1,by omega,by rw[hg];exact h3⟩,X⟩
theorem Rw {rest:List V}{i:Nat}(hi:i<l.length)(x:Nat):(ints (zi l)++rest).set i (aB x)=ints (zi (l.set i x))++rest:=by
 rw[List.set_append_left _ _ (by rw[aJ,aP];exact hi)];congr 1;simp [ints,zi,List.map_set]
def RW (n a b:Nat):List Nat:=(List.range n).map λj=>if j=b- 1 then a else if a<=j/\j<b then j+1 else j
theorem Jb {f:Nat->Nat}{j:Nat}(hj:j<n):((List.range n).map f).getD j 0=f j:=by simp [List.getD,hj]
theorem KN {a b:Nat}(h1:a<b)(h2:b<=n):bG n (RW n a b):=by
 unfold RW;refine bG.Pn (by simp) (λi hi=>?_) (λi j hi hj h=>?_)
 ·rw[Jb hi]
  split
  ·omega
  ·split<;>omega
 ·rw[Jb hi,Jb hj] at h
  split at h<;>split at h<;>(try split at h)<;>(try split at h)<;>omega
theorem KY (f:Nat->Nat):(rc n λj=>aB (f j:Nat))=ints (zi ((List.range n).map f)):=by
 have e:=Mv ((List.range n).map f);rw[qX,List.length_range] at e;rw[←e];exact aU λj hj=>by rw[Jb hj]
theorem Ux (h:H)(v:V)(n id a b:Nat)(hn:n<=64)(m:Mp h v n id (bW n))(h1:a<b)(h2:b<=n):
  Ev T 53 [v,aB a,aB b] h (λw h'=>w=v/\Mp h' v n id (RW n a b)/\xY id h h'):=by
 refine bN zB rfl rfl ?_
 obtain⟨⟨cap,rest,rfl,hid,hg⟩,_⟩:=m
 have e0:ints (zi (bW n))=rc n λj=> aB (((if a<=j/\j<a then j+1 else j:Nat)):Int):=by
  rw[KY];congr 2;refine (sE (by simp [bW]) λi hi=>?_).symm;rw[qX,List.length_range] at hi;rw[Jb hi,fD hi,if_neg (by omega)]
 rw[e0] at hg
 simp (disch:=first|omega|(simp only[Qn];(try omega);done)|fail) only[go_sem,zB,aF]
 refine cV (λvs hh=>(∃g:Nat->V,vs= [.sl id 0 n cap,aB a,aB b,g 3,g 4,g 5])/\hh.get id=some (.cells false ((rc n λj=> aB (((if a<=j/\j<b then j+1 else j:Nat)):Int))++rest))/\xY id h hh) ?_ ?_
 ·refine aI (λk' vars hh=> ∃(i:Nat),(∃g:Nat->V,vars= [.sl id 0 n cap,aB a,aB b,g 3,aB i,g 5])/\a<=i/\i<=b/\hh.get id=some (.cells false ((rc n λj=> aB (((if a<=j/\j<i then j+1 else j:Nat)):Int))++rest))/\xY id h hh/\k'=b-i) (b-a)
   ⟨a,aA rfl,jA _,by omega,hg,xY.refl _ _,rfl⟩ ?_
  rintro k' vars h3 ⟨i,⟨g,rfl⟩,hi1,hi2,g3,f3,rfl⟩
  by_cases hlt:(i:Int)<(b:Int)
  case neg=>
   have e1:=jC hlt;obtain rfl:i=b:=by omega
   simp (disch:=first|omega|(simp only[Qn];(try omega);done)|fail) only[go_sem,e1];exact⟨aA rfl,g3,f3⟩
  have e1:=nL hlt
  have hin:i<n:=by omega
  have e3:decide ((i:Int)<0)=false:=jC (by omega)
  have e4:decide ((n:Int)<=(i:Int))=false:=jC (by omega)
  have pt:=aX (vs:=(rc n λj=> aB (((if a<=j/\j<i then j+1 else j:Nat)):Int))++rest) (off:=i) (by rw[oS,cZ];omega) h3 id (aB ((i:Int)+1))
  rw[List.set_append_left _ _ (by rw[cZ];exact hin),fW] at pt
  simp (disch:=first|omega|(simp only[Qn];(try omega);done)|fail) only[go_sem,e1,e3,e4,g3,pt]
  rw[iJ i]
  refine⟨b-(i+1),by omega,i+1,aA rfl,by omega,by omega,?_,f3.set _,rfl⟩
  congr 3
  refine aU λj hj=>?_
  by_cases e:j=i
  ·rw[if_pos e,if_pos ⟨by omega,by omega⟩,e]
  ·rw[if_neg e]
   by_cases e5:a<=j/\j<i
   ·rw[if_pos e5,if_pos ⟨e5.1,by omega⟩]
   ·rw[if_neg e5,if_neg (by omega)]
 rintro vars h3 ⟨⟨g,rfl⟩,g3,f3⟩
 have eb:(b:Int)- 1=((b- 1:Nat):Int):=by omega
 have e3:decide (((b- 1:Nat):Int)<0)=false:=jC (by omega)
 have e4:decide ((n:Int)<=((b- 1:Nat):Int))=false:=jC (by omega)
 have pt:=aX (vs:=(rc n λj=> aB (((if a<=j/\j<b then j+1 else j:Nat)):Int))++rest) (off:=b- 1) (by rw[oS,cZ];omega) h3 id (aB a)
 rw[List.set_append_left _ _ (by rw[cZ];omega),fW] at pt
 simp (disch:=first|omega|(simp only[Qn];(try omega);done)|fail) only[go_sem,eb,e3,e4,g3,pt]
 refine⟨⟨⟨cap,rest,rfl,kY hid f3.next,?_⟩,KN h1 h2⟩,f3.set _⟩
 rw[H.aT]
 congr 3
 unfold RW
 rw[←KY]
 refine aU λj hj=>?_
 by_cases e:j=b- 1
 ·rw[if_pos e,if_pos e]
 ·rw[if_neg e,if_neg e]
def DV (l:List Nat)(i k:Nat):List Nat:=(l.set i (l.getD k 0)).set k (l.getD i 0)
theorem MF (X:bG n l){i k:Nat}(hi:i<n)(hk:k<n):bG n (DV l i k):=by
 have hl:=X.len
 have at': ∀j,j<n->(DV l i k).getD j 0=if j=k then l.getD i 0 else if j=i then l.getD k 0 else l.getD j 0:=λj hj=>by
  unfold DV;rw[cJ (by simp;omega),List.getElem_set]
  by_cases e:k=j
  ·rw[if_pos e,if_pos e.symm]
  ·rw[if_neg e,if_neg (Ne.symm e),List.getElem_set]
   by_cases e2:i=j
   ·rw[if_pos e2,if_pos e2.symm]
   ·rw[if_neg e2,if_neg (Ne.symm e2)];exact (cJ (by omega)).symm
 refine bG.Pn (by unfold DV;simp [hl]) (λj hj=>?_) (λa c ha hc h=>?_)
 ·rw[at' j hj]
  split
  ·exact X.eZ hi
  ·split
   ·exact X.eZ hk
   ·exact X.eZ hj
 ·rw[at' a ha,at' c hc] at h
  split at h<;>split at h<;>(try split at h)<;>(try split at h)
  all_goals first
   |omega
   |(have:=X.inj hi hi h;omega)
   |(have:=X.inj hi hk h;omega)
   |(have:=X.inj hk hi h;omega)
   |(have:=X.inj hi hc h;omega)
   |(have:=X.inj ha hi h;omega)
   |(have:=X.inj hk hk h;omega)
   |(have:=X.inj hk hc h;omega)
   |(have:=X.inj ha hk h;omega)
   |(have:=X.inj ha hc h;omega)
theorem OF (x:Nat)(l:List Int)(n:Nat)(h:H)(hn:n<=64)(n0:0<n)(ht:Tk h x l)(hl:l.length<9223372036854775808):
  Ev T 52 [.ptr x 0,aB n] h (λv h'=> ∃id q,Mp h' v n id q/\h.next<=id/\Tk h' x l/\xY x h h'):=by
 refine bN Bm rfl rfl ?_
 simp (disch:=first|omega|(simp only[Qn];(try omega);done)|fail) only[go_sem,Bm,aF]
 refine (Jr n h (by omega)).mono ?_
 rintro v h1 ⟨o1,f1⟩
 obtain⟨id,m1,hid⟩:=Mp.of n0 (bG.one n) o1
 have m1':=m1
 obtain⟨⟨cap,rest0,rfl,_,_⟩,_⟩:=m1'
 have hxn:x<h.next:=by obtain⟨_,_,_,_,_,_,hx⟩:=ht;exact hx
 have hne:id≠x:=by omega
 simp (disch:=first|omega|(simp only[Qn];(try omega);done)|fail) only[go_sem]
 refine aI (λk' vars hh=> ∃(i:Nat) (q:List Nat),(∃g:Nat->V,vars= [.ptr x 0,aB n,g 2,.sl id 0 n cap,aB i,g 5,g 6])/\i<n/\Mp hh (.sl id 0 n cap) n id q/\Tk hh x l/\xY x h hh/\k'=n-i) n
  ⟨0,bW n,aA rfl,n0,m1,ht.mono f1,xY.of f1,rfl⟩ ?_
 rintro k' vars h2 ⟨i,q,⟨g,rfl⟩,hi,m2,t2,f2,rfl⟩
 by_cases hlt:(i:Int)+1<(n:Int)
 case neg=>
  have e1:=jC hlt;simp (disch:=first|omega|(simp only[Qn];(try omega);done)|fail) only[go_sem,e1];exact⟨id,q,m2,hid,t2,f2⟩
 have e1:=nL hlt
 simp (disch:=first|omega|(simp only[Qn];(try omega);done)|fail) only[go_sem,e1]
 refine (oL x l ((n:Int)-(i:Int)) h2 t2 hl (by omega) (by omega)).mono ?_
 rintro _ h3 ⟨z,rfl,hz0,hz1,t3,f3⟩
 obtain⟨c,rfl⟩: ∃c:Nat,z=(c:Int):=⟨z.toNat,by omega⟩
 obtain⟨k,hk⟩: ∃k,k=i+c:=⟨_,rfl⟩
 have ek:(i:Int)+(c:Int)=(k:Int):=by omega
 have hkn:k<n:=by omega
 have m3:=m2.mono f3.next (f3.get id (by obtain⟨⟨_,_,_,h5,_⟩,_⟩:=m2;exact h5) hne)
 obtain⟨⟨cap',rest,e,hid3,g3⟩,Q⟩:=m3
 cases e
 have ql:=Q.len
 have cell: ∀hh:H,∀l':List Nat,l'.length=n->hh.get id=some (.cells false (ints (zi l')++rest))-> ∀j,j<n->hh.cell id j=some (aB (l'.getD j 0:Nat)):=λhh l' hl' hg j hj=>by
  rw[H.aE hg,Hu (by rw[aJ,aP];omega),Bl (by omega)]
 have ci:=cell h3 q ql g3 i hi
 have ck:=cell h3 q ql g3 k hkn
 have a1:decide ((i:Int)<0)=false:=jC (by omega)
 have a2:decide ((n:Int)<=(i:Int))=false:=jC (by omega)
 have a3:decide ((k:Int)<0)=false:=jC (by omega)
 have a4:decide ((n:Int)<=(k:Int))=false:=jC (by omega)
 have pt: ∀(hh:H) (l':List Nat) (j y:Nat),l'.length=n->j<n->fI (some (.cells false (ints (zi l')++rest))) hh id j [aB y]=some (hh.set id (some (.cells false (ints (zi (l'.set j y))++rest)))):=λhh l' j y hl' hj=>by
  rw[aX (by rw[oS,aJ,aP];omega),Rw (by omega)]
 simp (disch:=first|omega|(simp only[Qn];(try omega);done)|fail) only[go_sem,ek]
 simp (disch:=first|omega|(simp only[Qn];(try omega);done)|fail) only[go_sem,a1,a2,a3,a4,ci,ck,g3,pt _ q i (q.getD k 0) ql hi,pt _ (q.set i (q.getD k 0)) k (q.getD i 0) (by simp [ql]) hkn]
 rw[iJ i]
 obtain⟨h4,h4e⟩: ∃h4:H,h4=((H.mk h3.tr (h3.next+16)).set id (some (.cells false (ints (zi (q.set i (q.getD k 0)))++rest)))).set id (some (.cells false (ints (zi ((q.set i (q.getD k 0)).set k (q.getD i 0)))++rest))):=⟨_,rfl⟩
 rw[←h4e]
 have n4:h4.next=h3.next+16:=by rw[h4e];rfl
 have o4: ∀j,j≠id->h4.get j=h3.get j:=λj hj=>by rw[h4e,H.aH _ hj,H.aH _ hj];rfl
 have g4:h4.get id=some (.cells false (ints (zi (DV q i k))++rest)):=by rw[h4e,H.aT];rfl
 refine⟨n-(i+1),by omega,i+1,DV q i k,aA rfl,by omega,⟨⟨cap,rest,rfl,by omega,g4⟩,MF Q hi hkn⟩,t3.low (by omega) (λj hj=>o4 j (by omega)),?_,rfl⟩
 have f23:=f2.trans f3
 have:=f23.next
 exact⟨by omega,λj hj hjx=>by rw[o4 j (by omega)];exact f23.get j hj hjx⟩
end
theorem NM (h:H){v u:V}(hv1:v.one=true)(hu1:u.one=true):Gy h (.agg [v,u])=some (.ptr h.next 0,h.new (.cells false [v,u])):=vG h _ (by simp [hv1,hu1])
theorem JL {x y:V}(h:H)(id:Nat)(u:V):fI (bZ [x,y]) h id 1 [u]=some (h.set id (bZ [x,u])):=by
 simp [fI,putAt]
theorem BX {v z w:V}(hc:v.cells= [v])(ho:v.one=true):uK [z,w] [(0,1,v)]=some (.agg [v,w]):=by
 have e1:putAt [z,w] 0 [v]=some [v,w]:=by simp [putAt]
 simp [uK,jQ,e1,hc,ho]
theorem xY.cell {x:Nat}{a c:H}(f:xY x a c){id off:Nat}(h1:id<a.next)(h2:id≠x):c.cell id off=a.cell id off:=by unfold H.cell;rw[f.get id h1 h2]
structure GJ (h hh:H)(T0 C D n:Nat)(l:List Int)(gens:LN):Prop where
 ex: ∃vg ws,hh.get C=bZ [aB n,vg]/\fC hh vg 1 ws (C+1)/\jO (λid=>id<=C∨ ∃off m c,vg= .sl id off m c) hh ws gens
 tk:Tk hh T0 l
 gD:hh.get D=bZ [aB 0,.aC]
 dS: ∀g∈gens,bG n g
 nx:C<hh.next
 fr:Fr h hh
theorem Xm (vl:V)(l:List Int)(most:Nat)(h:H)(hv:SI h vl l)(hl:l.length<9223372036854775808)(m1:1<=most)(m2:most<=60):
  Ev T 17 [vl,aB most] h (λv h'=> ∃(n:Nat) (vg:V) (gens:LN),v= .agg [aB n,vg]/\1<=n/\n<=most/\gens.length<=3/\(∀g∈gens,bG n g)/\SP h' vg gens/\Fr h h'):=by
 refine bN uI rfl rfl ?_
 obtain⟨D,hD⟩:=exI h.next
 obtain⟨h1,e1,n1,g1,o1,f1⟩:=iX hD [aB 0,.aC]
 obtain⟨h2,e2,n2,g2,o2,f2⟩:=iX n1 [vl,aB 0]
 have wl:=SV.eD hv
 simp(disch:=omega)only[go_sem,uI,aF,hD,e1,BX wl.1 wl.2.1,NM h1 (v:=vl) (u:= aB 0) wl.2.1 rfl,n1,e2]
 have tk2:Tk h2 (D+1) l:=⟨vl,0,g2,hv.mono (f1.trans f2),λid off len c e=>by have:=SV.in hv _ _ _ _ e;omega,lG _,by omega⟩
 refine (oL (D+1) l most h2 tk2 hl (by omega) (by omega)).mono ?_
 rintro _ h3 ⟨z,rfl,hz0,hz1,tk3,f3⟩
 obtain⟨n,hn⟩: ∃n:Nat,1+z=(n:Int):=⟨(1+z).toNat,by omega⟩
 have n3:=f3.next
 obtain⟨C,hC⟩:=exI h3.next
 obtain⟨h4,e4,n4,g4,o4,f4⟩:=iX hC [aB 0,.aC]
 obtain⟨h5,e5,n5,g5,o5⟩:=Bv h4 C [aB n,.aC]
 simp(disch:=omega)only[go_sem,hn,hC,e4,BX (v:= aB n) (z:= aB 0) (w:= .aC) rfl rfl,Cz h4 C 0 (v:= aB n) (u:= .aC) rfl rfl,g4,zA,e5]
 have tk5:Tk h5 (D+1) l:=tk3.low (by omega) (λid hid=>by rw[o5 id (by omega),o4 id (by omega)])
 refine (oL (D+1) l 4 h5 tk5 hl (by omega) (by omega)).mono ?_
 rintro _ h6 ⟨z2,rfl,hk0,hk1,tk6,f6⟩
 obtain⟨K,rfl⟩: ∃K:Nat,z2=(K:Int):=⟨z2.toNat,by omega⟩
 have n6:=f6.next
 simp(disch:=omega)only[go_sem]
 refine aI (λk' vars hh=> ∃(k:Nat) (gens:LN),(∃g:Nat->V,vars= [vl,aB most,.ptr D 0,.ptr (D+1) 0,.ptr C 0,aB k,g 6,g 7,g 8,g 9,g 10])/\gens.length+k<=3/\GJ h hh (D+1) C D n l gens/\k'=k) K
  ⟨K, [],aA rfl,by simp;omega,⟨⟨.aC, [],by rw[f6.get C (by omega) (by omega)];exact g5,fC.aC _ _ _,trivial⟩,tk6,?_,λg hg=>absurd hg List.not_mem_nil,by omega,?_⟩,rfl⟩ ?_
 ·rw[f6.get D (by omega) (by omega),o5 D (by omega),o4 D (by omega),f3.get D (by omega) (by omega),o2 D (by omega)];exact g1
 ·refine⟨by omega,λid hid=>?_⟩
  rw[f6.get id (by omega) (by omega),o5 id (by omega),o4 id (by omega),f3.get id (by omega) (by omega),o2 id (by omega),o1 id (by omega)]
 rintro k' vars h7 ⟨k,gens,⟨g,rfl⟩,hk,J,rfl⟩
 have cn:h7.cell C 0=some (aB n):=by
  obtain⟨⟨vg,ws,gC,_⟩,_⟩:=J;rw[H.aE gC];rfl
 by_cases hlt:(0:Int)<(k':Int)
 case neg=>
  have d1:=jC hlt;obtain⟨⟨vg,ws,gC,ow,pvs⟩,tk,gD,dS,nx,fr⟩:=J;have rC:=Pe gC;obtain⟨h8,e8,n8,g8,o8⟩:=Bv h7 D [aB n,vg];have r8:=Pe g8;have wg:=SV.eD ow.sv;simp(disch:=omega)only[go_sem,d1,rC,Cz h7 D 0 (v:= aB n) (u:=vg) rfl wg.2.1,gD,zA,e8,r8]
  have x8:Fx (λid=>id<=C∨ ∃off m c,vg= .sl id off m c) h7 h8:=⟨by omega,λid _ hw=>o8 id (λe=>hw (.inl (by omega)))⟩
  have sv8:SV h8 vg 1 ws:=(ow.qU (h':=h8) (by omega) (λid off m c e hid=>by have:=(ow.in _ _ _ _ e).2.1;exact o8 id (by omega))).sv;refine⟨n,vg,gens,rfl,by omega,by omega,by omega,dS,⟨ws,sv8,?_⟩,⟨by have:=fr.next;omega,λid hid=>by rw[o8 id (by omega)];exact fr.get id hid⟩⟩;have pv8:=jO.fx pvs x8;have hl8:=bY.length pv8
  exact bY.nC (by simpa using hl8) λi hi hj=>by
   have:=(bY.get pv8 i hi (by omega)).si;simpa using this
 have d1:=nL hlt
 have nx:=J.nx
 have hn0:0<n:=by omega
 have hn64:n<=64:=by omega
 simp(disch:=omega)only[go_sem,d1,cn]
 refine (Jr n h7 (by omega)).mono ?_
 rintro v6 h8 ⟨o6,f8⟩
 obtain⟨id6,mp8,hid6⟩:=Mp.of hn0 (bG.one n) o6
 simp(disch:=omega)only[go_sem]
 refine (oL (D+1) l 3 h8 (J.tk.mono f8) hl (by omega) (by omega)).mono ?_
 rintro _ h9 ⟨z3,rfl,_,_,tk9,f9⟩
 have fT9:xY (D+1) h7 h9:=(xY.of f8).trans f9
 have mp9:Mp h9 v6 n id6 (bW n):=mp8.mono f9.next (f9.get id6 (by obtain⟨⟨_,_,_,h5,_⟩,_⟩:=mp8;exact h5) (by omega))
 have cell7: ∀hh,xY (D+1) h7 hh->hh.cell C 0=some (aB n):=λhh f=>by rw[f.cell nx (by omega)];exact cn
 simp(disch:=omega)only[go_sem]
 refine pN (λvs hh=> ∃(v6:V) (x:List Nat),(∃g:Nat->V,vs= [vl,aB most,.ptr D 0,.ptr (D+1) 0,.ptr C 0,aB (k':Int),v6,g 7,g 8,g 9,g 10])/\SI hh v6 (zi x)/\bG n x/\(∀id off len cap,v6= .sl id off len cap->h7.next<=id)/\Tk hh (D+1) l/\xY (D+1) h7 hh) ?_ ?_
 ·refine aZ (λ_=>?_) (λ_=>?_)
  ·simp(disch:=omega)only[go_sem,cell7 h9 fT9]
   refine (OF (D+1) l n h9 hn64 hn0 tk9 hl).mono ?_
   rintro w h10 ⟨id,q,mp,hid,tk10,f10⟩
   have n9:=fT9.next
   simp(disch:=omega)only[go_sem]
   refine .inl ⟨w,q,aA rfl,mp.si,mp.dS,λid' off len cap e=>?_,tk10,fT9.trans f10⟩
   obtain⟨⟨_,_,e2,_⟩,_⟩:=mp
   rw[e2] at e;cases e;omega
  ·simp(disch:=omega)only[go_sem,cell7 h9 fT9]
   refine (oL (D+1) l n h9 tk9 hl (by omega) (by omega)).mono ?_
   rintro _ h10 ⟨z4,rfl,a4,b4,tk10,f10⟩
   obtain⟨a,rfl⟩: ∃a:Nat,z4=(a:Int):=⟨z4.toNat,by omega⟩
   have fT10:=fT9.trans f10
   simp(disch:=omega)only[go_sem,cell7 h10 fT10]
   refine (oL (D+1) l ((n:Int)-(a:Int)) h10 tk10 hl (by omega) (by omega)).mono ?_
   rintro _ h11 ⟨z5,rfl,a5,b5,tk11,f11⟩
   obtain⟨c,rfl⟩: ∃c:Nat,z5=(c:Int):=⟨z5.toNat,by omega⟩
   have fT11:=fT10.trans f11
   have f911:=f10.trans f11
   have id9:id6<h9.next:=by obtain⟨⟨_,_,_,h5,_⟩,_⟩:=mp9;exact h5
   have mp11:Mp h11 v6 n id6 (bW n):=mp9.mono f911.next (f911.get id6 id9 (by omega))
   have eb:(a:Int)+1+(c:Int)=((a+1+c:Nat):Int):=by omega
   simp(disch:=omega)only[go_sem,eb]
   refine (Ux h11 v6 n id6 a (a+1+c) hn64 mp11 (by omega) (by omega)).mono ?_
   rintro w h12 ⟨hw,mp12,f12⟩
   have hw':=hw.symm
   subst hw'
   have n8:=fT9.next
   have n9:=f911.next
   have n12:=f12.next
   have fT12:xY (D+1) h7 h12:=⟨by omega,λid hid hne=>by rw[f12.get id (by omega) (by omega),f911.get id (by omega) hne];exact fT9.get id hid hne⟩
   have tk12:Tk h12 (D+1) l:=tk11.low n12 (λid hid=>f12.get id (by omega) (by omega))
   have id12:id6<h12.next:=by omega
   simp(disch:=omega)only[go_sem,cell7 h12 fT12]
   refine (oL (D+1) l n h12 tk12 hl (by omega) (by omega)).mono ?_
   rintro _ h13 ⟨z6,rfl,a6,b6,tk13,f13⟩
   obtain⟨a2,rfl⟩: ∃a:Nat,z6=(a:Int):=⟨z6.toNat,by omega⟩
   simp(disch:=omega)only[go_sem]
   refine (oL (D+1) l 2 h13 tk13 hl (by omega) (by omega)).mono ?_
   rintro _ h14 ⟨z7,rfl,a7,b7,tk14,f14⟩
   have fT14:=(fT12.trans f13).trans f14
   have f1214:=f13.trans f14
   have n14:=f1214.next
   have mp14:Mp h14 v6 n id6 _:=mp12.mono f1214.next (f1214.get id6 id12 (by omega))
   have fr6: ∀id off len cap,v6= .sl id off len cap->h7.next<=id:=λid' off len cap e=>by
    obtain⟨⟨_,_,e2,_⟩,_⟩:=mp14;rw[e2] at e;cases e;omega
   simp(disch:=omega)only[go_sem]
   refine aZ (λhz=>?_) (λhz=>?_)
   ·have v6e:=SV.eN mp14.si
    simp(disch:=omega)only[go_sem,cell7 h14 fT14]
    have fb:Fr h14 (H.mk h14.tr (h14.next+17)):=(Fr.refl h14).bJ (by omega)
    refine (Jr n _ (by omega)).mono ?_
    rintro w h15 ⟨ow,f15⟩
    obtain⟨idw,mp15,hidw⟩:=Mp.of hn0 (bG.one n) ow
    have n15:=f15.next
    have hb:(H.mk h14.tr (h14.next+17)).next=h14.next+17:=rfl
    rw[hb] at hidw n15
    have f1415:=fb.trans f15
    have fT15:=fT14.trans (xY.of f1415)
    have idw15:idw<h15.next:=by obtain⟨⟨_,_,_,h5,_⟩,_⟩:=mp15;exact h5
    simp(disch:=omega)only[go_sem,cell7 h15 fT15]
    refine (oL (D+1) l ((n:Int)-(a2:Int)) h15 (tk14.mono f1415) hl (by omega) (by omega)).mono ?_
    rintro _ h16 ⟨z8,rfl,a8,b8,tk16,f16⟩
    obtain⟨c2,rfl⟩: ∃c:Nat,z8=(c:Int):=⟨z8.toNat,by omega⟩
    have fT16:=fT15.trans f16
    have n16:=f16.next
    have n147:=fT14.next
    have mp16:Mp h16 w n idw (bW n):=mp15.mono f16.next (f16.get idw idw15 (by omega))
    have eb2:(a2:Int)+1+(c2:Int)=((a2+1+c2:Nat):Int):=by omega
    simp(disch:=omega)only[go_sem,cell7 h16 fT16,eb2]
    refine (Ux h16 w n idw a2 (a2+1+c2) hn64 mp16 (by omega) (by omega)).mono ?_
    rintro w' h17 ⟨hw2,mp17,f17⟩
    have hw2':=hw2.symm
    subst hw2'
    have n17:=f17.next
    have fT17:xY (D+1) h7 h17:=⟨by have:=fT16.next;omega,λid hid hne=>by rw[f17.get id (by have:=fT16.next;omega) (by omega)];exact fT16.get id hid hne⟩
    have tk17:Tk h17 (D+1) l:=tk16.low n17 (λid hid=>f17.get id (by omega) (by omega))
    have id14:id6<h14.next:=by obtain⟨⟨_,_,_,h5,_⟩,_⟩:=mp14;exact h5
    have mp617:Mp h17 v6 n id6 _:=mp14.mono (by omega) (by rw[f17.get id6 (by omega) (by omega),f16.get id6 (by omega) (by omega),f1415.get id6 id14])
    simp(disch:=omega)only[go_sem,cell7 h17 fT17,v6e]
    refine (By v6 w _ _ h17 (by rw[mp617.dS.len];omega) mp617.si mp17.si (λj hj=>by rw[mp17.dS.len];exact mp617.dS.eZ (by rw[←mp617.dS.len];exact hj))).mono ?_
    rintro v h18 ⟨s18,f18,l18⟩
    have fT18:=fT17.trans (xY.of f18)
    simp(disch:=omega)only[go_sem,cell7 h18 fT18,v6e]
    exact .inl ⟨v,_,aA rfl,s18,mp617.dS.mul mp17.dS,λid off len cap e=>by have:=l18 _ _ _ _ e;have:=fT17.next;omega,tk17.mono f18,fT18⟩
   ·simp(disch:=omega)only[go_sem]
    exact .inl ⟨v6,_,aA rfl,mp14.si,mp14.dS,fr6,tk14,fT14⟩
 clear mp8 mp9 o6 f8 tk9 fT9 v6 h8 h9 f9 hid6
 rintro vars h8 ⟨v6,x,⟨g,rfl⟩,sx,X,fr6,tk8,f8⟩
 obtain⟨⟨vg,ws,gC,ow,pvs⟩,_,gD,dS,_,fr⟩:=J
 have n8:=f8.next
 have hvin:=λid off m c (e:vg=V.sl id off m c)=>ow.in id off m c e
 have hlw:=bY.length pvs
 have gC8:h8.get C=bZ [aB n,vg]:=by rw[f8.get C nx (by omega)];exact gC
 have c8:h8.cell C 1=some vg:=by rw[H.aE gC8];rfl
 have frn:=fr.next
 have Fr8:Fr h h8:=⟨by omega,λid hid=>by rw[f8.get id (by omega) (by omega)];exact fr.get id hid⟩
 have ow8:fC h8 vg 1 ws (C+1):=ow.qU n8 λid off m c e hid=>by have:=(hvin _ _ _ _ e).2.1;exact f8.get id hid (by omega)
 have pv8:jO (λid=>id<=C∨ ∃off m c,vg= .sl id off m c) h8 ws gens:=jO.fx pvs ⟨n8,λid hid hw=>f8.get id hid (λe=>hw (.inl (by omega)))⟩
 have px:PV (λid=>id<=C∨ ∃off m c,vg= .sl id off m c) h8 v6 x:=by
  refine⟨sx,?_⟩
  cases v6 with
  |sl id off len cap=>
   have:=fr6 _ _ _ _ rfl;rintro (h|⟨off',m',c',e⟩)
   ·omega
   ·have:=(hvin _ _ _ _ e).1;omega
  |_=>trivial
 obtain⟨h9,e9,n9,g9,o9,f9⟩:=iX (h:=h8) rfl [v6]
 have ow9:=ow8.fr f9
 obtain⟨h10,a10,p10⟩:=ow9.push (bytes:=24) (SV.one (by omega) g9 (.kn 1)) (n:=gens.length) (m:=1) (by omega) rfl (by omega) (by omega) (by omega)
 have n10:=p10.next
 rw[n9] at a10
 have apC:dO vg C:=λid off m c e e2=>by have:=(hvin _ _ _ _ e).2.1;omega
 have gC10:h10.get C=bZ [aB n,vg]:=by rw[p10.old C (by omega) apC,o9 C (by omega)];exact gC8
 obtain⟨h11,e11,n11,g11,o11⟩:=Bv h10 C [aB n,.sl (h8.next+1) 0 (gens.length+1) (.un 1)]
 simp(disch:=omega)only[go_sem,c8,dL _ (z:= .aC) px.iG.1 px.iG.2,e9,a10,gC10,JL,e11]
 have ek:(k':Int)- 1=((k'- 1:Nat):Int):=by omega
 rw[ek]
 have old: ∀id,id<h8.next->id≠C->dO vg id->h11.get id=h8.get id:=λid h1 h2 h3=>by rw[o11 id h2,p10.old id (by omega) h3,o9 id (by omega)]
 have apl: ∀id,id<=C->dO vg id:=λid hid id' off m c e e2=>by have:=(hvin _ _ _ _ e).2.1;omega
 have ow11:=p10.own (by omega) rfl (b:=C+1) (by omega)
 rw[n9] at ow11
 have x11:Fx (λid=>id<=C∨ ∃off m c,vg= .sl id off m c) h8 h11:=⟨by omega,λid hid hw=>old id hid (λe=>hw (.inl (by omega))) (λid' off m c e e2=>hw (.inr ⟨off,m,c,e2▸e⟩))⟩
 have hw11: ∀id,id<h8.next->(id<=C∨ ∃off m c,V.sl (h8.next+1) 0 (gens.length+1) (.un 1)= .sl id off m c)->(id<=C∨ ∃off m c,vg= .sl id off m c):=λid hid hw=>by
  rcases hw with hw|⟨off,m,c,e⟩
  ·exact .inl hw
  ·cases e;omega
 refine⟨k'- 1,by omega,k'- 1,gens++ [x],aA rfl,by rw[oS];simp;omega,⟨⟨_,_,g11,ow11.qU (by omega) (λid off m c e hid=>by cases e;exact o11 _ (by omega)),(jO.go pv8 x11 hw11).append (jO.one (PV.go px x11 hw11))⟩,tk8.low (by omega) (λid hid=>old id (by omega) (by omega) (apl id (by omega))),?_,λu hu=>?_,by omega,⟨by omega,λid hid=>?_⟩⟩,rfl⟩
 ·rw[old D (by omega) (by omega) (apl D (by omega)),f8.get D (by omega) (by omega)];exact gD
 ·rcases La.1 hu with hu|hu
  ·exact dS u hu
  ·simp at hu;subst hu;exact X
 ·rw[old id (by omega) (by omega) (apl id (by omega))];exact Fr8.get id hid
set_option maxRecDepth 100000
section
variable {n:Nat} {G:List Nat->Prop} {L:LN} {K:List Nat}
theorem Eg (E:fL G L){y:List Nat}(hy:G y):L.idxOf y<L.length/\L.getD (L.idxOf y) []=y:=by
 have h1:=(E.mem y).2 hy;have h2:=List.idxOf_lt_length_iff.2 h1;refine⟨h2,?_⟩;rw[List.getD,iK h2];simp
theorem Ap.lt (k:Ap n G L K){r:Nat}(hr:r∈K):r<L.length:=(rR.1 (k.perm.mem_iff.1 hr)).1
theorem Ap.nd (k:Ap n G L K):K.Nodup:=k.perm.nodup_iff.2 (by unfold jY;exact List.nodup_range.filter _)
noncomputable def zp (n:Nat)(x:List Nat)(z:Int):List Nat:=pw n x (z%(jZ x n:Nat)).toNat
variable (hG:rO n G) (E:fL G L) (k:Ap n G L K)
include hG E k
theorem tV {j:Nat}(hj:j<L.length):fQ G L K j<K.length/\cR G L (K.getD (fQ G L K j) 0) j:=by
 obtain⟨i,hi,h⟩:=Ed hG E k.perm hj;have e:=Hi hG E k.perm hi h;rw[e];exact⟨hi,(jP.1 h).2⟩
theorem EB {i j:Nat}(hi:i<L.length)(hj:j<L.length)(h:cR G L i j):fQ G L K i=fQ G L K j:=by
 obtain⟨h1,h2⟩:=tV hG E k hi;have hr:K.getD (fQ G L K i) 0<L.length:=k.lt (bB h1);exact ((Ud hG E k.perm h1 hj).2 (mQ hG E hr h2 h)).symm
omit hG E k in
theorem Cg {x:List Nat}(X:bG n x):jZ x n=1↔x=bW n:=by
 constructor
 ·intro h
  have:=(vI X 1).1 (by rw[h];exact Nat.dvd_refl _);rwa [Qf X] at this
 ·intro h
  have:=(vI X 1).2 (by rw[Qf X];exact h);exact Nat.dvd_one.1 this
theorem AY:0<K.length/\K.getD 0 0=0:=by
 obtain⟨h0,h1⟩:=NF hG E;have hm:0∈K:=k.perm.mem_iff.2 (rR.2 ⟨h0,λj hj=>by omega⟩);have hl:=List.length_pos_of_mem hm;refine⟨hl,?_⟩;obtain⟨i,hi,ei⟩:=Gx.1 hm
 by_cases e:i=0
 ·subst e;rw[List.getD,iK hl];exact ei
 ·have:=List.pairwise_iff_getElem.1 k.asc 0 i hl hi (by omega)
  rw[ei] at this;have e1:jZ (L.getD 0 []) n=1:=(Cg (by rw[h1];exact bG.one n)).2 h1;have hr:K[0]<L.length:=k.lt (List.getElem_mem hl);have X:=jU hG E hr;have p:=Cb X;unfold WX at this;rw[e1] at this;have h2:jZ (L.getD K[0] []) n=1:=by omega
  have h3:=(Cg X).1 h2;rw[←h1] at h3;have:=Fl E.nodup hr h0 h3;rw[List.getD,iK hl];exact this
end
def SK (n:Nat)(x:List Nat):Nat->Nat->Nat
 |0,k=>k
 |f+1,k=>if pw n x k=bW n then k else SK n x f (k+1)
def Yz (n:Nat)(x:List Nat):Nat:=SK n x 420 1
theorem CA {n:Nat}{x:List Nat}(X:bG n x): ∀f k,0<k->k<=jZ x n->jZ x n<=k+f->SK n x f k=jZ x n
 |0,k,_,h1,h2=>by show k=_;omega
 |f+1,k,h0,h1,h2=>by
  unfold SK;split
  ·rename_i e
   exact Nat.le_antisymm h1 (Nat.le_of_dvd h0 ((vI X k).2 e))
  ·rename_i e
   refine CA X f (k+1) (by omega) ?_ (by omega)
   by_cases h:k=jZ x n
   ·exact absurd ((vI X k).1 (by rw[h];exact Nat.dvd_refl _)) e
   ·omega
theorem VF {n:Nat}{x:List Nat}(X:bG n x)(hn:n<=7):jZ x n=Yz n x:=
 (CA X 420 1 (by omega) (Cb X) (by have:=Nat.le_of_dvd (by omega) (Rt X hn);omega)).symm
def cRb (L:LN)(i j:Nat):Bool:=L.any λc=>fS (L.getD i []) c==L.getD j []
def GD (L:LN)(i:Nat):List Nat:=(List.range L.length).filter (cRb L i)
def Tv (L:LN):List Nat:=(List.range L.length).filter λj=>(List.range j).all λi=>!cRb L i j
def JY (L:LN)(K:List Nat)(j:Nat):Nat:=K.findIdx λr=>cRb L r j
def ZB (n:Nat)(L:LN)(r s:Nat):Bool:=decide (Yz n (L.getD r [])<Yz n (L.getD s [])∨Yz n (L.getD r [])=Yz n (L.getD s [])/\((GD L r).length<(GD L s).length∨(GD L r).length=(GD L s).length/\r<s))
section
variable {n:Nat} {G:List Nat->Prop} {L:LN} {K:List Nat}
theorem YL (E:fL G L){x y:List Nat}:cj G x y↔(L.any λc=>fS x c==y)=true:=by
 rw[List.any_eq_true];constructor
 ·rintro⟨c,hc,e⟩
  exact⟨c,(E.mem c).2 hc,by simpa using e⟩
 ·rintro⟨c,hc,e⟩
  exact⟨c,(E.mem c).1 hc,by simpa using e⟩
theorem Yo (E:fL G L){i j:Nat}:cR G L i j↔cRb L i j=true:=YL E
theorem NU (E:fL G L)(i j:Nat)(d:Decidable (cR G L i j)): @decide (cR G L i j) d=cRb L i j:=by
 rw[Bool.eq_iff_iff,decide_eq_true_iff];exact Yo E
theorem AU (E:fL G L)(i:Nat):gO G L i=GD L i:=by
 unfold gO GD;exact List.filter_congr λj _=>NU E i j _
theorem HW (E:fL G L):jY G L L.length=Tv L:=by
 unfold jY Tv;refine List.filter_congr λj _=>?_
 classical
 rw[Bool.eq_iff_iff,decide_eq_true_iff,List.all_eq_true];unfold AV;constructor
 ·intro h i hi
  have:=h i (Pl.1 hi);rw[Yo E] at this;simpa using this
 ·intro h i hi
  have:=h i (Pl.2 hi);rw[Yo E];simpa using this
theorem Qa (E:fL G L)(j:Nat):fQ G L K j=JY L K j:=by
 unfold fQ JY;congr 1;funext r;exact NU E r j _
theorem acN (hG:rO n G)(E:fL G L): ∀x∈L,bG n x:=λx hx=>hG.dS ((E.mem x).1 hx)
theorem Wb (hG:rO n G)(E:fL G L)(hn:n<=7){r:Nat}(hr:r<L.length):jZ (L.getD r []) n=Yz n (L.getD r []):=VF (acN hG E _ (bB hr)) hn
theorem WE (hG:rO n G)(E:fL G L)(hn:n<=7){r s:Nat}(hr:r<L.length)(hs:s<L.length):WX n G L r s↔ZB n L r s=true:=by
 unfold WX ZB;rw[decide_eq_true_iff,Wb hG E hn hr,Wb hG E hn hs,AU E,AU E]
def HJ (n:Nat)(L:LN)(K:List Nat):Bool:=K.isPerm (Tv L)&&decide (K.Pairwise λr s=>ZB n L r s=true)
theorem HJ.isK (hG:rO n G)(E:fL G L)(hn:n<=7)(h:HJ n L K=true):Ap n G L K:=by
 unfold HJ at h;rw[Bool.and_eq_true,decide_eq_true_iff] at h;have p:K.Perm (Tv L):=List.isPerm_iff.1 h.1
 have hm: ∀r∈K,r<L.length:=λr hr=>by
  have:=p.mem_iff.1 hr;unfold Tv at this;exact Pl.1 (Tt.1 this).1
 exact⟨by rw[HW E];exact p,List.Pairwise.imp_of_mem (λhr hs h=>(WE hG E hn (hm _ hr) (hm _ hs)).2 h) h.2⟩
theorem HJ.eq (hG:rO n G)(E:fL G L)(hn:n<=7){K0:List Nat}(h:HJ n L K0=true)(k:Ap n G L K):K=K0:=k.uniq (HJ.isK hG E hn h)
end
def adA (n:Nat)(S:LN)(w:List Nat):List Nat:=w.foldl (λx i=>aS x (S.getD i [])) (bW n)
theorem Rn {n:Nat}{S:LN}: ∀(w:List Nat) (x:List Nat),(∀i∈w,i<S.length)->fF n (· ∈S) x->fF n (· ∈S) (w.foldl (λx i=>aS x (S.getD i [])) x)
 | [],_,_,h=>h
 |i::w,x,hw,h=>Rn w _ (λj hj=>hw j (by simp [hj])) (h.mul (bB (hw i (by simp))))
def PE (n:Nat)(S L:LN)(ws:LN):Bool:=
 L==ws.map (adA n S)&&ws.all (λw=>w.all λi=>decide (i<S.length))&&decide (L.Pairwise λx y=>tE x y=true)&&L.all (λx=>x.length==n)&&L.contains (bW n)&&L.all λx=>S.all λg=>L.contains (aS x g)
theorem PE.abV {n:Nat}{S L:LN}{ws:LN}(h:PE n S L ws=true):fL (fF n (· ∈S)) L:=by
 unfold PE at h;simp only[Bool.and_eq_true,beq_iff_eq,List.all_eq_true,decide_eq_true_iff,List.contains_iff_mem] at h;obtain⟨⟨⟨⟨⟨h1,h2⟩,h3⟩,h4⟩,h5⟩,h6⟩:=h;refine⟨List.Pairwise.imp_of_mem (λhx hy h=>(nK (by rw[h4 _ hx,h4 _ hy])).1 h) h3,λx=>⟨λhx=>?_,λhx=>?_⟩⟩
 ·rw[h1] at hx
  obtain⟨w,hw,rfl⟩:=xV.1 hx;exact Rn w _ (h2 w hw) .one
 ·induction hx with
  |one=>exact h5
  |mul _ hg ih=>exact h6 _ ih _ hg
def C4:LN:= [[1,2,3,0]]
def A4:LN:= [[1,2,0,3], [0,2,3,1]]
def L3:LN:= [[0,1,2], [0,2,1], [1,0,2], [1,2,0], [2,0,1], [2,1,0]]
def L4:LN:= [[0,1,2,3], [1,2,3,0], [2,3,0,1], [3,0,1,2]]
theorem AS:fL (fF 4 (· ∈C4)) L4:=PE.abV (ws:= [[], [0], [0,0], [0,0,0]]) (by decide+kernel)
theorem XE:HJ 3 L3 [0,1,3]=true:=by decide+kernel
theorem acG:HJ 4 L4 [0,2,1,3]=true:=by decide+kernel
def Oa (n:Nat)(x:List Nat):Bool:=x.length==n&&decide x.Nodup&&x.all λp=>decide (p<n)
theorem Rq {n:Nat}{x:List Nat}(h:Oa n x=true):bG n x:=by
 unfold Oa at h;simp only[Bool.and_eq_true,beq_iff_eq,List.all_eq_true,decide_eq_true_iff] at h;exact⟨h.1.1,h.1.2,h.2⟩
theorem ZF: ∀g∈C4,bG 4 g:=λg hg=>Rq ((List.all_eq_true.1 (show C4.all (Oa 4)=true by decide+kernel)) g hg)
theorem Wa (h:H)(x y z:Int):uY h 1 [aB 0] 3 [(0,1,aB x),(1,1,aB y),(2,1,aB z)]=some (.sl h.next 0 3 (.kn 3),h.new (.cells false (ints [x,y,z]))):=by
 have e:eE [aB 0] 3= [aB 0,aB 0,aB 0]:=rfl;simp [uY,jQ,e,putAt,V.cells,V.one,ints]
theorem PF (h:H)(x y z w:Int):uY h 1 [aB 0] 4 [(0,1,aB x),(1,1,aB y),(2,1,aB z),(3,1,aB w)]=some (.sl h.next 0 4 (.kn 4),h.new (.cells false (ints [x,y,z,w]))):=by
 have e:eE [aB 0] 4= [aB 0,aB 0,aB 0,aB 0]:=rfl;simp [uY,jQ,e,putAt,V.cells,V.one,ints]
theorem aaC (h:H){v u:V}(hv:v.cells= [v]/\v.one=true)(hu:u.cells= [u]/\u.one=true):uY h 1 [.aC] 2 [(0,1,v),(1,1,u)]=some (.sl h.next 0 2 (.kn 2),h.new (.cells false [v,u])):=by
 have e:eE [V.aC] 2= [.aC,.aC]:=rfl;simp [uY,jQ,e,putAt,hv.1,hv.2,hu.1,hu.2]
theorem yY (id o m:Nat)(c:qP):(V.sl id o m c).cells= [.sl id o m c]/\(V.sl id o m c).one=true:=⟨rfl,rfl⟩
theorem WY {h:H}{ID:Nat}(hid:h.next=ID)(l:List Int): ∃x,h.new (.cells false (ints l))=x/\x.next=ID+1/\SI x (.sl ID 0 l.length (.kn l.length)) l/\Fr h x:=by
 obtain⟨x,e,n,g,o,f⟩:=iX hid (ints l);exact⟨x,e,n,SV.all (by rw[aJ,Nat.mul_one]) (by omega) g _,f⟩
theorem SP.two {h h':H}{id:Nat}{v u:V}{a b:List Nat}(hv:SI h v (zi a))(hu:SI h u (zi b))(hid:id<h'.next)(f:Fr h h')(g:h'.get id=bZ [v,u])(cap:qP):SP h' (.sl id 0 2 cap) [a,b]:=
 ⟨[v,u],SV.all rfl hid g _,hv.mono f,hu.mono f,trivial⟩
theorem SP.acP {h h':H}{id:Nat}{v:V}{a:List Nat}(hv:SI h v (zi a))(hid:id<h'.next)(f:Fr h h')(g:h'.get id=bZ [v])(cap:qP):SP h' (.sl id 0 1 cap) [a]:=
 ⟨[v],SV.all rfl hid g _,hv.mono f,trivial⟩
theorem GC.sl {W:Nat->Prop}{h:H}{vc:V}{n:Nat}{O:LN}{R:qI}{G:List Nat->Prop}(g:GC W h vc n O R G): ∃vO vR,vc= .agg [aB n,vO,vR]/\vO.one=true/\vR.one=true/\eN vO vO=true/\eN vR vR=true:=by
 obtain⟨vO,vR,wsO,wsR,e,t1,_,_,t2,_,_⟩:=g.cw;exact⟨vO,vR,e,t1.eD.2.1,t2.eD.2.1,t1.eN,t2.eN⟩
theorem GC.el {W:Nat->Prop}{h:H}{vc:V}{n:Nat}{O:LN}{R:qI}{G:List Nat->Prop}{L:LN}(g:GC W h vc n O R G)(E:fL G L):dD O R n 0 (bW n)=L:=(kV g.oG g.isc).1.uniq E
theorem vP {v:V}{h:H}{l:List Int}(s:SI h v l):v.cells= [v]/\v.one=true:=⟨(SV.eD s).1,(SV.eD s).2.1⟩
theorem dT {i:Decidable True}: @decide True i=true:=decide_eq_true trivial
def SB (h:H)(v:V)(l:List Bool):Prop:=SV h v 1 (l.map V.bool)
theorem SB.mono {h h':H}{v:V}{l:List Bool}(s:SB h v l)(f:Fr h h'):SB h' v l:=SV.mono s f
theorem SB.open {h:H}{v:V}{l:List Bool}(s:SB h v l):dM v=some (aB (l.length:Int))/\ ∃id off,Sl v 1 l.length id off/\ ∀i,i<l.length->id<h.next/\h.cell id (off+i)=some (.bool (l.getD i false)):=by
 have hl:(l.map V.bool).length=l.length:=qX ..;refine⟨by unfold dM;rw[SV.len s (n:=l.length) (by omega) (by omega)];rfl,?_⟩;obtain⟨id,off,sh,hid,hc⟩:=SV.shape s l.length (by omega) (by omega);exact⟨id,off,sh,λi hi=>⟨hid (by omega),by rw[hc i (by omega),List.getElem?_map,List.getD,iK hi];rfl⟩⟩
set_option maxRecDepth 100000
theorem GC.all {W:Nat->Prop}{h:H}{vc:V}{n:Nat}{O:LN}{R:qI}{G:List Nat->Prop}(g:GC W h vc n O R G):fL G (dD O R n 0 (bW n))/\(dD O R n 0 (bW n)).length<=5040:=by
 have e:=kV g.oG g.isc;exact⟨e.1,by rw[e.2];exact nT g⟩
theorem GH {n:Nat}{a b x:List Nat}(A:bG n a)(B:bG n b)(X:bG n x)(h:fS a x=fS b x):a=b:=by
 rw[←zT A X,h,zT B X]
section
variable {n:Nat} {G H:List Nat->Prop} {L M:LN} {K K':List Nat} {x:List Nat}
variable (hG:rO n G) (E:fL G L) (k:Ap n G L K) (hH:rO n H) (F:fL H M) (k':Ap n H M K') (X:bG n x) (hx: ∀y,H y↔ ∃g,G g/\fS g x=y)
include hG E k hH F k' X hx
end
def fN (v:V)(id:Nat):Prop:= ∃off m c,v= .sl id off m c
theorem jO.sp' {W:Nat->Prop}{h:H}{v:V}{ws:List V}{l:LN}(sv:SV h v 1 ws)(p:jO W h ws l):SP h v l:=by
 refine⟨ws,sv,?_⟩;have hl:=bY.length p
 exact bY.nC (by simpa using hl) λi hi hj=>by
  have:=(bY.get p i hi (by omega)).si;simpa using this
section
variable {h:H} {v:V} {ws:List V} {b k n:Nat} {x y:List Nat} {A S Q:LN}
def Rj (h:H)(v:V)(ws:List V)(b:Nat):Prop:= ∃id cap rest,v= .sl id 0 ws.length cap/\b<=id/\id<h.next/\h.get id=bZ (ws++rest)/\(cap= .un 1∨cap= .kn 1/\ws.length+rest.length=1)
theorem Rj.sv (t:Rj h v ws b):SV h v 1 ws:=by
 obtain⟨id,cap,rest,rfl,h1,h2,h3,_⟩:=t;exact .inr ⟨id,0,_,cap,false,_,rfl,(Nat.mul_one _).symm,h2,h3,by rw[oS];omega,by rw[List.drop_zero,Nat.mul_one,List.take_left' rfl]⟩
theorem Rj.qU {h':H}(t:Rj h v ws b)(hn:h.next<=h'.next)(hg: ∀id,fN v id->h'.get id=h.get id):Rj h' v ws b:=by
 obtain⟨id,cap,rest,e,h1,h2,h3,h4⟩:=t;exact⟨id,cap,rest,e,h1,by omega,by rw[hg id ⟨_,_,_,e⟩];exact h3,h4⟩
theorem Rj.in (t:Rj h v ws b){id:Nat}(hb:fN v id):b<=id/\id<h.next:=by
 obtain⟨i,cap,rest,rfl,h1,h2,_⟩:=t;obtain⟨_,_,_,e⟩:=hb;cases e;exact⟨h1,h2⟩
theorem Rj.pop (t:Rj h v ws b)(hk:ws.length=k+1):
  ∃v',uW 1 v none (some (aB k)) none=some v'/\Rj h v' (ws.take k) b/\ ∀id,fN v' id->fN v id:=by
 obtain⟨id,cap,rest,rfl,h1,h2,h3,h4⟩:=t
 have hl:(ws.take k).length=k:=by rw[Lm];omega
 have hr:ws++rest=ws.take k++(ws.drop k++rest):=by rw[←List.append_assoc,List.take_append_drop]
 rcases h4 with rfl|⟨rfl,h5⟩
 ·refine⟨_,XT (by omega) (by omega),⟨id,_,ws.drop k++rest,by rw[hl,Int.toNat_natCast],h1,h2,by rw[h3,hr],.inl rfl⟩,λi ⟨_,_,_,e⟩=>by cases e;exact⟨_,_,_,rfl⟩⟩
 ·refine⟨_,aaN (by omega) (by omega),⟨id,_,ws.drop k++rest,by rw[hl,Int.toNat_natCast],h1,h2,by rw[h3,hr],.inr ⟨rfl,by rw[hl,oS,List.length_drop];omega⟩⟩,λi ⟨_,_,_,e⟩=>by cases e;exact⟨_,_,_,rfl⟩⟩
theorem Rj.push {y:V}{S:Nat}{c:qP}(t:Rj h v ws b)(hS:SV h (.sl S 0 1 c) 1 [y])(hb:b<=h.next)(hw:ws.length<1000000):
  ∃v' h',Bk h 1 24 v (.sl S 0 1 c)=some (v',h')/\Rj h' v' (ws++ [y]) b/\(∀k,k<h.next-> ¬fN v k->h'.get k=h.get k)/\h.next<=h'.next/\h'.next<=h.next+1/\ ∀k,fN v' k->fN v k∨k=h.next:=by
 have e1:Bk h 1 24 v (.sl S 0 1 c)=Ay.wQ h 1 24 v 1 [y]:=by
  simp only[Bk,hS.len (n:=1) rfl (by omega),hS.slice]
 rw[e1]
 have hx:=t.sv
 have hlen:=hx.len (n:=ws.length) (by omega) (by omega)
 have hsl:=hx.slice
 obtain⟨id,cap,rest,rfl,h1,h2,h3,h4⟩:=t
 unfold Ay.wQ
 simp only[hlen,hsl]
 rw[if_neg (by omega),if_pos ⟨by omega,by omega⟩]
 have key: ∀g:H,g.next=h.next->(∀k,k<h.next->k≠id->g.get k=h.get k)-> ∃v' h',some (V.sl h.next 0 (ws.length+1) (.un 1),g.new (.cells false (ws++ [y])))=some (v',h')/\Rj h' v' (ws++ [y]) b/\(∀k,k<h.next-> ¬fN (.sl id 0 ws.length cap) k->h'.get k=h.get k)/\h.next<=h'.next/\h'.next<=h.next+1/\ ∀k,fN v' k->fN (.sl id 0 ws.length cap) k∨k=h.next:=by
  intro g gn gg;refine⟨_,_,rfl,⟨h.next,_, [],by rw[oS];rfl,hb,by rw[H.aV];omega,by rw[←gn,H.aL,List.append_nil],.inl rfl⟩,λk hk ha=>?_,by rw[H.aV];omega,by rw[H.aV];omega,λk ⟨_,_,_,e⟩=>by cases e;exact .inr rfl⟩;rw[H.bE g (by omega)];exact gg k hk (λe=>ha ⟨_,_,_,by rw[e]⟩)
 rcases h4 with rfl|⟨rfl,h5⟩
 ·simp only[h3,if_true]
  exact key (h.set id none) rfl (λk _ hk=>H.aH h hk none)
 ·simp only
  by_cases e:ws.length+1<=1
  ·rw[if_pos e]
   have e0:ws= []:=List.eq_nil_of_length_eq_zero (by omega)
   subst e0
   obtain⟨z,rfl⟩: ∃z,rest= [z]:=List.length_eq_one_iff.1 (by simpa using h5)
   have hp:h.put id (0+([]:List V).length*1) [y]=some (h.set id (bZ [y])):=by
    simp [H.put,h3,putAt]
   rw[hp]
   refine⟨_,_,rfl,⟨id,_, [],rfl,h1,h2,by rw[H.aT];rfl,.inr ⟨rfl,rfl⟩⟩,λk hk ha=>H.aH h (λe=>ha ⟨0,0,.kn 1,by rw[e];rfl⟩) _,jA _,Nat.le_succ _,λk ⟨_,_,_,e⟩=>by cases e;exact .inl ⟨_,_,_,rfl⟩⟩
  ·rw[if_neg e]
   exact key h rfl (λ_ _ _=>rfl)
def ZW (n:Nat):LN:=(yT n n).filter (Oa n)
theorem HP (X:bG n x):x∈ZW n:=by
 unfold ZW;rw[Tt];refine⟨X.rV,?_⟩;unfold Oa;simp only[Bool.and_eq_true,beq_iff_eq,List.all_eq_true,decide_eq_true_iff];exact⟨⟨X.len,X.nd⟩,X.lt⟩
theorem wF (hn:n<=5){l:LN}(nd:l.Nodup)(hP: ∀x∈l,bG n x):l.length<=120:=by
 have h: ∀n,n<=5->(ZW n).length<=120:=by decide+kernel
 exact Nat.le_trans (List.Nodup.length_le_of_subset nd λx hx=>HP (hP x hx)) (h n hn)
theorem Cd {n:Nat}(asc:A.Pairwise Lt):A.Nodup:=asc.imp λh e=>by rw[e] at h;exact h.irrefl
def Lo (A:LN)(k:Nat)(y:List Nat):LN:=A.take k++y::A.drop k
theorem oC {z:List Nat}:z∈Lo A k y↔z=y∨z∈A:=by
 unfold Lo;rw[La,List.mem_cons];constructor
 ·rintro (h|h|h)
  ·exact .inr (List.mem_of_mem_take h)
  ·exact .inl h
  ·exact .inr (List.mem_of_mem_drop h)
 ·rintro (h|h)
  ·exact .inr (.inl h)
  ·rw[←List.take_append_drop k A,La] at h
   rcases h with h|h
   ·exact .inl h
   ·exact .inr (.inr h)
theorem yX:(Lo A k y).length=A.length+1:=by
 unfold Lo;rw[oS,List.length_cons,Lm,List.length_drop];omega
theorem OB {a b:List Nat}(A:bG n a)(B:bG n b)(h1: ¬Lt a b)(h2:a≠b):Lt b a:=by
 have h: ∃i,i<n/\a.getD i 0≠b.getD i 0:=Ln λh=>h2 (sE (by rw[A.len,B.len]) λi hi=>Ln λh3=>h ⟨i,by rw[←A.len];exact hi,h3⟩)
 obtain⟨i,hi,hne⟩:=h
 have hw: ∃i,(i<n/\a.getD i 0≠b.getD i 0)/\ ∀j,j<i-> ¬(j<n/\a.getD j 0≠b.getD j 0):=by
  revert hi hne
  induction i using Nat.strongRecOn with
  |ind i ih=>
   intro hi hne
   by_cases h: ∃j,j<i/\j<n/\a.getD j 0≠b.getD j 0
   ·obtain⟨j,h3,h4,h5⟩:=h
    exact ih j h3 h4 h5
   ·exact⟨i,⟨hi,hne⟩,λj hj hjn=>h ⟨j,hj,hjn⟩⟩
 obtain⟨k,⟨hk,hk2⟩,hmin⟩:=hw;have he: ∀j,j<k->a.getD j 0=b.getD j 0:=λj hj=>Ln λh3=>hmin j hj ⟨by omega,h3⟩
 rcases Nat.lt_or_gt_of_ne hk2 with h4|h4
 ·exact (h1 ⟨k,by rw[A.len];exact hk,he,h4⟩).elim
 ·exact⟨k,by rw[B.len];exact hk,λj hj=>(he j hj).symm,h4⟩
theorem PW (hP: ∀x∈A,bG n x)(Y:bG n y)(asc:A.Pairwise Lt)(p:Plc A y k)(hy:y∉A):(Lo A k y).Pairwise Lt:=by
 unfold Lo;rw[List.pairwise_append];have at': ∀{z:List Nat},z∈A.take k-> ∃i,i<k/\i<A.length/\A.getD i []=z:=λh=>(OI (d:= [])).1 h
 have bt: ∀{z:List Nat},z∈A.drop k-> ∃i,k<=i/\i<A.length/\A.getD i []=z:=λh=>by
  obtain⟨q,hq,e⟩:=Gx.1 h;rw[List.length_drop] at hq;rw[List.getElem_drop] at e;exact⟨k+q,by omega,by omega,by rw[List.getD,iK (by omega),←e];rfl⟩
 have lo: ∀z∈A.take k,Lt z y:=λz hz=>by
  obtain⟨i,h1,h2,rfl⟩:=at' hz;exact (nK (by rw[(hP _ (bB h2)).len,Y.len])).1 (p.lo i h1)
 have hi: ∀z∈A.drop k,Lt y z:=λz hz=>by
  obtain⟨i,h1,h2,rfl⟩:=bt hz;have Z:=hP _ (bB (d:= []) h2);refine OB Z Y (λh=>?_) (λe=>hy (by rw[←e];exact bB h2));have:=p.hi i h1 h2;rw[(nK (by rw[Z.len,Y.len])).2 h] at this;cases this
 refine⟨asc.sublist (List.take_sublist k A),List.pairwise_cons.2 ⟨hi,asc.sublist (List.drop_sublist k A)⟩,λz hz w hw=>?_⟩;rcases List.mem_cons.1 hw with rfl|hw
 ·exact lo z hz
 ·have Z:=hP z (List.mem_of_mem_take hz)
  exact Lt.trans (by rw[Z.len,Y.len]) (lo z hz) (hi w hw)
structure SE (n:Nat)(S A Q:LN):Prop where
 asc:A.Pairwise Lt
 gen: ∀x∈A,fF n (· ∈S) x
 one:bW n∈A
 sub: ∀x∈Q,x∈A
 cl: ∀x∈A,x∉Q-> ∀g∈S,aS x g∈A
theorem SE.start (n:Nat)(S:LN):SE n S [bW n] [bW n]:=
 ⟨List.pairwise_singleton _ _,λx hx=>by simp at hx;subst hx;exact .one,by simp,λx hx=>hx,λx hx h=>absurd hx h⟩
theorem SE.done (j:SE n S A []):fL (fF n (· ∈S)) A:=by
 refine⟨j.asc,λx=>⟨j.gen x,λh=>?_⟩⟩
 induction h with
 |one=>exact j.one
 |mul _ hg ih=>exact j.cl _ ih List.not_mem_nil _ hg
structure ER (n:Nat)(S:LN)(x:List Nat)(i:Nat)(A Q:LN):Prop where
 asc:A.Pairwise Lt
 gen: ∀x∈A,fF n (· ∈S) x
 one:bW n∈A
 sub: ∀x∈Q,x∈A
 mem:x∈A
 cl: ∀z∈A,z∉Q->z=x∨ ∀g∈S,aS z g∈A
 dn: ∀j,j<i->aS x (S.getD j [])∈A
theorem ER.start (j:SE n S A (Q++ [x])):ER n S x 0 A Q:=
 ⟨j.asc,j.gen,j.one,λz hz=>j.sub z (by simp [hz]),j.sub x (by simp),λz hz hq=>by
  by_cases e:z=x
  ·exact .inl e
  ·exact .inr (j.cl z hz (by simp [hq,e])),λj hj=>by omega⟩
theorem ER.done (j:ER n S x S.length A Q):SE n S A Q:=
 ⟨j.asc,j.gen,j.one,j.sub,λz hz hq g hg=>by
  rcases j.cl z hz hq with rfl|h
  ·obtain⟨i,hi,e⟩:=Gx.1 hg
   have:=j.dn i hi;rwa [List.getD,iK hi,Option.getD_some,e] at this
  ·exact h g hg⟩
theorem ER.skip {i:Nat}(j:ER n S x i A Q)(h:aS x (S.getD i [])∈A):ER n S x (i+1) A Q:=
 ⟨j.asc,j.gen,j.one,j.sub,j.mem,j.cl,λk hk=>by
  by_cases e:k=i
  ·rw[e];exact h
  ·exact j.dn k (by omega)⟩
theorem ER.step {i:Nat}(j:ER n S x i A Q)(hS: ∀g∈S,bG n g)(hi:i<S.length)(h:aS x (S.getD i [])∉A)(p:Plc A (aS x (S.getD i [])) k):ER n S x (i+1) (Lo A k (aS x (S.getD i []))) (Q++ [aS x (S.getD i [])]):=by
 have gx:=j.gen x j.mem;have gy:fF n (· ∈S) (aS x (S.getD i [])):=gx.mul (bB hi);obtain⟨y,hy⟩:=exI (aS x (S.getD i []));rw[hy] at gy h p ⊢;refine⟨PW (λz hz=>(j.gen z hz).dS hS) (gy.dS hS) j.asc p h,λz hz=>?_,oC.2 (.inr j.one),λz hz=>?_,oC.2 (.inr j.mem),λz hz hq=>?_,λq hq=>?_⟩
 ·rcases oC.1 hz with rfl|hz
  ·exact gy
  ·exact j.gen z hz
 ·rcases La.1 hz with hz|hz
  ·exact oC.2 (.inr (j.sub z hz))
  ·simp at hz;exact oC.2 (.inl hz)
 ·rcases oC.1 hz with rfl|hz
  ·exact absurd (by simp) hq
  ·rcases j.cl z hz (λh=>hq (by simp [h])) with e|h2
   ·exact .inl e
   ·exact .inr λg hg=>oC.2 (.inr (h2 g hg))
 ·by_cases e:q=i
  ·rw[e,hy];exact oC.2 (.inl rfl)
  ·exact oC.2 (.inr (j.dn q (by omega)))
theorem GM {A:List V}(hk:k<=A.length)(z y:V):(((A++ [z]).take (k+1)++A.drop k).set k y)=A.take k++y::A.drop k:=by
 have h1:(A++ [z]).take (k+1)=A.take k++ [(A++ [z]).getD k .undef]:=by
  rw[iY .undef (by rw[oS];simp;omega),List.take_append_of_le_length hk]
 rw[h1,List.append_assoc,List.set_append_right _ _ (by rw[Lm];omega),Lm,Nat.min_eq_left hk,Nat.sub_self]
 rfl
theorem jO.Lo {W:Nat->Prop}{wa:List V}(p:jO W h wa A)(q:PV W h v y)(hk:k<=A.length):jO W h (wa.take k++v::wa.drop k) (Go.Proofs.YtapfcpkecmmagaaGreat.Lo A k y):=by
 have hl:=bY.length p
 have t: ∀(k:Nat) (wa:List V) (A:LN),jO W h wa A->jO W h (wa.take k) (A.take k)/\jO W h (wa.drop k) (A.drop k):=by
  intro k
  induction k with
  |zero=>intro wa A p;exact⟨trivial,p⟩
  |succ k ih=>
   intro wa A p
   cases wa with
   |nil=>cases A with
    |nil=>exact⟨trivial,trivial⟩
    |cons=>exact p.elim
   |cons a wa=>cases A with
    |nil=>exact p.elim
    |cons b A=>
     obtain⟨h1,h2⟩:=ih wa A p.2
     exact⟨⟨p.1,h1⟩,h2⟩
 obtain⟨h1,h2⟩:=t k wa A p;exact h1.append ⟨q,h2⟩
theorem Rj.own (t:Rj h v ws b)(h0:0<ws.length):fC h v 1 ws b:=by
 obtain⟨id,cap,rest,rfl,h1,h2,h3,h4⟩:=t;refine .inr ⟨id,ws.length,cap,rest,rfl,(Nat.mul_one _).symm,?_,h1,h2,h3⟩;rcases h4 with h4|⟨rfl,h5⟩
 ·exact .inl h4
 ·have e:ws.length=1:=by omega
  exact .inr ⟨by rw[e],List.eq_nil_of_length_eq_zero (by omega)⟩
theorem ZA {Q m:Nat}(hk:k<=m):uW 1 (.sl Q 0 (m+1) (.un 1)) (some (aB k)) none none=some (.sl Q k (m+1-k) (.un 1)):=by
 simp only[uW,oP];rw[if_pos ⟨by omega,by omega⟩];simp only[if_true,Int.toNat_natCast];rw[if_pos (by omega),Nat.zero_add,Nat.mul_one]
theorem TY {Q m:Nat}(hk:k<=m):uW 1 (.sl Q 0 (m+1) (.un 1)) (some (aB ((k:Int)+1))) none none=some (.sl Q (if k<m then k+1 else 0) (m-k) (.un 1)):=by
 simp only[uW,oP];rw[if_pos ⟨by omega,by omega⟩];have e:((k:Int)+1).toNat=k+1:=by omega
 simp only[if_true,e]
 by_cases h:k<m
 ·rw[if_pos (by omega),if_pos h]
  simp only[Option.some.injEq,V.sl.injEq,true_and,and_true];omega
 ·rw[if_neg (by omega),if_neg h]
  simp only[Option.some.injEq,V.sl.injEq,true_and,and_true];omega
theorem SM {Q:Nat}{z:V}(hk:k<=ws.length)(hg:h.get Q=bZ (ws++ [z])):
  DK h 1 (.sl Q (if k<ws.length then k+1 else 0) (ws.length-k) (.un 1)) (.sl Q k (ws.length+1-k) (.un 1))=some (aB (ws.length-k:Nat),h.set Q (bZ ((ws++ [z]).take (k+1)++ws.drop k))):=by
 have e1:qS (.sl Q (if k<ws.length then k+1 else 0) (ws.length-k) (.un 1))=some (ws.length-k):=rfl
 have e2:qS (.sl Q k (ws.length+1-k) (.un 1))=some (ws.length+1-k):=rfl
 have e3:min (ws.length+1-k) (ws.length-k)=ws.length-k:=by omega
 have e4:h.row Q k (ws.length-k)=some (ws.drop k):=by
  unfold H.row;rw[hg];show sub (ws++ [z]) k (ws.length-k)=_;unfold sub;rw[if_pos (by rw[oS];omega),List.drop_append_of_le_length hk,List.take_left' (by rw[List.length_drop])]
 have e5:h.put Q (if k<ws.length then k+1 else 0) (ws.drop k)=some (h.set Q (bZ ((ws++ [z]).take (k+1)++ws.drop k))):=by
  unfold H.put;rw[hg];show (putAt (ws++ [z]) _ (ws.drop k)).map _=_;unfold putAt;have hl:(ws++ [z]).length=ws.length+1:=by simp
  by_cases h:k<ws.length
  ·rw[if_pos h,if_pos (by rw[hl,List.length_drop];omega),List.length_drop,List.drop_eq_nil_of_le (as:=ws++ [z]) (by rw[hl];omega),List.append_nil];rfl
  ·have e:k=ws.length:=by omega
   rw[if_neg h,if_pos (by rw[hl,List.length_drop];omega),e,List.drop_length,List.append_nil,List.append_nil];have e6:(ws++ [z]).take (ws.length+1)=ws++ [z]:=List.take_of_length_le (by rw[hl];omega);rw[e6];simp
 simp only[DK,e1,e2,e3,Nat.mul_one,e4,e5]
structure ESt (h hh:H)(va vt:V)(A Q:LN):Prop where
 ex: ∃wa wt,Rj hh va wa h.next/\Rj hh vt wt h.next/\jO (λq=>fN va q∨fN vt q) hh wa A/\jO (λq=>fN va q∨fN vt q) hh wt Q
 Hb: ∀q,fN va q-> ¬fN vt q
 fr:Fr h hh
theorem Et (mo n:Nat)(vl:V)(S:LN)(h:H)(n0:1<=n)(n5:n<=5)(hS: ∀g∈S,bG n g)(hl:S.length<=16)(hmo: ∀A:LN,A.Nodup->(∀x∈A,fF n (· ∈S) x)->A.length<=mo)(hv:SP h vl S):
  Ev T 18 [aB n,vl,aB mo] h (λv h'=> ∃A,fL (fF n (· ∈S)) A/\A.length<=120/\SP h' v A/\Fr h h'):=by
 refine bN sN rfl rfl ?_
 have lv:=hv.lens
 rw[qX] at lv
 obtain⟨id,off,ws,sh,hid,hwl,hc,hall⟩:=hv.open
 rw[qX] at sh hid hwl hc
 simp(disch:=omega)only[go_sem,sN,aF]
 refine (AF n h (by omega)).mono ?_
 rintro v1 h1 ⟨s1,f1,l1⟩
 obtain⟨B,hB⟩:=exI h1.next
 obtain⟨h2,e2,n2,g2,o2,f2⟩:=iX hB [v1]
 simp(disch:=omega)only[go_sem,dL _ (z:= .aC) (vP s1).1 (vP s1).2,hB,e2]
 refine (AF n h2 (by omega)).mono ?_
 rintro v3 h3 ⟨s3,f3,l3⟩
 obtain⟨C,hC⟩:=exI h3.next
 obtain⟨h4,e4,n4,g4,o4,f4⟩:=iX hC [v3]
 have k1:=f1.next
 have k3:=f3.next
 have F4:=((f1.trans f2).trans f3).trans f4
 have one4: ∀{v:V} {hh:H},SI hh v (zi (bW n))->Fr hh h4->(∀id off len cap,v= .sl id off len cap->id≠B/\id≠C)->PV (λq=>fN (.sl B 0 1 (.kn 1)) q∨fN (.sl C 0 1 (.kn 1)) q) h4 v (bW n):=λ{v hh} s f hne=>by
  refine⟨s.mono f,?_⟩
  cases v with
  |sl i o m c=>
   have:=hne _ _ _ _ rfl;rintro (⟨_,_,_,e⟩|⟨_,_,_,e⟩)
   ·cases e;omega
   ·cases e;omega
  |_=>trivial
 have st4:ESt h h4 (.sl B 0 1 (.kn 1)) (.sl C 0 1 (.kn 1)) [bW n] [bW n]:=by
  refine⟨⟨[v1], [v3],⟨B,_, [],rfl,by omega,by omega,by rw[o4 B (by omega),f3.get B (by omega)];exact g2,.inr ⟨rfl,rfl⟩⟩,⟨C,_, [],rfl,by omega,by omega,g4,.inr ⟨rfl,rfl⟩⟩,jO.one (one4 s1 ((f2.trans f3).trans f4) λi o m c e=>?_),jO.one (one4 s3 f4 λi o m c e=>?_)⟩,λq ⟨_,_,_,e⟩ ⟨_,_,_,e2⟩=>by cases e;cases e2;omega,F4⟩
  ·have:=SV.in s1 _ _ _ _ e;omega
  ·have:=SV.in s3 _ _ _ _ e;have:=l3 _ _ _ _ e;omega
 simp(disch:=omega)only[go_sem,dL _ (z:= .aC) (vP s3).1 (vP s3).2,hC,e4]
 refine aI (λk' vars hh=> ∃(A Q:LN) (va vt:V),(∃g:Nat->V,vars= [aB n,vl,aB mo,g 3,va,vt,g 6,g 7,g 8,g 9,g 10,g 11,g 12,g 13,g 14])/\SE n S A Q/\ESt h hh va vt A Q/\Q.length<=A.length/\k'=1000- 2*A.length+Q.length) _
  ⟨_,_,_,_,aA rfl,SE.start n S,st4,jA _,rfl⟩ ?_
 clear st4 one4 g2 g4 o2 o4 e2 e4 s1 s3 l1 l3 F4 f1 f2 f3 f4 k1 k3 n2 n4 hB hC
 rintro k' vars h5 ⟨A,Q,va,vt,⟨g,rfl⟩,J,st,hqa,rfl⟩
 have AP: ∀x∈A,bG n x:=λx hx=>(J.gen x hx).dS hS
 have la:=wF n5 (Cd J.asc (n:=n)) AP
 obtain⟨⟨wa,wt,ta,tt,pa,pt⟩,Hb,fr⟩:=st
 have lwa:=bY.length pa
 have lwt:=bY.length pt
 have lt5:dM vt=some (aB (Q.length:Int)):=by unfold dM;rw[SV.len tt.sv (n:=Q.length) (by omega) (by omega)];rfl
 by_cases hq:(0:Int)<(Q.length:Int)
 case neg=>
  have d1:=jC hq;have e0:Q= []:=List.eq_nil_of_length_eq_zero (by omega);simp(disch:=omega)only[go_sem,lt5,d1];subst e0;exact⟨A,J.done,la,jO.sp' ta.sv pa,fr⟩
 have d1:=nL hq
 obtain⟨m,hm⟩: ∃m,Q.length=m+1:=⟨Q.length- 1,by omega⟩
 have em:(Q.length:Int)- 1=(m:Int):=by omega
 obtain⟨_,idt,offt,sht,hct⟩:=jO.open tt.sv pt
 obtain⟨_,cx,px⟩:=hct m (by omega)
 obtain⟨x,hx⟩:=exI (Q.getD m [])
 rw[hx] at px
 generalize wt.getD m .undef=vx at cx px
 obtain⟨vt',sl5,tt',bt'⟩:=tt.pop (k:=m) (by omega)
 have hQ:Q=Q.take m++ [x]:=by
  rw[←hx,←iY [] (by omega),List.take_of_length_le (by omega)]
 have ptk:jO (λq=>fN va q∨fN vt' q) h5 (wt.take m) (Q.take m):=by
  have t: ∀(k:Nat) (wa:List V) (A:LN),jO (λq=>fN va q∨fN vt q) h5 wa A->jO (λq=>fN va q∨fN vt q) h5 (wa.take k) (A.take k):=by
   intro k
   induction k with
   |zero=>intro wa A p;exact trivial
   |succ k ih=>
    intro wa A p
    cases wa with
    |nil=>cases A with
     |nil=>exact trivial
     |cons=>exact p.elim
    |cons a wa=>cases A with
     |nil=>exact p.elim
     |cons b A=>exact⟨p.1,ih wa A p.2⟩
  exact jO.tN (t m wt Q pt) λq _ hw=>hw.imp (λh=>h) (bt' q)
 have st':ESt h h5 va vt' A (Q.take m):=⟨⟨wa,wt.take m,ta,tt',jO.tN pa λq _ hw=>hw.imp (λh=>h) (bt' q),ptk⟩,λq h1 h2=>Hb q h1 (bt' q h2),fr⟩
 have px':PV (λq=>fN va q∨fN vt' q) h5 vx x:=PV.tN px λq _ hw=>hw.imp (λh=>h) (bt' q)
 have J':ER n S x 0 A (Q.take m):=ER.start (by rw[←hQ];exact J)
 have lq':(Q.take m).length=m:=by rw[Lm];omega
 simp(disch:=omega)only[go_sem,lt5,d1,em,sht.ixa,cx,sl5]
 refine Cx (λvs hh=> ∃(A' Q':LN) (va vt:V),(∃g:Nat->V,vs= [aB n,vl,aB mo,g 3,va,vt,g 6,g 7,g 8,g 9,g 10,g 11,g 12,g 13,g 14])/\SE n S A' Q'/\ESt h hh va vt A' Q'/\Q'.length<=A'.length/\1000- 2*A'.length+Q'.length<1000- 2*A.length+Q.length) ?_ ?_
 ·refine aI (λk' vars hh=> ∃(i:Nat) (A' Q':LN) (va vt:V),(∃g:Nat->V,vars= [aB n,vl,aB mo,g 3,va,vt,vx,aB i,g 8,g 9,g 10,g 11,g 12,g 13,g 14])/\i<=S.length/\ER n S x i A' Q'/\ESt h hh va vt A' Q'/\PV (λq=>fN va q∨fN vt q) hh vx x/\Q'.length+A.length+1=A'.length+Q.length/\A.length<=A'.length/\k'=S.length-i) S.length
   ⟨0,A,Q.take m,va,vt',aA rfl,lG _,J',st',px',by omega,jA _,rfl⟩ ?_
  clear st' px' J' ptk tt' bt' sl5 Hb fr pa pt ta tt lwa lwt lt5 cx px hct sht vt' g
  rintro k' vars h6 ⟨i,A',Q',va,vt,⟨g,rfl⟩,hi,J,st,px,hcnt,hle,rfl⟩
  have AP': ∀x∈A',bG n x:=λx hx=>(J.gen x hx).dS hS
  have la':=wF n5 (Cd J.asc (n:=n)) AP'
  by_cases hlt:(i:Int)<(S.length:Int)
  case neg=>
   have d2:=jC hlt;obtain rfl:i=S.length:=by omega
   simp(disch:=omega)only[go_sem,lv,d2];exact⟨A',Q',va,vt,aA rfl,J.done,st,by omega,by omega⟩
  have d2:=nL hlt
  have hiS:i<S.length:=by omega
  obtain⟨⟨wa,wt,ta,tt,pa,pt⟩,Hb,fr⟩:=st
  have lwa:=bY.length pa
  have lwt:=bY.length pt
  have cg:h6.cell id (off+i)=some (ws.getD i .undef):=by rw[fr.cell (hid (by omega)),hc i hiS]
  have sg:=(Tw hall hiS).mono fr
  have Gp:bG n (S.getD i []):=hS _ (bB hiS)
  generalize ws.getD i .undef=vg at cg sg
  have X:bG n x:=AP' x J.mem
  simp(disch:=omega)only[go_sem,lv,d2,sh.ixa,cg]
  refine (By vx vg x _ h6 (by rw[X.len];omega) px.si sg (λj hj=>by rw[Gp.len];exact X.eZ (by rw[←X.len];exact hj))).mono ?_
  rintro vy h7 ⟨sy,f7,l7⟩
  obtain⟨y,hy⟩:=exI (aS x (S.getD i []))
  have Y:bG n y:=by rw[←hy];exact X.mul Gp
  rw[hy] at sy
  have ta7:=ta.qU f7.next λq hq=>f7.get q (ta.in hq).2
  have tt7:=tt.qU f7.next λq hq=>f7.get q (tt.in hq).2
  have pa7:=jO.fx pa (Fx.of f7:Fx (λq=>fN va q∨fN vt q) h6 h7)
  have pt7:=jO.fx pt (Fx.of f7:Fx (λq=>fN va q∨fN vt q) h6 h7)
  have px7:=PV.mono px f7
  have hWlt: ∀q,(fN va q∨fN vt q)->q<h6.next:=λq hq=>hq.elim (λh=>(ta.in h).2) (λh=>(tt.in h).2)
  have py7:PV (λq=>fN va q∨fN vt q) h7 vy y:=PV.fresh sy l7 hWlt
  simp(disch:=omega)only[go_sem]
  refine (HZ va vy n A' y h7 (by omega) (by omega) AP' Y J.asc (jO.sp' ta7.sv pa7) sy).mono ?_
  rintro _ h8 ⟨k,rfl,pk,_,f8⟩
  have ta8:=ta7.qU f8.next λq hq=>f8.get q (ta7.in hq).2
  have tt8:=tt7.qU f8.next λq hq=>f8.get q (tt7.in hq).2
  have pa8:=jO.fx pa7 (Fx.of f8:Fx (λq=>fN va q∨fN vt q) h7 h8)
  have pt8:=jO.fx pt7 (Fx.of f8:Fx (λq=>fN va q∨fN vt q) h7 h8)
  have px8:=PV.mono px7 f8
  have py8:=PV.mono py7 f8
  have fr8:=(fr.trans f7).trans f8
  by_cases hyA:y∈A'
  ·have d3:decide (y∈A')=true:=decide_eq_true hyA
   simp(disch:=omega)only[go_sem,d3]
   rw[iJ i]
   exact⟨S.length-(i+1),by omega,i+1,A',Q',va,vt,aA rfl,by omega,J.skip (by rw[hy];exact hyA),⟨⟨wa,wt,ta8,tt8,pa8,pt8⟩,Hb,fr8⟩,px8,hcnt,hle,rfl⟩
  have d3:decide (y∈A')=false:=decide_eq_false hyA
  have J2:=J.step hS hiS (by rw[hy];exact hyA) (by rw[hy];exact pk)
  rw[hy] at J2
  have la2:=wF n5 (Cd J2.asc (n:=n)) (λx hx=>(J2.gen x hx).dS hS)
  rw[yX] at la2
  have lva:dM va=some (aB (A'.length:Int)):=by unfold dM;rw[SV.len ta8.sv (n:=A'.length) (by omega) (by omega)];rfl
  have la3:=hmo _ (Cd J2.asc (n:=n)) J2.gen
  rw[yX] at la3
  have d4:decide ((mo:Int)<=(A'.length:Int))=false:=jC (by omega)
  have hA0:0<A'.length:=List.length_pos_of_mem J.one
  obtain⟨N,hN⟩:=exI h8.next
  obtain⟨h9,e9,n9,g9,o9,f9⟩:=iX hN [.aC]
  have ow9:=(ta8.own (by omega)).fr f9
  obtain⟨h10,a10,p10⟩:=ow9.push (bytes:=24) (SV.one (by omega) g9 (.kn 1)) (n:=A'.length) (m:=1) (by omega) rfl (by omega) (by omega) (by omega)
  have n10:=p10.next
  rw[n9] at a10
  have hk:=pk.le
  have g10:h10.get (N+1)=bZ (wa++ [.aC]):=by rw[←n9];exact p10.get
  obtain⟨hb,ehb,nhb,ghb⟩: ∃hb:H,H.mk h10.tr (h10.next+8)=hb/\hb.next=h10.next+8/\ ∀q,hb.get q=h10.get q:=⟨_,rfl,rfl,λ_=>rfl⟩
  have cp:=SM (k:=k) (by omega) ((ghb (N+1)).trans g10)
  rw[lwa] at cp
  obtain⟨h11,e11,n11,g11,o11⟩:=Bv hb (N+1) ((wa++ [V.aC]).take (k+1)++wa.drop k)
  rw[e11] at cp
  have d5:decide ((k:Int)<0)=false:=jC (by omega)
  have d6:decide (((A'.length+1:Nat):Int)<=(k:Int))=false:=jC (by omega)
  have hl11:((wa++ [V.aC]).take (k+1)++wa.drop k).length=A'.length+1:=by
   rw[oS,Lm,oS,List.length_drop];simp;omega
  have pt1:=aX (vs:=(wa++ [V.aC]).take (k+1)++wa.drop k) (off:=k) (by omega) h11 (N+1) vy
  rw[GM (by omega)] at pt1
  obtain⟨h12,e12,n12,g12,o12⟩:=Bv h11 (N+1) (wa.take k++vy::wa.drop k)
  rw[e12] at pt1
  have cvy:=vP sy
  have fT: ∀q,q<N-> ¬fN va q->h12.get q=h8.get q:=λq h1 h2=>by
   rw[o12 q (by omega),o11 q (by omega),ghb,p10.old q (by omega) (λi o m c e e2=>h2 ⟨o,m,c,e2▸e⟩),o9 q (by omega)]
  have n12':h12.next=N+10:=by omega
  have tt12:=tt8.qU (h':=h12) (by omega) λq hq=>fT q (by have:=(tt8.in hq).2;omega) (λh=>Hb q h hq)
  obtain⟨P,hP⟩:=exI h12.next
  obtain⟨h13,e13,n13,g13,o13,f13⟩:=iX hP [vy]
  have tt13:=tt12.qU f13.next λq hq=>f13.get q (tt12.in hq).2
  have frn:=fr8.next
  obtain⟨vt2,h14,a14,tt14,old14,hn1,hn2,bk14⟩:=tt13.push (S:=P) (c:= .kn 1) (SV.one (by omega) g13 (.kn 1)) (by omega) (by omega)
  simp(disch:=omega)only[go_sem,d3,lva,d4,dL _ (z:= .aC) (v:= .aC) rfl rfl,hN,e9,a10,TY hk,ZA hk,ehb,cp,d5,d6,g11,lE cvy.1 cvy.2,pt1,dL _ (z:= .aC) cvy.1 cvy.2,hP,e13,a14]
  rw[iJ i]
  have htN: ∀q,fN vt q->q<N:=λq hq=>by have:=(tt8.in hq).2;omega
  have oldAll: ∀q,q<N-> ¬fN va q-> ¬fN vt q->h14.get q=h8.get q:=λq h1 h2 h3=>by
   rw[old14 q (by omega) h3,f13.get q (by omega)];exact fT q h1 h2
  have xx:Fx (λq=>fN va q∨fN vt q) h8 h14:=⟨by omega,λq h1 h2=>oldAll q (by omega) (λh=>h2 (.inl h)) (λh=>h2 (.inr h))⟩
  have ww: ∀q,q<h8.next->(fN (.sl (N+1) 0 (A'.length+1) (.un 1)) q∨fN vt2 q)->fN va q∨fN vt q:=λq h1 h2=>by
   rcases h2 with ⟨_,_,_,e⟩|h2
   ·cases e;omega
   ·rcases bk14 q h2 with h3|h3
    ·exact .inr h3
    ·omega
  have g14:h14.get (N+1)=bZ (wa.take k++vy::wa.drop k):=by
   rw[old14 (N+1) (by omega) (λh=>by have:=htN _ h;omega),f13.get (N+1) (by omega)];exact g12
  have py14:PV (λq=>fN (.sl (N+1) 0 (A'.length+1) (.un 1)) q∨fN vt2 q) h14 vy y:=PV.go py8 xx ww
  have pa14:=jO.Lo (jO.go pa8 xx ww) py14 (k:=k) (by omega)
  have lia:(wa.take k++vy::wa.drop k).length=A'.length+1:=by rw[bY.length pa14,yX]
  refine⟨S.length-(i+1),by omega,i+1,_,_,_,_,aA rfl,by omega,J2,⟨⟨_,_,⟨N+1,_, [],by rw[lia],by omega,by omega,by rw[List.append_nil];exact g14,.inl rfl⟩,tt14,pa14,(jO.go pt8 xx ww).append (jO.one py14)⟩,λq ⟨_,_,_,e⟩ h2=>?_,⟨by omega,λq hq=>?_⟩⟩,PV.go px8 xx ww,by rw[yX,oS];simp;omega,by rw[yX];omega,rfl⟩
  ·cases e
   rcases bk14 _ h2 with h3|h3
   ·have:=htN _ h3;omega
   ·omega
  ·rw[oldAll q (by omega) (λh=>by have:=(ta8.in h).1;omega) (λh=>by have:=(tt8.in h).1;omega)]
   exact fr8.get q hq
 clear st' px' J' ptk tt' bt' sl5 Hb fr pa pt ta tt lwa lwt lt5 cx px hct sht vt' g
 rintro vars h6 ⟨A',Q',va,vt,⟨g,rfl⟩,J,st,hle,hms⟩
 simp(disch:=omega)only[go_sem]
 exact⟨_,hms,A',Q',va,vt,aA rfl,J,st,hle,rfl⟩
end
end Go.Proofs.YtapfcpkecmmagaaGreat
namespace Go.Ay
open Go
set_option maxRecDepth 100000
section
variable {e:Nat×V} {y:V}
def Xs (o:Option Ob)(h:H)(id:Nat)(s:xL)(zero k:V):Option (V×H):=match o with
 |some (.wmap sh es)=>if s=sh/\isKey s k=true then
   match fR k es with
   |some e=>some (.tup [e.2,.int .i64 (e.1:Nat)],h)
   |none=>some (.tup [zero,.int .i64 es.length],h.set id (some (.wmap sh (es++ [(k,zero)]))))
  else none
 |_=>none
def ZJ (s:xL)(zero:V)(h:H)(x k:V):Option (V×H):=match x with
 | .mp id=>Xs (h.get id) h id s zero k
 |_=>none
theorem TD (ρ:X->V)(h:H)(s:xL)(zero:V)(x k:X):cK ρ h (.ent s zero x k)=ZJ s zero h (ρ x) (ρ k):=by
 simp only[cK,ZJ,Xs];cases ρ x<;>try rfl
theorem UE (s:xL)(zero:V)(h:H)(id:Nat)(k:V):ZJ s zero h (.mp id) k=Xs (h.get id) h id s zero k:=rfl
def DI (o:Option Ob)(h:H)(id:Nat)(n:Int)(y:V):Option (V×H):=match o with
 |some (.wmap sh es)=>if 0<=n then
   match es[n.toNat]? with
   |some e=>some (V.undef,h.set id (some (.wmap sh (es.set n.toNat (e.1,y)))))
   |none=>none
  else none
 |_=>none
def ZV (h:H)(x s y:V):Option (V×H):=match x,s with
 | .mp id,.int .i64 n=>DI (h.get id) h id n y
 |_,_=>none
theorem SQ (ρ:X->V)(h:H)(x s y:X):cK ρ h (.ens x s y)=ZV h (ρ x) (ρ s) (ρ y):=by
 simp only[cK,ZV,DI];cases ρ x<;>try rfl
theorem WA (h:H)(id:Nat)(n:Int)(y:V):ZV h (.mp id) (.int .i64 n) y=DI (h.get id) h id n y:=rfl
attribute [go_sem] TD UE SQ WA
section
variable {κ:Type} [DecidableEq κ]
def Bu:List (κ×V)->κ->Option (Nat×V)
 | [],_=>none
 |p::l,a=>if a=p.1 then some (0,p.2) else (Bu l a).map λq=>(q.1+1,q.2)
def iW (enc:κ->V)(l:List (κ×V)):List (V×V):=l.map λp=>(enc p.1,p.2)
def Kz (l:List (κ×V))(a:κ):Option V:=(Bu l a).map (·.2)
def Pv (l:List (κ×V))(a:κ)(y:V):List (κ×V):=match Bu l a with
 |some e=>l.set e.1 (a,y)
 |none=>l++ [(a,y)]
theorem Aa {enc:κ->V}{P:κ->Prop}(he: ∀a b,P a->P b->eN (enc a) (enc b)=decide (a=b)){a:κ}(ha:P a): ∀{l:List (κ×V)},(∀p∈l,P p.1)->fR (enc a) (iW enc l)=Bu l a
 | [],_=>rfl
 |p::l,h=>by
  show (if eN (enc a) (enc p.1) then some (0,p.2) else (fR (enc a) (iW enc l)).map λq=>(q.1+1,q.2))=if a=p.1 then some (0,p.2) else (Bu l a).map λq=>(q.1+1,q.2)
  rw[he a p.1 ha (h p (by simp)),Aa he ha λq hq=>h q (by simp [hq])]
  by_cases e:a=p.1<;>simp [e]
theorem LR {l:List (κ×V)}{a:κ}(h:Bu l a=some e):l[e.1]? =some (a,e.2):=by
 induction l generalizing e with
 |nil=>cases h
 |cons p l ih=>
  rw[Bu] at h
  by_cases c:a=p.1
  ·rw[if_pos c] at h
   cases h;simp [c]
  ·rw[if_neg c] at h
   obtain⟨q,hq,rfl⟩:=lJ.1 h;simpa using ih hq
theorem UG (a:κ)(l m:List (κ×V))(h:Bu l a=none):Bu (l++m) a=(Bu m a).map λq=>(q.1+l.length,q.2):=by
 induction l with
 |nil=>cases hm:Bu m a<;>simp [hm]
 |cons p l ih=>
  rw[Bu] at h
  by_cases c:a=p.1
  ·rw[if_pos c] at h;cases h
  ·rw[if_neg c] at h
   have h':Bu l a=none:=by cases hl:Bu l a with|none=>rfl|some x=>rw[hl] at h;cases h
   rw[List.cons_append,Bu,if_neg c,ih h',Option.map_map]
   rfl
theorem Qr (a:κ)(l m:List (κ×V))(h:Bu l a=some e):Bu (l++m) a=some e:=by
 induction l generalizing e with
 |nil=>cases h
 |cons p l ih=>
  rw[Bu] at h;rw[List.cons_append,Bu]
  by_cases c:a=p.1
  ·rw[if_pos c] at h ⊢;exact h
  ·rw[if_neg c] at h ⊢
   obtain⟨q,hq,rfl⟩:=lJ.1 h;rw[ih hq];rfl
theorem VN (l:List (κ×V)){a:κ}(y:V)(h:Bu l a=some e)(b:κ):Kz (l.set e.1 (a,y)) b=if b=a then some y else Kz l b:=by
 unfold Kz
 induction l generalizing e with
 |nil=>cases h
 |cons p l ih=>
  rw[Bu] at h
  by_cases c:a=p.1
  ·rw[if_pos c] at h
   cases h;show Option.map _ (if b=a then some (0,y) else (Bu l b).map λq=>(q.1+1,q.2))=_
   by_cases d:b=a
   ·rw[if_pos d,if_pos d];rfl
   ·rw[if_neg d,if_neg d,Bu,if_neg (by rw[←c];exact d)]
  ·rw[if_neg c] at h
   obtain⟨q,hq,rfl⟩:=lJ.1 h;have ih:=ih hq;show Option.map _ (if b=p.1 then some (0,p.2) else (Bu (l.set q.1 (a,y)) b).map λq=>(q.1+1,q.2))=_
   by_cases d:b=p.1
   ·rw[if_pos d,if_neg (by rw[d];exact λe=>c e.symm),Bu,if_pos d]
   ·rw[if_neg d,Option.map_map,Bu,if_neg d,Option.map_map]
    exact ih
theorem Hl (l:List (κ×V))(a:κ)(y:V)(b:κ):Kz (Pv l a y) b=if b=a then some y else Kz l b:=by
 unfold Pv
 cases h:Bu l a with
 |some e=>exact VN l y h b
 |none=>
  show Kz (l++ [(a,y)]) b=_;unfold Kz
  cases hb:Bu l b with
  |some e=>
   rw[Qr b l _ hb,if_neg (λe=>by rw[e,h] at hb;cases hb)]
  |none=>
   rw[UG b l _ hb];show Option.map _ (Option.map _ (if b=a then some (0,y) else none))=_
   by_cases d:b=a
   ·rw[if_pos d,if_pos d];rfl
   ·rw[if_neg d,if_neg d];rfl
theorem Ec {P:κ->Prop}{l:List (κ×V)}{a:κ}(ha:P a)(hl: ∀p∈l,P p.1): ∀p∈Pv l a y,P p.1:=by
 unfold Pv;intro p hp;split at hp
 ·rcases List.mem_or_eq_of_mem_set hp with h|rfl
  ·exact hl p h
  ·exact ha
 ·rcases La.1 hp with h|h
  ·exact hl p h
  ·rw[List.mem_singleton.1 h];exact ha
omit [DecidableEq κ] in
theorem Ig {enc:κ->V}{l:List (κ×V)}{k:Nat}{a:κ}:(iW enc l).set k (enc a,y)=iW enc (l.set k (a,y)):=by
 unfold iW;rw[List.map_set]
omit [DecidableEq κ] in
theorem Nf {enc:κ->V}{l:List (κ×V)}{a:κ}:iW enc l++ [(enc a,y)]=iW enc (l++ [(a,y)]):=by
 unfold iW;rw[List.map_append];rfl
theorem MJ {enc:κ->V}{P:κ->Prop}(he: ∀a b,P a->P b->eN (enc a) (enc b)=decide (a=b)){s:xL}(hk: ∀a,P a->isKey s (enc a)=true){l:List (κ×V)}(hl: ∀p∈l,P p.1){a:κ}(ha:P a)(y:V)(h:H)(id:Nat):
  Zb (some (.wmap s (iW enc l))) h id s (enc a) y=some (.undef,h.set id (some (.wmap s (iW enc (Pv l a y))))):=by
 simp only[Zb]
 rw[if_pos ⟨trivial,hk a ha⟩,Aa he ha hl]
 unfold Pv
 cases Bu l a with
 |some e=>simp only[Ig]
 |none=>simp only[Nf]
theorem tS {enc:κ->V}{P:κ->Prop}(he: ∀a b,P a->P b->eN (enc a) (enc b)=decide (a=b)){s:xL}(hk: ∀a,P a->isKey s (enc a)=true){l:List (κ×V)}(hl: ∀p∈l,P p.1){a:κ}(ha:P a)(z:V):
  Ld (some (.wmap s (iW enc l))) s z false (enc a)=some ((Kz l a).getD z):=by
 simp only[Ld]
 rw[if_pos ⟨trivial,hk a ha⟩,Aa he ha hl]
 unfold Kz
 cases Bu l a<;>rfl
theorem AE {enc:κ->V}{P:κ->Prop}(he: ∀a b,P a->P b->eN (enc a) (enc b)=decide (a=b)){s:xL}(hk: ∀a,P a->isKey s (enc a)=true){l:List (κ×V)}(hl: ∀p∈l,P p.1){a:κ}(ha:P a)(z y:V)(h:H)(id:Nat)(hg:h.get id=some (.wmap s (iW enc l))):
  ∃(v:V) (n:Nat) (l1:List (κ×V)) (h1:H),Xs (some (.wmap s (iW enc l))) h id s z (enc a)=some (.tup [v,.int .i64 (n:Int)],h1)/\h1.next=h.next/\(∀k,k≠id->h1.get k=h.get k)/\h1.get id=some (.wmap s (iW enc l1))/\(∀p∈l1,P p.1)/\(∀b,(Kz l1 b).getD z=(Kz l b).getD z)/\
   ∀hh,DI (some (.wmap s (iW enc l1))) hh id (n:Int) y=some (.undef,hh.set id (some (.wmap s (iW enc (Pv l a y))))):=by
 have hw:=Aa he ha hl
 unfold Pv
 cases hx:Bu l a with
 |some e=>
  rw[hx] at hw;refine⟨e.2,e.1,l,h,?_,rfl,λ_ _=>rfl,hg,hl,λ_=>rfl,λhh=>?_⟩
  ·simp only[Xs];rw[if_pos ⟨trivial,hk a ha⟩,hw]
  ·have hs:=LR hx
   have:(iW enc l)[(e.1:Int).toNat]? =some (enc a,e.2):=by
    rw[Int.toNat_natCast];unfold iW;rw[List.getElem?_map,hs];rfl
   simp only[DI];rw[if_pos (by omega),this];simp only[Int.toNat_natCast,Ig]
 |none=>
  rw[hx] at hw;refine⟨z,l.length,l++ [(a,z)],h.set id (some (.wmap s (iW enc (l++ [(a,z)])))),?_,rfl,λk hk=>H.aH _ hk _,H.aT ..,?_,λb=>?_,λhh=>?_⟩
  ·simp only[Xs]
   rw[if_pos ⟨trivial,hk a ha⟩,hw];simp only[Nf];rw[show (iW enc l).length=l.length from by unfold iW;rw[qX]]
  ·intro p hp
   rcases La.1 hp with h|h
   ·exact hl p h
   ·rw[List.mem_singleton.1 h];exact ha
  ·have:=Hl l a z b
   unfold Pv at this;rw[hx] at this;have this:Kz (l++ [(a,z)]) b=if b=a then some z else Kz l b:=this
   rw[this]
   by_cases d:b=a
   ·rw[if_pos d,d];unfold Kz;rw[hx];rfl
   ·rw[if_neg d]
  ·have:(iW enc (l++ [(a,z)]))[(l.length:Int).toNat]? =some (enc a,z):=by
    rw[Int.toNat_natCast];unfold iW;rw[List.getElem?_map];simp
   simp only[DI];rw[if_pos (by omega),this];simp only[Int.toNat_natCast,Ig];simp
end
end
end Go.Ay
namespace Go.Proofs.YtapfcpkecmmagaaGreat
open Go Go.Ay Go.Pm
set_option maxRecDepth 100000
section
variable {h:H} {n:Nat}
theorem XB:([.int .u8 0,.int .u8 0,.int .u8 0,.int .u8 0,.int .u8 0,.int .u8 0,.int .u8 0,.int .u8 0,.int .u8 0,.int .u8 0,.int .u8 0,.int .u8 0,.int .u8 0,.int .u8 0,.int .u8 0,.int .u8 0,.int .u8 0,.int .u8 0,.int .u8 0,.int .u8 0,.int .u8 0,.int .u8 0,.int .u8 0,.int .u8 0,.int .u8 0,.int .u8 0,.int .u8 0,.int .u8 0,.int .u8 0,.int .u8 0,.int .u8 0,.int .u8 0,.int .u8 0,.int .u8 0,.int .u8 0,.int .u8 0,.int .u8 0,.int .u8 0,.int .u8 0,.int .u8 0,.int .u8 0,.int .u8 0,.int .u8 0,.int .u8 0,.int .u8 0,.int .u8 0,.int .u8 0,.int .u8 0,.int .u8 0,.int .u8 0,.int .u8 0,.int .u8 0,.int .u8 0,.int .u8 0,.int .u8 0,.int .u8 0,.int .u8 0,.int .u8 0,.int .u8 0,.int .u8 0,.int .u8 0,.int .u8 0,.int .u8 0,.int .u8 0]:List V)=rc 64 λ_=> .int .u8 0:=rfl
def Rl (x:List Nat):V:= .agg (rc 64 λi=> .int .u8 ((x.getD i 0:Nat):Int))
theorem He {id:Nat}{ws:List V}(hl:ws.length=n)(hg:h.get id=some (.cells false ws)):h.row id 0 n=some ws:=by
 unfold H.row;rw[hg];simp only[sub];rw[if_pos (by omega),List.drop_zero,List.take_of_length_le (by omega)]
theorem Se {vs ws:List V}(h1:vs.length=n)(h2:ws.length=n)(h:H)(id:Nat):fI (some (.cells false vs)) h id 0 ws=some (h.set id (some (.cells false ws))):=by
 simp only[fI,putAt];rw[if_pos (by omega),Option.map_some,List.take_zero,List.nil_append,List.drop_of_length_le (by omega),List.append_nil]
theorem LL {f:Nat->V}(hf: ∀i,(f i).one=true):(rc n f).all V.one=true:=by
 rw[List.all_eq_true];intro v hv;obtain⟨i,_,rfl⟩:=xV.1 hv;exact hf i
set_option maxHeartbeats 8000000
theorem Dc (u:V)(n:Nat)(x:List Nat)(h:H)(hn:n<=64)(X:bG n x)(hu:SI h u (zi x)):
  Ev T 40 [u] h (λv h'=>v=Rl x/\Fr h h'):=by
 refine bN qZ rfl rfl ?_
 have lx:=X.len
 have lu:=hu.lens
 rw[aP,lx] at lu
 obtain⟨id,off,sh,hid,hc⟩:=hu.open
 rw[aP,lx] at sh hid hc
 obtain⟨A,hA⟩:=exI h.next
 obtain⟨h1,e1,n1,g1,o1,f1⟩:=iX hA (rc 64 λ_=> .int .u8 0)
 obtain⟨h2,e2,n2,g2,o2,f2⟩:=iX n1 (rc 64 λ_=> .int .u8 0)
 simp(disch:=omega)only[go_sem,qZ,aF,XB,hA,e1,n1,e2,lu]
 refine aI (λk' vars hh=> ∃(i:Nat),(∃j:Nat->V,vars= [j 0,.ptr A 0,.ptr (A+1) 0,j 3,j 4,u,aB n,aB i,j 8])/\i<=n/\
   hh.get (A+1)=some (.cells false (rc 64 λj=> .int .u8 ((if j<i then x.getD j 0 else 0:Nat):Int)))/\hh.get A=some (.cells false (rc 64 λ_=> .int .u8 0))/\hh.next=A+1+1/\Fr h hh/\k'=n-i) n
  ⟨0,aA rfl,lG _,g2,by rw[o2 A (by omega)];exact g1,n2,f1.trans f2,rfl⟩ ?_
 rintro k' vars h3 ⟨i,⟨j,rfl⟩,hi,gB,gA,n3,F,rfl⟩
 by_cases hlt:(i:Int)<(n:Int)
 ·have d1:=nL hlt
  have hi':i<n:=by omega
  have ci:h3.cell id (off+i)=some (aB (x.getD i 0:Nat)):=by rw[F.cell (hid (by omega)),hc i hi'];congr 2;simp [zi,lx,hi']
  have r:x.getD i 0<n:=X.eZ hi'
  obtain⟨p,hp⟩:=exI (x.getD i 0)
  rw[hp] at ci r
  have pt:=aX (vs:=rc 64 λj=> .int .u8 ((if j<i then x.getD j 0 else 0:Nat):Int)) (off:=i) (by rw[cZ];omega) h3 (A+1) (.int .u8 (p:Int))
  rw[fW] at pt
  simp(disch:=omega)only[go_sem,d1,sh.ixa,ci,rY,gB,pt]
  rw[iJ i]
  refine⟨n-(i+1),by omega,i+1,aA rfl,by omega,?_,?_,n3,F.set (by omega) _,rfl⟩
  ·congr 2
   refine aU λj hj=>?_
   by_cases e:j=i
   ·rw[if_pos e,if_pos (by omega),e,hp]
   ·rw[if_neg e]
    by_cases e2:j<i
    ·rw[if_pos e2,if_pos (by omega)]
    ·rw[if_neg e2,if_neg (by omega)]
  ·exact gA
 have d1:=jC hlt
 obtain rfl:i=n:=by omega
 have rr:=He (n:=64) (by rw[cZ]) gB
 have ek:(rc 64 λj=>V.int .u8 ((if j<i then x.getD j 0 else 0:Nat):Int))=rc 64 λj=> .int .u8 ((x.getD j 0:Nat):Int):=by
  refine aU λj hj=>?_
  by_cases e:j<i
  ·rw[if_pos e]
  ·rw[if_neg e,List.getD_eq_getElem?_getD,List.getElem?_eq_none (by omega)];rfl
 rw[ek] at rr
 have pa:=Se (vs:=rc 64 λ_=> .int .u8 0) (ws:=rc 64 λj=> .int .u8 ((x.getD j 0:Nat):Int)) (n:=64) (by rw[cZ]) (by rw[cZ]) h3 A
 have sa:=zR h3 A 0 64 (rc 64 λj=> .int .u8 ((x.getD j 0:Nat):Int)) (by rw[cZ]) (LL λ_=>rfl)
 simp(disch:=omega)only[go_sem,d1,rr,sa,gA,pa]
 have ra:=He (h:=h3.set A (some (.cells false (rc 64 λj=> .int .u8 ((x.getD j 0:Nat):Int))))) (n:=64) (by rw[cZ]) (H.aT ..)
 simp(disch:=omega)only[go_sem,ra]
 exact⟨rfl,F.set (by omega) _⟩
theorem QX (u w:V)(n:Nat)(x y:List Nat)(h:H)(hn:n<=64)(X:bG n x)(Y:bG n y)(hu:SI h u (zi x))(hw:SI h w (zi y)):
  Ev T 80 [u,w] h (λv h'=>v=Rl (aS (cF x) y)/\Fr h h'):=by
 refine bN nG rfl rfl ?_
 have lx:=X.len
 have lu:=hu.lens
 rw[aP,lx] at lu
 obtain⟨id,off,sh,hid,hc⟩:=hu.open
 rw[aP,lx] at sh hid hc
 have ly:=Y.len
 obtain⟨idy,offy,shy,hidy,hcy⟩:=hw.open
 rw[aP,ly] at shy hidy hcy
 have Q:=X.inv.mul Y
 obtain⟨A,hA⟩:=exI h.next
 obtain⟨h1,e1,n1,g1,o1,f1⟩:=iX hA (rc 64 λ_=> .int .u8 0)
 obtain⟨h2,e2,n2,g2,o2,f2⟩:=iX n1 (rc 64 λ_=> .int .u8 0)
 simp(disch:=omega)only[go_sem,nG,aF,XB,hA,e1,n1,e2,lu]
 refine aI (λk' vars hh=> ∃(i:Nat),(∃j:Nat->V,vars= [j 0,w,.ptr A 0,.ptr (A+1) 0,j 4,j 5,u,aB n,aB i,j 9])/\i<=n/\
   hh.get (A+1)=some (.cells false (rc 64 λj=> .int .u8 ((if x.idxOf j<i then (aS (cF x) y).getD j 0 else 0:Nat):Int)))/\hh.get A=some (.cells false (rc 64 λ_=> .int .u8 0))/\hh.next=A+1+1/\Fr h hh/\k'=n-i) n
  ⟨0,aA rfl,lG _,g2,by rw[o2 A (by omega)];exact g1,n2,f1.trans f2,rfl⟩ ?_
 rintro k' vars h3 ⟨i,⟨j,rfl⟩,hi,gB,gA,n3,F,rfl⟩
 by_cases hlt:(i:Int)<(n:Int)
 ·have d1:=nL hlt
  have hi':i<n:=by omega
  have ci:h3.cell id (off+i)=some (aB (x.getD i 0:Nat)):=by rw[F.cell (hid (by omega)),hc i hi'];congr 2;simp [zi,lx,hi']
  have r:x.getD i 0<n:=X.eZ hi'
  obtain⟨p,hp⟩:=exI (x.getD i 0)
  rw[hp] at ci r
  have cy:h3.cell idy (offy+i)=some (aB (y.getD i 0:Nat)):=by rw[F.cell (hidy (by omega)),hcy i hi'];congr 2;simp [zi,ly,hi']
  have r2:y.getD i 0<n:=Y.eZ hi'
  have ip:x.idxOf p=i:=by rw[←pZ (by omega),←hp];exact sW X hi'
  have qp:(aS (cF x) y).getD p 0=y.getD i 0:=by rw[cU (by rw[X.inv.len];exact r),←hp,sW X hi']
  obtain⟨q,hq⟩:=exI (y.getD i 0)
  rw[hq] at cy r2 qp
  have pt:=aX (vs:=rc 64 λj=> .int .u8 ((if x.idxOf j<i then (aS (cF x) y).getD j 0 else 0:Nat):Int)) (off:=p) (by rw[cZ];omega) h3 (A+1) (.int .u8 (q:Int))
  rw[fW] at pt
  simp(disch:=omega)only[go_sem,d1,sh.ixa,ci,shy.ixa,cy,rY,gB,pt]
  rw[iJ i]
  refine⟨n-(i+1),by omega,i+1,aA rfl,by omega,?_,?_,n3,F.set (by omega) _,rfl⟩
  ·congr 2
   refine aU λj hj=>?_
   by_cases e:j=p
   ·rw[if_pos e,if_pos (by rw[e,ip];omega),e,qp]
   ·rw[if_neg e]
    have ne:x.idxOf j≠i:=λh=>e (by
     by_cases hjn:j<n
     ·rw[←hp,←h,←pZ (by omega),XR X hjn]
     ·have:x.idxOf j=x.length:=List.idxOf_eq_length λhm=>hjn (X.lt j hm)
      omega)
    by_cases e2:x.idxOf j<i
    ·rw[if_pos e2,if_pos (by omega)]
    ·rw[if_neg e2,if_neg (by omega)]
  ·exact gA
 have d1:=jC hlt
 obtain rfl:i=n:=by omega
 have rr:=He (n:=64) (by rw[cZ]) gB
 have ek:(rc 64 λj=>V.int .u8 ((if x.idxOf j<i then (aS (cF x) y).getD j 0 else 0:Nat):Int))=rc 64 λj=> .int .u8 (((aS (cF x) y).getD j 0:Nat):Int):=by
  refine aU λj hj=>?_
  by_cases e:x.idxOf j<i
  ·rw[if_pos e]
  ·have hjn: ¬j<i:=λhjn=>e (by rw[←pZ (by omega)];exact X.inv.eZ hjn)
   rw[if_neg e,List.getD_eq_getElem?_getD,List.getElem?_eq_none (by rw[Q.len];omega)];rfl
 rw[ek] at rr
 have pa:=Se (vs:=rc 64 λ_=> .int .u8 0) (ws:=rc 64 λj=> .int .u8 (((aS (cF x) y).getD j 0:Nat):Int)) (n:=64) (by rw[cZ]) (by rw[cZ]) h3 A
 have sa:=zR h3 A 0 64 (rc 64 λj=> .int .u8 (((aS (cF x) y).getD j 0:Nat):Int)) (by rw[cZ]) (LL λ_=>rfl)
 simp(disch:=omega)only[go_sem,d1,rr,sa,gA,pa]
 have ra:=He (h:=h3.set A (some (.cells false (rc 64 λj=> .int .u8 (((aS (cF x) y).getD j 0:Nat):Int))))) (n:=64) (by rw[cZ]) (H.aT ..)
 simp(disch:=omega)only[go_sem,ra]
 exact⟨rfl,F.set (by omega) _⟩
theorem wV {v:V}{L:LN}(s:SP h v L):dM v=some (aB (L.length:Int))/\eN v v=true/\ ∃(id off:Nat) (ws:List V),Sl v 1 L.length id off/\ ∀i,i<L.length->id<h.next/\h.cell id (off+i)=some (ws.getD i V.undef)/\SI h (ws.getD i V.undef) (zi (L.getD i [])):=by
 have lv:=s.lens;rw[qX] at lv;obtain⟨id,off,ws,sh,hid,hwl,hc,hall⟩:=s.open;rw[qX] at sh hid hwl hc;obtain⟨ws',sv',_⟩:=s;exact⟨lv,SV.eN sv',id,off,ws,sh,λi hi=>⟨hid (by omega),hc i hi,Tw hall hi⟩⟩
theorem Sy {α:Type}(f g:α->V): ∀l:List α,sJ (l.map f) (l.map g)=l.all λi=>eN (f i) (g i)
 | []=>rfl
 |a::l=>by
  rw[List.map_cons,List.map_cons,List.all_cons,←Sy f g l]
  rfl
theorem Iq (hn:n<=64)(a b:List Nat)(A:bG n a)(B:bG n b):eN (Rl a) (Rl b)=decide (a=b):=by
 show sJ (rc 64 _) (rc 64 _)=_;unfold rc;rw[Sy,Bool.eq_iff_iff,List.all_eq_true,decide_eq_true_iff];constructor
 ·intro h
  refine List.ext_getElem (by rw[A.len,B.len]) λi h1 h2=>?_
  have:=h i (Pl.2 (by have:=A.len;omega));have e:((a.getD i 0:Nat):Int)=((b.getD i 0:Nat):Int):=by simpa [eN] using this
  rw[Pm.cJ h1,Pm.cJ h2] at e;omega
 ·rintro rfl i _
  simp [eN]
theorem Cc (hn:n<=64)(a:List Nat)(A:bG n a):isKey (.arr 64 .u8) (Rl a)=true:=by
 unfold isKey Rl;simp only;rw[cZ,decide_eq_true rfl,Bool.true_and,List.all_eq_true];intro v hv;obtain⟨i,hi,rfl⟩:=xV.1 hv
 have:a.getD i 0<256:=by
  by_cases h:i<a.length
  ·have:=A.eZ (i:=i) (by rw[←A.len];exact h);omega
  ·rw[List.getD_eq_getElem?_getD,List.getElem?_eq_none (by omega)];decide
 have e1:IntKind.min .u8=0:=rfl;have e2:IntKind.max .u8=255:=rfl;simp only[e1,e2,Bool.and_eq_true,decide_eq_true_iff];exact⟨trivial,by omega,by omega⟩
structure Ib (n:Nat)(G:List Nat->Prop)(L:LN)(K:List Nat)(hh:H)(D:Nat):Prop where
 ex: ∃vL vC M l ks,hh.get D=some (.cells false [vL,vC,.mp M])/\D<hh.next/\M<hh.next/\SP hh vL L/\SV hh vC 3 (rG ks)/\bY (KR n G L hh) ks K/\hh.get M=some (.wmap (.arr 64 .u8) (iW Rl l))/\(∀p∈l,bG n p.1)/\ ∀i,i<L.length->Kz l (L.getD i [])=some (aB (fQ G L K i:Nat))
theorem Ib.mono {G:List Nat->Prop}{L:LN}{K:List Nat}{h':H}{D:Nat}(d:Ib n G L K h D)(f:Fr h h'):Ib n G L K h' D:=by
 obtain⟨vL,vC,M,l,ks,g,hD,hM,sL,sC,al,gM,kl,lk⟩:=d.ex;exact⟨vL,vC,M,l,ks,by rw[f.get _ hD];exact g,kY hD f.next,kY hM f.next,sL.mono f,sC.mono f,al.mono λ_ _ k=>KR.mono k f,by rw[f.get _ hM];exact gM,kl,lk⟩
theorem Uf (D:Nat)(u:V)(n:Nat)(G:List Nat->Prop)(L:LN)(K:List Nat)(x:List Nat)(h:H)(hn:n<=64)(d:Ib n G L K h D)(X:bG n x)(hx:x∈L)(hu:SI h u (zi x)):
  Ev T 47 [.ptr D 0,u] h (λv h'=>v= aB (fQ G L K (L.idxOf x):Nat)/\Fr h h'):=by
 refine bN lM rfl rfl ?_
 obtain⟨vL,vC,M,l,ks,g,hD,hM,sL,sC,al,gM,kl,lk⟩:=d.ex
 have eu:=hu.eN
 simp(disch:=omega)only[go_sem,lM,aF,H.aE g]
 have fb:=(Fr.refl h).bJ (n:=h.next+8) (by omega)
 refine (Dc u n x _ hn X (hu.mono fb)).mono ?_
 rintro _ h1 ⟨rfl,f1⟩
 have F:=fb.trans f1
 have g1:h1.get D=some (.cells false [vL,vC,.mp M]):=by rw[F.get _ hD];exact g
 have gM1:h1.get M=some (.wmap (.arr 64 .u8) (iW Rl l)):=by rw[F.get _ hM];exact gM
 have hl:=List.idxOf_lt_length_of_mem hx
 have hxe:L.getD (L.idxOf x) []=x:=by rw[List.getD_eq_getElem?_getD,iK hl];exact List.getElem_idxOf hl
 have lk':=lk (L.idxOf x) hl
 rw[hxe] at lk'
 have lo:=λz=>tS (Iq hn) (λa A=>Cc hn a A) (P:=bG n) kl X z
 rw[lk'] at lo
 simp(disch:=omega)only[go_sem,H.aE g1,eu,gM1,lo]
 exact⟨by simp [eN],rfl,F⟩
end
set_option maxHeartbeats 16000000
theorem VS {v:V}(M:Nat)(hv:v.cells= [v])(h1:v.one=true):uK [.aC,.aC,.nilm] [(1,1,v),(2,1,.mp M)]=some (.agg [.aC,v,.mp M]):=by
 simp [uK,jQ,putAt,hv,h1,show (V.mp M).cells= [V.mp M] from rfl,show (V.mp M).one=true from rfl]
theorem Hp {W0:Nat->Prop}(vc:V)(n:Nat)(O:LN)(R:qI)(G:List Nat->Prop)(h:H)(gc:GC W0 h vc n O R G)(L:LN)(hL:dD O R n 0 (bW n)=L):
  Ev T 38 [vc] h (λv h'=> ∃K,Ap n G L K/\Fr h h'/\(64<K.length/\v= .tup [.nilp,aB 5]∨K.length<=64/\ ∃D,v= .tup [.ptr D 0,aB 0]/\Ib n G L K h' D)):=by
 have gc0:=gc
 obtain⟨vO,vR,rfl,sO,sR⟩:=gc.ch
 refine bN sZ rfl rfl ?_
 have oneO:vO.one=true:=QE sO
 have oneR:vR.one=true:=QF sR
 have n7:=gc.n7
 have hG:=gc.oG
 obtain⟨E,ll⟩:=kV gc.oG gc.isc
 have ll5:=nT gc
 rw[hL] at E ll
 obtain⟨B,hB⟩:=exI h.next
 obtain⟨h1,e1,n1,g1,o1,f1⟩:=iX hB [aB n,vO,vR]
 have bx:=fJ h (v:= aB n) (u:=vO) (w:=vR) rfl oneO oneR
 have rB: ∀hh,Fr h1 hh->hh.row B 0 3=some [aB n,vO,vR]:=λhh f=>bX (by rw[f.get B (by omega)];exact g1)
 simp(disch:=omega)only[go_sem,sZ,aF,bx,hB,e1,rB h1 (Fr.refl _)]
 refine (So _ n O R G h1 (gc0.mono f1) L hL).mono ?_
 rintro _ h2 ⟨v4,K,ks,rfl,ik,s4,a4,f2⟩
 have lks:=bY.length a4
 have hwm:K.length<=5040:=by
  rw[ik.perm.length_eq];unfold jY;exact Nat.le_trans (List.length_filter_le _ _) (by rw[List.length_range];omega)
 have lv4:dM v4=some (aB (K.length:Int)):=by unfold dM;rw[SV.len s4 (n:=ks.length) (zJ ks) (by omega),lks];rfl
 have w4:=s4.eD
 simp(disch:=omega)only[go_sem]
 refine aZ (λhc=>(hc rfl).elim) (λ_=>?_)
 by_cases h64:(64:Int)<(K.length:Int)
 ·have d1:decide ((64:Int)<(K.length:Int))=true:=decide_eq_true h64
  simp(disch:=omega)only[go_sem,lv4,d1]
  exact⟨K,ik,f1.trans f2,.inl ⟨by omega,trivial⟩⟩
 have d1:decide ((64:Int)<(K.length:Int))=false:=decide_eq_false h64
 obtain⟨M,hM⟩:=exI h2.next
 obtain⟨h3,e3⟩:=exI (h2.new (.wmap (.arr 64 .u8) []))
 have n3:h3.next=M+1:=by rw[←e3,H.aV,hM]
 have g3:h3.get M=some (.wmap (.arr 64 .u8) []):=by rw[←e3,←hM];exact H.aL h2 _
 have o3: ∀k,k≠M->h3.get k=h2.get k:=λk hk=>by rw[←e3];exact H.bE h2 (by omega) _
 obtain⟨h4,e4,n4,g4,o4,f4⟩:=iX n3 [.aC,v4,.mp M]
 have F24:Fr h2 h4:=⟨by omega,λq hq=>by rw[o4 q (by omega),o3 q (by omega)]⟩
 have F14:=f2.trans F24
 have ba:=vG h3 [.aC,v4,.mp M] (by simp [w4.2.1,show V.aC.one=true from rfl,show (V.mp M).one=true from rfl])
 simp(disch:=omega)only[go_sem,lv4,d1,hM,e3,VS M w4.1 w4.2.1,ba,n3,e4,rB h4 F14]
 refine (BR _ n O R G h4 (gc0.mono (f1.trans F14))).mono ?_
 rw[hL]
 rintro _ h5 ⟨vL,rfl,nw⟩
 have pl:=nw.pl
 have f5:=nw.fr
 have wL:vL.cells= [vL]/\vL.one=true:=by obtain⟨ws,s,_⟩:=pl;exact⟨s.eD.1,s.eD.2.1⟩
 have n5:=f5.next
 have g5:h5.get (M+1)=bZ [.aC,v4,.mp M]:=by rw[f5.get _ (by omega)];exact g4
 obtain⟨h6,e6,n6,g6,o6⟩:=Bv h5 (M+1) [vL,v4,.mp M]
 have p6:fI (bZ [.aC,v4,.mp M]) h5 (M+1) 0 [vL]=some h6:=by rw[aX (by simp),←e6];rfl
 have F26:Fr h2 h6:=⟨by omega,λq hq=>by rw[o6 q (by omega),f5.get q (by omega)];exact F24.get q hq⟩
 have F16:=f2.trans F26
 simp(disch:=omega)only[go_sem,g5,lE wL.1 wL.2,p6,rB h6 F16]
 refine (MW _ n O R G h6 (gc0.mono (f1.trans F16)) L hL).mono ?_
 rintro _ h7 ⟨v7,K',rfl,ik',s7,f7⟩
 obtain rfl:=ik.uniq ik'
 have n7':=f7.next
 have F27:=F26.trans f7
 have g7:h7.get (M+1)=bZ [vL,v4,.mp M]:=by rw[f7.get _ (by omega)];exact g6
 have gM7:h7.get M=some (.wmap (.arr 64 .u8) []):=by rw[f7.get _ (by omega),o6 _ (by omega),f5.get _ (by omega),o4 _ (by omega)];exact g3
 have pl7:PL (λid=>id<h4.next) h7 vL L:=by
  refine PL.go pl ⟨by omega,λid h1 h2=>?_⟩ (λid h1 h2=>h2);rw[f7.get _ (by omega),o6 _ (by omega)]
 have sL7:=pl7.sp
 obtain⟨lvL,eL,idL,offL,ws,shL,cL⟩:=wV sL7
 have lnM:(zi (yZ G L K)).length=L.length:=by rw[aP];simp [yZ]
 obtain⟨idN,offN,shN,hidN,hcN⟩:=s7.open
 rw[lnM] at shN hidN hcN
 have e7':=s7.eN
 simp(disch:=omega)only[go_sem,H.aE g7,lvL]
 have nM: ∀{id off:Nat} {v:V},h7.cell id off=some v->id≠M:=λhc e=>by
  rw[e] at hc;unfold H.cell at hc;rw[gM7] at hc;cases hc
 refine aI (λk' vars hh=> ∃(i:Nat) (l:List (List Nat×V)),(∃g:Nat->V,vars= [g 0,g 1,g 2,g 3,g 4,g 5,.ptr (M+1) 0,v7,g 8,g 9,g 10,g 11,vL,aB (L.length:Int),aB i,g 15])/\i<=L.length/\hh.get M=some (.wmap (.arr 64 .u8) (iW Rl l))/\(∀p∈l,bG n p.1)/\(∀j,j<i->Kz l (L.getD j [])=some (aB (fQ G L K j:Nat)))/\Fx (· =M) h7 hh/\k'=L.length-i) L.length
  ⟨0, [],aA rfl,lG _,gM7,λ_ h=>(by cases h),λj hj=>(by omega),Fx.refl _ _,rfl⟩ ?_
 rintro k' vars h8 ⟨i,l,⟨g,rfl⟩,hi,gM,kl,lk,F,rfl⟩
 have n8:=F.next
 have F28:Fr h2 h8:=⟨by omega,λq hq=>by rw[F.get q (by omega) (by show q≠M;omega)];exact F27.get q hq⟩
 have pl8:PL (λid=>id<h4.next) h8 vL L:=PL.go pl7 ⟨n8,λid h1 h2=>F.get id h1 (λe=>h2 (by rw[e];show M<h4.next;omega))⟩ (λid h1 h2=>h2)
 have g8:h8.get (M+1)=bZ [vL,v4,.mp M]:=by rw[F.get _ (by omega) (by show M+1≠M;omega)];exact g7
 by_cases hlt:(i:Int)<(L.length:Int)
 case neg=>
  have d3:=jC hlt;obtain rfl:i=L.length:=by omega
  simp(disch:=omega)only[go_sem,d3];refine⟨K,ik,(f1.trans f2).trans ⟨by omega,λq hq=>F28.get q (by omega)⟩|>.trans (Fr.refl _),.inr ⟨by omega,M+1,rfl,?_⟩⟩;exact⟨vL,v4,M,l,ks,g8,by omega,by omega,pl8.sp,s4.mono F28,a4.mono λ_ _ k=>KR.mono k F28,gM,kl,lk⟩
 have d3:=nL hlt
 have hiL:i<L.length:=by omega
 obtain⟨_,_,idL,offL,ws,shL,cL⟩:=wV pl8.sp
 obtain⟨b1,c1,s1⟩:=cL i hiL
 generalize ws.getD i V.undef=ve at c1 s1
 have X:=jU hG E hiL
 obtain⟨x,hx⟩:=exI (L.getD i [])
 rw[hx] at s1 X
 have c7:=hcN i hiL
 rw[show (zi (yZ G L K)).getD i 0=((fQ G L K i:Nat):Int) from by simp [yZ,zi,hiL]] at c7
 have cN:h8.cell idN (offN+i)=some (aB (fQ G L K i:Nat)):=by rw[F.cell (hidN (by omega)) (nM c7)];exact c7
 have ex:=s1.eN
 simp(disch:=omega)only[go_sem,d3,shL.ixa,c1,H.aE g8,shN.ixa,cN]
 have fb:=(Fr.refl h8).bJ (n:=h8.next+11) (by omega)
 refine (Dc ve n x _ (by omega) X (s1.mono fb)).mono ?_
 rintro _ h9 ⟨rfl,f9⟩
 have F9:=fb.trans f9
 have g9:h9.get (M+1)=bZ [vL,v4,.mp M]:=by rw[F9.get _ (by omega)];exact g8
 have gM9:h9.get M=some (.wmap (.arr 64 .u8) (iW Rl l)):=by rw[F9.get _ (by omega)];exact gM
 have cN9:h9.cell idN (offN+i)=some (aB (fQ G L K i:Nat)):=by rw[F9.cell (by have:=hidN (by omega);omega)];exact cN
 have pm:=λhh=>MJ (Iq (n:=n) (by omega)) (λa A=>Cc (n:=n) (by omega) a A) kl X (aB (fQ G L K i:Nat)) hh M
 simp(disch:=omega)only[go_sem,H.aE g9,cN9,e7',gM9,pm]
 rw[iJ i]
 refine⟨by simp [eN],L.length-(i+1),by omega,i+1,_,aA rfl,by omega,rfl,Ec X kl,λj hj=>?_,(F.trans (Fx.of (W:=(· =M)) F9) λ_ _ h=>h).trans (Fx.set h9 (W:=(· =M)) rfl _) (λ_ _ h=>h),rfl⟩
 rw[Hl]
 by_cases e:L.getD j []=x
 ·rw[if_pos e,Fl E.nodup (by omega) hiL (e.trans hx.symm)]
 ·rw[if_neg e]
  refine lk j ?_
  rcases Nat.lt_or_ge j i with h|h
  ·exact h
  ·exact absurd (by rw[show j=i by omega];exact hx) e
noncomputable def Vp (G:List Nat->Prop)(L:LN)(K:List Nat)(a k:Nat):Nat:=fQ G L K (L.idxOf (aS (cF (L.getD a [])) (L.getD (K.getD k 0) [])))
noncomputable def Ga (G:List Nat->Prop)(L:LN)(K:List Nat)(i k t j:Nat):Nat:=((List.range t).filter λa=>decide (fQ G L K a=i/\Vp G L K a k=j)).length
noncomputable def nP (G:List Nat->Prop)(L:LN)(K:List Nat)(i j k:Nat):Nat:=Ga G L K i k L.length j
section
variable {n:Nat} {G:List Nat->Prop} {L:LN} {K:List Nat}
theorem Er (i k t j:Nat):Ga G L K i k (t+1) j=Ga G L K i k t j+if fQ G L K t=i/\Vp G L K t k=j then 1 else 0:=by
 unfold Ga;rw[List.range_succ,List.filter_append,oS]
 by_cases h:fQ G L K t=i/\Vp G L K t k=j<;>simp [h]
theorem BS (i k t j:Nat):Ga G L K i k t j<=t:=by
 unfold Ga;exact Nat.le_trans (List.length_filter_le _ _) (by rw[List.length_range];exact jA _)
def Vr (p:Nat×Nat):V:= .agg [aB (p.1:Int),aB (p.2:Int)]
def WQ (p:Nat×Nat):Prop:=p.1<1000000/\p.2<1000000
theorem Po (a b:Nat×Nat)(_:WQ a)(_:WQ b):eN (Vr a) (Vr b)=decide (a=b):=by
 show sJ [_,_] [_,_]=_;simp only[sJ,eN,Bool.and_true,beq_self_eq_true,Bool.true_and];rw[Bool.eq_iff_iff,Bool.and_eq_true,beq_iff_eq,beq_iff_eq,decide_eq_true_iff,Prod.ext_iff];omega
theorem Hn (a:Nat×Nat)(h:WQ a):isKey (.arr 2 .i64) (Vr a)=true:=by
 obtain⟨h1,h2⟩:=h;unfold isKey Vr;have e1:IntKind.min .i64= -9223372036854775808:=rfl;have e2:IntKind.max .i64=9223372036854775807:=rfl;simp only[List.all_cons,List.all_nil,e1,e2,Bool.and_true,Bool.and_eq_true,decide_eq_true_iff];exact⟨rfl,⟨trivial,by omega,by omega⟩,trivial,by omega,by omega⟩
theorem NY (x y:Int):uK [aB 0,aB 0] [(0,1,aB x),(1,1,aB y)]=some (.agg [aB x,aB y]):=rfl
theorem srO {h:H}{v:V}{O:List (List Int)}(s:SR h v O):dM v=some (aB (O.length:Int))/\eN v v=true/\v.cells= [v]/\v.one=true/\ ∃(id off:Nat) (ws:List V),Sl v 1 O.length id off/\ ∀i,i<O.length->id<h.next/\h.cell id (off+i)=some (ws.getD i V.undef)/\SI h (ws.getD i V.undef) (O.getD i []):=by
 have lv:=s.lens;obtain⟨ws,sv,al⟩:=s;have hl:=bY.length al;obtain⟨id,off,sh,hid,hc⟩:=SV.shape sv O.length (by omega) (by omega);exact⟨lv,SV.eN sv,(SV.eD sv).1,(SV.eD sv).2.1,id,off,ws,sh,λi hi=>⟨hid (by omega),by rw[hc i (by omega)];simp [List.getD,show i<ws.length by omega],Oi al hi⟩⟩
theorem abR {h:H}{id o:Nat}{a b c:V}(ha:h.cell id o=some a)(hb:h.cell id (o+1)=some b)(hc:h.cell id (o+2)=some c):h.row id o 3=some [a,b,c]:=by
 unfold H.cell at ha hb hc;unfold H.row;split at ha
 ·rename_i ro vs e
  rw[e] at hb hc;have hb:vs[o+1]? =some b:=hb;have hc:vs[o+2]? =some c:=hc;obtain⟨la,ea⟩:=List.getElem?_eq_some_iff.1 ha;obtain⟨lb,eb⟩:=List.getElem?_eq_some_iff.1 hb;obtain⟨lc,ec⟩:=List.getElem?_eq_some_iff.1 hc;rw[e];simp only[sub];rw[if_pos (by omega),List.drop_eq_getElem_cons la,List.drop_eq_getElem_cons lb,List.drop_eq_getElem_cons lc,ea,eb,ec]
  rfl
 ·cases ha
theorem oF {hh:H}{vC:V}{ks:List Cls.KE}(hK:K.length<1000000)(s:SV hh vC 3 (rG ks))(al:bY (KR n G L hh) ks K):
  dM vC=some (aB (K.length:Int))/\eN vC vC=true/\ ∃id off,Sl vC 3 K.length id off/\ ∀k,k<K.length->id<hh.next/\ ∃rep,hh.cell id (off+k*3)=some rep/\hh.cell id (off+k*3+2)=some (aB ((gO G L (K.getD k 0)).length:Int))/\hh.row id (off+k*3) 3=some [rep,aB (jZ (L.getD (K.getD k 0) []) n:Int),aB ((gO G L (K.getD k 0)).length:Int)]/\SI hh rep (zi (L.getD (K.getD k 0) [])):=by
 have lks:=bY.length al
 have l3:=zJ ks
 obtain⟨id,off,sh,hid,hc⟩:=s.shape K.length (by rw[l3,lks]) (by omega)
 refine⟨by unfold dM;rw[SV.len s (n:=ks.length) l3 (by omega),lks];rfl,s.eN,id,off,sh,λk hk=>?_⟩
 obtain⟨p1,p2,p3⟩:=OZ (ks:=ks) (i:=k) (by omega)
 have ka:=bY.get al k (by omega) hk
 rw[←Pm.cJ hk] at ka
 have c1:=(hc (k*3) (by omega)).trans p1
 have c2:=(hc (k*3+1) (by omega)).trans p2
 have c3:=(hc (k*3+2) (by omega)).trans p3
 rw[ka.ord] at c2
 rw[ka.size] at c3
 rw[←Nat.add_assoc] at c2 c3
 exact⟨hid (by omega),_,c1,c3,abR c1 c2 c3,ka.rep⟩
end
section
variable {n i p:Nat} {G:List Nat->Prop} {o:List Nat} {r:LN}
structure Yi (n:Nat)(G:List Nat->Prop)(i p:Nat)(o:List Nat)(r:LN):Prop where
 asc:o.Pairwise (· < ·)
 mem: ∀q,q∈o↔q<p/\ ∃x,G x/\Fix i x/\x.getD i 0=q
 len:r.length=o.length
 rep: ∀t,t<o.length->Gf n G i (o.getD t 0) (r.getD t [])
theorem Yi.start (n:Nat)(G:List Nat->Prop)(i:Nat):Yi n G i 0 [] []:=⟨.nil,λq=>by simp,rfl,λt h=>by cases h⟩
theorem Yi.skip (c:Yi n G i p o r)(h: ∀x,G x->Fix i x->x.getD i 0≠p):Yi n G i (p+1) o r:=
 ⟨c.asc,λq=>by
  rw[c.mem];constructor
  ·rintro⟨h1,h2⟩;exact⟨by omega,h2⟩
  ·rintro⟨h1,x,gx,fx,ex⟩
   refine⟨?_,x,gx,fx,ex⟩;rcases Nat.lt_or_ge q p with h2|h2
   ·exact h2
   ·exact absurd (by omega) (h x gx fx),c.len,c.rep⟩
theorem Yi.step (c:Yi n G i p o r){x:List Nat}(hx:Gf n G i p x):Yi n G i (p+1) (o++ [p]) (r++ [x]):=by
 refine⟨List.pairwise_append.2 ⟨c.asc,List.pairwise_singleton _ _,λa ha b hb=>?_⟩,λq=>?_,by rw[oS,oS,c.len];rfl,λt ht=>?_⟩
 ·rw[List.mem_singleton.1 hb];exact ((c.mem a).1 ha).1
 ·rw[La,c.mem,List.mem_singleton]
  constructor
  ·rintro (⟨h1,h2⟩|rfl)
   ·exact⟨by omega,h2⟩
   ·exact⟨by omega,x,hx.mem,hx.fix,hx.maps⟩
  ·rintro⟨h1,h2⟩
   rcases Nat.lt_or_ge q p with h3|h3
   ·exact .inl ⟨h3,h2⟩
   ·exact .inr (by omega)
 ·by_cases e:t=o.length
  ·subst e
   have e1:(o++ [p]).getD o.length 0=p:=by simp [List.getD]
   have e2:(r++ [x]).getD o.length []=x:=by rw[←c.len];exact kE
   rw[e1,e2];exact hx
  ·have ht':t<o.length:=by rw[oS] at ht;simp at ht;omega
   have e1:(o++ [p]).getD t 0=o.getD t 0:=by simp [List.getD,Hu ht']
   rw[e1,mE (by rw[c.len];exact ht')];exact c.rep t ht'
theorem Yi.le (c:Yi n G i p o r):o.length<=p:=by
 have nd:o.Nodup:=c.asc.imp λh=>by omega
 have:=List.Nodup.length_le_of_subset nd (l₂:=List.range p) λq hq=>Pl.2 ((c.mem q).1 hq).1
 rwa [List.length_range] at this
theorem CU {A:LN}(E:fL G A){k:Nat}(hk:k<A.length)(h1:Fix i (A.getD k []))(h2:(A.getD k []).getD i 0=p)(h3: ∀k',k'<k-> ¬((A.getD k' []).getD i 0=p/\Fix i (A.getD k' []))):Gf n G i p (A.getD k []):=by
 refine⟨tF E hk,h1,h2,λy gy fy my=>?_⟩;obtain⟨m,hm,em⟩:=Gx.1 ((E.mem y).2 gy);have em':A.getD m []=y:=by rw[List.getD_eq_getElem?_getD,iK hm];exact em
 rcases Nat.lt_trichotomy m k with h|h|h
 ·exact absurd ⟨by rw[em'];exact my,by rw[em'];exact fy⟩ (h3 m h)
 ·subst h;rw[em'];exact .inl rfl
 ·rw[←em']
  have:=List.pairwise_iff_getElem.1 E.asc k m hk hm h;rw[List.getD_eq_getElem?_getD,iK hk,List.getD_eq_getElem?_getD,iK hm];exact .inr this
end
set_option maxHeartbeats 64000000
def Two (b:Nat)(vo vr:V)(q:Nat):Prop:=q<b∨fN vo q∨fN vr q
theorem Bd (vA:V)(n:Nat)(G:List Nat->Prop)(A:LN)(h:H)(h0:0<n)(hn:n<=7)(hG:rO n G)(E:fL G A)(hA:A.length<=5040)(sA:SP h vA A):
  Ev T 19 [aB n,vA] h (λv h'=> ∃O R',HF (λid=>id<h.next) h' v n O R'/\eX n G O R'/\Fr h h'):=by
 refine bN uQ rfl rfl ?_
 obtain⟨lvA,eA,idA,offA,wA,shA,cA⟩:=wV sA
 obtain⟨m,hm⟩:=exI A.length
 rw[hm] at lvA shA cA
 obtain⟨B,hB⟩:=exI h.next
 have bl:uK [aB 0,.aC,.aC] [(0,1,aB n)]=some (.agg [aB n,.aC,.aC]):=by
  have e1:putAt [aB 0,.aC,.aC] 0 [aB n]=some [aB n,.aC,.aC]:=by simp [putAt]
  simp [uK,jQ,e1,V.cells,V.one]
 obtain⟨ha,ea,na,ga,oa,fa⟩:=iX hB [aB 0,.aC,.aC]
 obtain⟨h1,e1,n1,g1,o1,f1'⟩:=iX na [aB 0,.aC,.aC]
 obtain⟨h2,e2,n2,g2,o2⟩:=Bv h1 (B+1) [aB n,.aC,.aC]
 have f2:Fr h h2:=⟨by omega,λq hq=>by rw[o2 q (by omega),o1 q (by omega),oa q (by omega)]⟩
 have n2':h2.next=B+2:=by omega
 have g20:h2.get B=some (.cells false [aB 0,.aC,.aC]):=by rw[o2 B (by omega),o1 B (by omega)];exact ga
 simp(disch:=omega)only[go_sem,uQ,aF,hB,ea,na,e1,bl,nX h1 (B+1) 0 (v:= aB n) (u:= .aC) (w:= .aC) rfl rfl rfl,g1,kM,e2]
 refine aI (λk' vars hh=> ∃(i:Nat) (W:Nat->Prop) (O:LN) (R':qI) (vO vR:V) (wsO wsR:List V),(∃g:Nat->V,vars= [aB n,vA,.ptr B 0,.ptr (B+1) 0,aB i,g 5,g 6,g 7,g 8,g 9,g 10,g 11,g 12,g 13,g 14,g 15])/\i<=n/\yM h hh (B+1) B W n O R' vO vR wsO wsR/\
   hh.get B=some (.cells false [aB 0,.aC,.aC])/\O.length=i/\R'.length=i/\(∀j,j<i->Yi n G j n (O.getD j []) (R'.getD j []))/\k'=n-i) n
  ⟨0,_, [], [],_,_,_,_,aA rfl,lG _,yM.start (by omega) (by omega) (by omega) (by omega) (by omega) f2 g2,g20,rfl,rfl,λj hj=>by omega,rfl⟩ ?_
 clear f2 g2 g20 n2 n2' o2 e2 g1 o1 e1 n1 f1' ga oa ea na fa
 rintro k' vars h2 ⟨i,W,O,R',vO,vR,wsO,wsR,⟨g,rfl⟩,hi,AC,gB,lO,lR,hC,rfl⟩
 by_cases hlt:(i:Int)<(n:Int)
 case neg=>
  have e1:=jC hlt;obtain rfl:i=n:=by omega
  have hr:=bX AC.get;have nB:=AC.fr.next;simp(disch:=omega)only[go_sem,e1,hr,nX h2 B 0 (v:= aB i) (u:=vO) (w:=vR) rfl (SV.eD AC.oO.sv).2.1 (SV.eD AC.oR.sv).2.1,gB,kM];have hr2:=bX (h:=h2.set B (some (.cells false [aB i,vO,vR]))) (H.aT ..);have fB:Fx (· =B) h2 (h2.set B (some (.cells false [aB i,vO,vR]))):=Fx.set h2 (W:=(· =B)) rfl _;simp(disch:=omega)only[go_sem,hr2]
  obtain⟨h3,h3e⟩: ∃h3,h3=h2.set B (some (.cells false [aB i,vO,vR])):=⟨_,rfl⟩
  rw[←h3e] at fB ⊢;have A3:=AC.box h3e;refine⟨O,R',by rw[←hB];exact A3.chw,⟨lO,lR,λj hj=>(hC j hj).asc,λj hj p=>?_,λj hj=>(hC j hj).len,λj hj=>(hC j hj).rep⟩,A3.fr⟩;rw[(hC j hj).mem];constructor
  ·exact λh=>h.2
  ·rintro⟨x,gx,fx,ex⟩
   exact⟨by rw[←ex];exact (hG.dS gx).eZ hj,x,gx,fx,ex⟩
 have e1:=nL hlt
 have hin:i<n:=by omega
 have sAi:=sA.mono AC.fr
 simp(disch:=omega)only[go_sem,e1]
 obtain⟨h4,h4e⟩:=exI h2
 subst h4e
 refine cV (λvs hh=> ∃(vo vr:V) (q:List Nat) (r:LN),(∃g:Nat->V,vs= [aB n,vA,.ptr B 0,.ptr (B+1) 0,aB i,vo,vr,g 7,g 8,g 9,g 10,g 11,g 12,g 13,g 14,g 15])/\PV W hh vo q/\PL W hh vr r/\Yi n G i n q r/\Fr h2 hh) ?_ ?_
 ·refine aI (λk' vs hh=> ∃(p:Nat) (vo vr:V) (ws:List V) (q:List Nat) (r:LN),(∃g:Nat->V,vs= [aB n,vA,.ptr B 0,.ptr (B+1) 0,aB i,vo,vr,aB p,g 8,g 9,g 10,g 11,g 12,g 13,g 14,g 15])/\p<=n/\fC hh vo 1 (ints (zi q)) h2.next/\fC hh vr 1 ws h2.next/\jO (Two h2.next vo vr) hh ws r/\(∀x,fN vo x-> ¬fN vr x)/\Yi n G i p q r/\Fr h2 hh/\k'=n-p) n
   ⟨0,.aC,.aC, [], [], [],aA rfl,lG _,fC.aC _ _ _,fC.aC _ _ _,trivial,(λ_ ⟨_,_,_,e⟩=>by cases e),Yi.start n G i,Fr.refl _,rfl⟩ ?_
  rintro k' vars h5 ⟨p,vo,vr,ws,q,r,⟨g,rfl⟩,hp,oo,ow,pvs,Hb,cp,f5,rfl⟩
  by_cases hlt2:(p:Int)<(n:Int)
  case neg=>
   have d2:=jC hlt2;obtain rfl:p=n:=by omega
   simp(disch:=omega)only[go_sem,d2];refine⟨vo,vr,q,r,aA rfl,⟨oo.sv,?_⟩,⟨ws,ow.sv,?_,pvs.tN (λid _ h=> .inl (AC.wb id h)),fC.JU ow⟩,cp,f5⟩
   ·cases vo with
    |sl id off m c=>exact λh=>by have:=(oo.in _ _ _ _ rfl).2.1;have:=AC.wb id h;omega
    |_=>trivial
   ·cases vr with
    |sl id off m c=>exact λh=>by have:=(ow.in _ _ _ _ rfl).2.1;have:=AC.wb id h;omega
    |_=>trivial
  have d2:=nL hlt2
  have hpn:p<n:=by omega
  simp(disch:=omega)only[go_sem,d2]
  refine Cx (λvs hh=> ∃(vo vr:V) (ws:List V) (q:List Nat) (r:LN),(∃g:Nat->V,vs= [aB n,vA,.ptr B 0,.ptr (B+1) 0,aB i,vo,vr,aB p,g 8,g 9,g 10,g 11,g 12,g 13,g 14,g 15])/\fC hh vo 1 (ints (zi q)) h2.next/\fC hh vr 1 ws h2.next/\jO (Two h2.next vo vr) hh ws r/\(∀x,fN vo x-> ¬fN vr x)/\Yi n G i (p+1) q r/\Fr h2 hh) ?_ ?_
  ·refine aI (λk' vs hh=> ∃(k:Nat),(∃g:Nat->V,vs= [aB n,vA,.ptr B 0,.ptr (B+1) 0,aB i,vo,vr,aB p,aB k,g 9,g 10,g 11,g 12,g 13,g 14,g 15])/\k<=m/\(∀k',k'<k-> ¬((A.getD k' []).getD i 0=p/\Fix i (A.getD k' [])))/\fC hh vo 1 (ints (zi q)) h2.next/\fC hh vr 1 ws h2.next/\jO (Two h2.next vo vr) hh ws r/\Fr h2 hh/\k'=m-k) m
    ⟨0,aA rfl,lG _,λk' h=>by omega,oo,ow,pvs,f5,rfl⟩ ?_
   clear oo ow pvs f5
   rintro k' vars h6 ⟨k,⟨g',rfl⟩,hk,hno,oo,ow,pvs,f6,rfl⟩
   by_cases hlk:(k:Int)<(m:Int)
   case neg=>
    have d3:decide ((k:Int)<(m:Int))=false:=decide_eq_false hlk;obtain rfl:k=m:=by omega
    simp(disch:=omega)only[go_sem,lvA,d3];refine⟨vo,vr,ws,q,r,aA rfl,oo,ow,pvs,Hb,cp.skip λx gx fx ex=>?_,f6⟩;obtain⟨j,hj,ej⟩:=Gx.1 ((E.mem x).2 gx);have ej':A.getD j []=x:=by rw[List.getD_eq_getElem?_getD,iK hj];exact ej
    exact hno j (by omega) ⟨by rw[ej'];exact ex,by rw[ej'];exact fx⟩
   have d3:decide ((k:Int)<(m:Int))=true:=decide_eq_true hlk
   have hkm:k<m:=by omega
   obtain⟨bA,cAk,sx⟩:=cA k hkm
   have F6:=AC.fr.trans f6
   generalize wA.getD k V.undef=vx at cAk sx
   have X:=jU hG E (show k<A.length by omega)
   obtain⟨x,hx⟩:=exI (A.getD k [])
   rw[hx] at sx X
   have cx:h6.cell idA (offA+k)=some vx:=by rw[F6.cell bA];exact cAk
   obtain⟨idx,offx,shx,hidx,hcx⟩:=(sx.mono F6).open
   have lxn:(zi x).length=n:=by rw[aP,X.len]
   rw[lxn] at shx hidx hcx
   have cxj: ∀j,j<n->h6.cell idx (offx+j)=some (aB (x.getD j 0:Nat)):=λj hj=>by
    rw[hcx j hj];congr 2;simp [zi,X.len,hj]
   simp(disch:=omega)only[go_sem,lvA,d3,shA.ixa,cx,shx.ixa,cxj i hin]
   refine cV (λvs hh=>hh=h6/\ ∃b:Bool,(∃g:Nat->V,vs= [aB n,vA,.ptr B 0,.ptr (B+1) 0,aB i,vo,vr,aB p,aB k,.bool b,g 10,g 11,g 12,g 13,g 14,g 15])/\(b=true↔x.getD i 0=p/\Fix i x)) ?_ ?_
   ·refine aI (λk' vs hh=>hh=h6/\ ∃(j:Nat) (b:Bool),(∃g:Nat->V,vs= [aB n,vA,.ptr B 0,.ptr (B+1) 0,aB i,vo,vr,aB p,aB k,.bool b,aB j,g 11,g 12,g 13,g 14,g 15])/\j<=i/\(b=true↔x.getD i 0=p/\Fix j x)/\k'=i-j) i
     ⟨rfl,0,_,aA rfl,lG _,by rw[decide_eq_true_iff];exact⟨λh=>⟨by omega,λj hj=>by omega⟩,λh=>by rw[h.1]⟩,rfl⟩ ?_
    rintro k' vars hh ⟨rfl,j,b,⟨g,rfl⟩,hj,hb,rfl⟩
    cases b with
    |false=>
     simp(disch:=omega)only[go_sem,Km];refine⟨false,aA rfl,⟨λh=>(by cases h),λh=>?_⟩⟩;exact hb.2 ⟨h.1,λj' hj'=>h.2 j' (by omega)⟩
    |true=>
     have hb1:=hb.1 rfl
     by_cases hji:(j:Int)<(i:Int)
     ·have d4:decide ((j:Int)<(i:Int))=true:=decide_eq_true hji
      simp(disch:=omega)only[go_sem,d4,shA.ixa,cx,shx.ixa,cxj j (by omega)];rw[iJ j];refine⟨i-(j+1),by omega,j+1,_,aA rfl,by omega,?_,rfl⟩;rw[decide_eq_true_iff];constructor
      ·intro h
       refine⟨hb1.1,λj' hj'=>?_⟩
       by_cases e:j'=j
       ·subst e;omega
       ·exact hb1.2 j' (by omega)
      ·intro h
       rw[h.2 j (by omega)]
     ·have d4:decide ((j:Int)<(i:Int))=false:=decide_eq_false hji
      obtain rfl:j=i:=by omega
      simp(disch:=omega)only[go_sem,d4];exact⟨true,aA rfl,hb⟩
   rintro vars hh ⟨rfl,b,⟨g,rfl⟩,hb⟩
   cases b with
   |false=>
    simp(disch:=omega)only[go_sem];rw[iJ k];refine⟨m-(k+1),by omega,k+1,aA rfl,by omega,λk' hk' h=>?_,oo,ow,pvs,f6,rfl⟩
    by_cases e:k'=k
    ·rw[e,hx] at h
     have:=hb.2 h;cases this
    ·exact hno k' (by omega) h
   |true=>
    have hb1:=hb.1 rfl;have rep:=CU (n:=n) E (show k<A.length by omega) (by rw[hx];exact hb1.2) (by rw[hx];exact hb1.1) hno;rw[hx] at rep;simp(disch:=omega)only[go_sem,shA.ixa,cx,Pw]
    obtain⟨hd,hde⟩: ∃hd:H,hd=H.mk ((H.mk hh.tr (hh.next+2)).new (Ob.cells false (ints [(p:Int)]))).tr (hh.next+14):=⟨_,rfl⟩
    rw[←hde];obtain⟨Q,hQ⟩:=exI (hh.next+2);rw[hQ] at hde ⊢;have gd:hd.get Q=some (.cells false (ints [(p:Int)])):=by rw[hde];exact H.aL (H.mk hh.tr Q) _
    have od: ∀k,k≠Q->hd.get k=hh.get k:=λk hk=>by rw[hde];exact H.bE (H.mk hh.tr Q) hk _
    have nd:hd.next=hh.next+14:=by rw[hde]
    have fd:Fr hh hd:=⟨by omega,λk hk=>od k (by omega)⟩
    have n6:=f6.next;have cpl:=cp.le;have ood:=oo.fr fd;have owd:=ow.fr fd;have hin1:=λid off m c (e:vo=V.sl id off m c)=>oo.in id off m c e
    have hin2:=λid off m c (e:vr=V.sl id off m c)=>ow.in id off m c e
    obtain⟨h7,a7,p7⟩:=ood.push (bytes:=8) (SV.one (v:= aB p) (id:=Q) (by omega) gd (.kn 1)) (n:=q.length) (m:=1) (by rw[aJ,aP,Nat.mul_one]) rfl (by omega) (by omega) (by omega);have n7:=p7.next;have old7: ∀k,k<hh.next->dO vo k->h7.get k=hh.get k:=λk h1 h2=>by rw[p7.old k (by omega) h2,od k (by omega)]
    have apo: ∀k,k<h2.next->dO vo k:=λk hk id off m c e e2=>by have:=hin1 _ _ _ _ e;omega
    have F7:Fr h2 h7:=⟨by omega,λk hk=>by rw[old7 k (by omega) (apo k hk)];exact f6.get k hk⟩
    have F07:=AC.fr.trans F7;have cx7:h7.cell idA (offA+k)=some vx:=by rw[F07.cell bA];exact cAk
    have evx:=sx.eN;have ow7:fC h7 vr 1 ws h2.next:=owd.mono (by omega) λid off m c e _ hid=>p7.old id (by omega) λid' off' m' c' e' e2=>Hb id ⟨off',m',c',by rw[e2];exact e'⟩ ⟨off,m,c,e⟩
    simp(disch:=omega)only[go_sem,a7,cx7,evx];refine (aaI vx (zi x) h7 (sx.mono F07) (by rw[lxn];omega)).mono ?_;rintro v25 h8 ⟨ow25,f8,_⟩;have c25:=vP (show SI h8 v25 (zi x) from ow25.sv);have n8:=f8.next;simp(disch:=omega)only[go_sem,dL _ (z:= .aC) c25.1 c25.2]
    obtain⟨he,hee⟩: ∃he:H,he=H.mk ((H.mk h8.tr (hh.next+10)).new (Ob.cells false [v25])).tr h8.next:=⟨_,rfl⟩
    rw[←hee];obtain⟨S,hS⟩:=exI (hh.next+10);rw[hS] at hee ⊢;have ge:he.get S=some (.cells false [v25]):=by rw[hee];exact H.aL (H.mk h8.tr S) _
    have oe: ∀k,k≠S->he.get k=h8.get k:=λk hk=>by rw[hee];exact H.bE (H.mk h8.tr S) hk _
    have ne:he.next=h8.next:=by rw[hee]
    have hin3:=λid off m c (e:v25=V.sl id off m c)=>ow25.in id off m c e
    have ow8:fC he vr 1 ws h2.next:=ow7.mono (by omega) λid off m c e h1 hid=>by
     have:=(hin2 _ _ _ _ e).1;rw[oe id (by omega),f8.get id hid]
    have hws:=bY.length pvs;obtain⟨h9,a9,p9⟩:=ow8.push (bytes:=24) (SV.one (v:=v25) (id:=S) (by omega) ge (.kn 1)) (n:=q.length) (m:=1) (by rw[hws,cp.len,Nat.mul_one]) rfl (by omega) (by omega) (by omega);have n9:=p9.next;simp(disch:=omega)only[go_sem,a9];have apv: ∀{v:V} {k:Nat},¬fN v k->dO v k:=λhk id off m c e e2=>hk ⟨off,m,c,by rw[e2];exact e⟩
    have old9: ∀k,k<hh.next->dO vo k->dO vr k->h9.get k=hh.get k:=λk h1 h2 h3=>by rw[p9.old k (by omega) h3,oe k (by omega),f8.get k (by omega),old7 k h1 h2]
    have apr: ∀k,k<h2.next->dO vr k:=λk hk id off m c e e2=>by have:=hin2 _ _ _ _ e;omega
    have fx:Fx (Two h2.next vo vr) hh h9:=⟨by omega,λk h1 h2=>old9 k h1 (apv λh=>h2 (.inr (.inl h))) (apv λh=>h2 (.inr (.inr h)))⟩
    have hw: ∀k,k<hh.next->Two h2.next (.sl hd.next 0 (q.length+1) (.un 1)) (.sl he.next 0 (q.length+1) (.un 1)) k->Two h2.next vo vr k:=λk h1 h2=>by
     rcases h2 with h|⟨_,_,_,e⟩|⟨_,_,_,e⟩
     ·exact .inl h
     ·cases e;omega
     ·cases e;omega
    have pnew:PV (Two h2.next (.sl hd.next 0 (q.length+1) (.un 1)) (.sl he.next 0 (q.length+1) (.un 1))) h9 v25 x:=by
     have s8:SI h8 v25 (zi x):=ow25.sv;refine⟨SV.fx (W:=λk=>k=S∨fN vr k) s8 ?_ ⟨by omega,λk h1 h2=>by rw[p9.old k (by omega) (apv λh=>h2 (.inr h)),oe k λe=>h2 (.inl e)]⟩,?_⟩
     ·cases v25 with
      |sl id off m c=>
       have h3:=hin3 _ _ _ _ rfl;rintro (e|⟨_,_,_,e⟩)
       ·omega
       ·have:=hin2 _ _ _ _ e;omega
      |_=>trivial
     ·cases v25 with
      |sl id off m c=>
       have h3:=hin3 _ _ _ _ rfl;rintro (e|⟨_,_,_,e⟩|⟨_,_,_,e⟩)
       ·omega
       ·cases e;omega
       ·cases e;omega
      |_=>trivial
    have o7:=p7.own (b:=h2.next) (by rw[aJ,aP,Nat.mul_one]) rfl (by omega);have e7:ints (zi q)++ [aB p]=ints (zi (q++ [p])):=by rw[Hc,qD];rfl
    rw[e7] at o7;refine⟨_,_,ws++ [v25],q++ [p],r++ [x],aA rfl,o7.mono (by omega) λid off m c e _ h1=>by cases e;rw[p9.old _ (by omega) (λid off m c e e2=>by have:=hin2 _ _ _ _ e;omega),oe _ (by omega),f8.get _ (by omega)],p9.own (by rw[hws,cp.len,Nat.mul_one]) rfl (by omega),(jO.go pvs fx hw).append (jO.one pnew),λk ⟨_,_,_,e1⟩ ⟨_,_,_,e2⟩=>by have a:=(V.sl.inj e1).1;have b:=(V.sl.inj e2).1;omega,cp.step rep,⟨by omega,λk hk=>by rw[old9 k (by omega) (apo k hk) (apr k hk)];exact f6.get k hk⟩⟩
  rintro vars h6 ⟨vo',vr',ws',q',r',⟨g',rfl⟩,oo',ow',pvs',dis',cp',f6⟩
  simp(disch:=omega)only[go_sem]
  rw[iJ p]
  exact⟨n-(p+1),by omega,p+1,vo',vr',ws',q',r',aA rfl,by omega,oo',ow',pvs',dis',cp',f6,rfl⟩
 rintro vars h5 ⟨vo,vr,q,r,⟨g,rfl⟩,pq5,pl,hcl,f5⟩
 have A5:=AC.mono f5
 have wo:vo.cells= [vo]/\vo.one=true:=pq5.iG
 have gB5:h5.get B=some (.cells false [aB 0,.aC,.aC]):=by rw[f5.get B (AC.wb B AC.d)];exact gB
 have cO:h5.cell (B+1) 1=some vO:=by rw[H.aE A5.get];rfl
 have cR:h5.cell (B+1) 2=some vR:=by rw[H.aE A5.get];rfl
 obtain⟨ws,pl1,pl2,pl3,pl4⟩:=pl
 have pl:PL W h5 vr r:=⟨ws,pl1,pl2,pl3,pl4⟩
 have fn5:=A5.fr.next
 have cn5:=A5.wb _ A5.c
 simp(disch:=omega)only[go_sem,cO,cR,dL _ (z:= .aC) (v:=vo) wo.1 wo.2]
 obtain⟨h6,h6e⟩: ∃h6:H,h6=H.mk ((H.mk h5.tr (h5.next+3)).new (Ob.cells false [vo])).tr (h5.next+14):=⟨_,rfl⟩
 rw[←h6e]
 have g6:h6.get (h5.next+3)=some (.cells false [vo]):=by rw[h6e];exact H.aL (H.mk h5.tr (h5.next+3)) _
 have n6:h6.next=h5.next+14:=by rw[h6e]
 have o6: ∀k,k≠h5.next+3->h6.get k=h5.get k:=λk hk=>by rw[h6e];exact H.bE (H.mk h5.tr (h5.next+3)) (by simpa using hk) _
 have f6:Fr h5 h6:=⟨by omega,λid hid=>o6 id (by omega)⟩
 have hwO:=bY.length A5.aO
 have hwR:=bY.length A5.aR
 obtain⟨h7,a7,p7⟩:=(A5.oO.fr f6).push (bytes:=24) (SV.one (by omega) g6 (.kn 1)) (n:=i) (m:=1) (by omega) rfl (by omega) (by omega) (by omega)
 have n7:=p7.next
 have oldO: ∀k,k<h5.next->dO vO k->h7.get k=h5.get k:=λk h1 h2=>by rw[p7.old k (by omega) h2,o6 k (by omega)]
 have cR7:h7.cell (B+1) 2=some vR:=by unfold H.cell;rw[oldO (B+1) cn5 A5.pO,A5.get];rfl
 have eR:eN vR vR=true:=A5.oR.sv.eN
 have svr:vr.cells= [vr]/\vr.one=true:=⟨(SV.eD pl1).1,(SV.eD pl1).2.1⟩
 simp(disch:=omega)only[go_sem,a7,cR7,eR,dL _ (z:= .aC) svr.1 svr.2]
 obtain⟨h8,h8e⟩: ∃h8:H,h8=H.mk ((H.mk h7.tr (h5.next+8)).new (Ob.cells false [vr])).tr h7.next:=⟨_,rfl⟩
 rw[←h8e]
 have g8:h8.get (h5.next+8)=some (.cells false [vr]):=by rw[h8e];exact H.aL (H.mk h7.tr (h5.next+8)) _
 have n8:h8.next=h7.next:=by rw[h8e]
 have o8: ∀k,k≠h5.next+8->h8.get k=h7.get k:=λk hk=>by rw[h8e];exact H.bE (H.mk h7.tr (h5.next+8)) (by simpa using hk) _
 have oR8:fC h8 vR 1 wsR h.next:=A5.oR.mono (by omega) λid off m c e _ hid=>by
  rw[o8 id (by omega),oldO id hid (λid' off' n' c' e' e2=>A5.Hb _ _ _ _ e' _ _ _ _ e e2.symm)]
 obtain⟨h9,a9,p9⟩:=oR8.push (bytes:=24) (SV.one (by omega) g8 (.kn 1)) (n:=i) (m:=1) (by omega) rfl (by omega) (by omega) (by omega)
 have n9:=p9.next
 have apR: ∀k,h5.next<=k->dO vR k:=λk hk id off m c e e2=>by have:=(A5.oR.in _ _ _ _ e).1;omega
 have old9: ∀k,k<h5.next->dO vO k->dO vR k->h9.get k=h5.get k:=λk h1 h2 h3=>by rw[p9.old k (by omega) h3,o8 k (by omega),oldO k h1 h2]
 have gC9:h9.get (B+1)=some (.cells false [aB n,vO,vR]):=by rw[old9 _ cn5 A5.pO A5.pR];exact A5.get
 have pt1: ∀(hh:H) (x:V),fI (some (.cells false [aB n,vO,vR])) hh (B+1) 1 [x]=some (hh.set (B+1) (some (.cells false [aB n,x,vR]))):=λhh x=>aX (by simp) hh _ x
 have pt2: ∀(hh:H) (x y:V),fI (some (.cells false [aB n,x,vR])) hh (B+1) 2 [y]=some (hh.set (B+1) (some (.cells false [aB n,x,y]))):=λhh x y=>aX (by simp) hh _ y
 simp(disch:=omega)only[go_sem,a9,gC9,pt1,pt2]
 rw[iJ i]
 obtain⟨ha,hb⟩:h6.next=h5.next+14/\h8.next=h5.next+15:=⟨n6,by omega⟩
 rw[ha,hb]
 obtain⟨h10,h10e⟩: ∃h10,h10=(h9.set (B+1) (some (.cells false [aB n,.sl (h5.next+14) 0 (i+1) (.un 1),vR]))).set (B+1) (some (.cells false [aB n,.sl (h5.next+14) 0 (i+1) (.un 1),.sl (h5.next+15) 0 (i+1) (.un 1)])):=⟨_,rfl⟩
 rw[←h10e]
 have o10: ∀k,k≠B+1->h10.get k=h9.get k:=λk hk=>by rw[h10e,H.aH _ hk,H.aH _ hk]
 have n10:h10.next=h5.next+16:=by rw[h10e];show h9.next=_;omega
 have A10:=A5.step (v4:=vo) (v5:=vr) (o:=q) (r:=r) (h6:=h10) (a:=h5.next+14) (b:=h5.next+15) (k1:=i+1) (k2:=i+1) pq5 pl (by omega) (by omega) (by omega) (by omega) (by omega) (by omega) (by omega) (by rw[h10e,H.aT])
  (by rw[o10 _ (by omega),p9.old _ (by omega) (apR _ (by omega)),o8 _ (by omega),←ha];exact p7.get) (by rw[o10 _ (by omega),←hb];exact p9.get) (λk h1 h2 h3 h4=>by rw[o10 k h2];exact old9 k h1 h3 h4)
 refine⟨n-(i+1),by omega,i+1,_,_,_,_,_,_,_,aA rfl,by omega,A10,?_,by rw[oS,lO];rfl,by rw[oS,lR];rfl,λj hj=>?_,rfl⟩
 ·rw[old9 B (A5.wb B A5.d) A5.qO A5.qR];exact gB5
 ·by_cases e:j=i
  ·subst e
   have e1:(O++ [q]).getD j []=q:=by rw[←lO];exact kE
   have e2:(R'++ [r]).getD j []=r:=by rw[←lR];exact kE
   rw[e1,e2]
   exact hcl
  ·rw[mE (by omega),mE (by omega)]
   exact hC j (by omega)
end Go.Proofs.YtapfcpkecmmagaaGreat
