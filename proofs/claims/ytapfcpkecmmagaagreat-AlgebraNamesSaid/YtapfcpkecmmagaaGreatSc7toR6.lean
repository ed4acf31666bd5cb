/- Texts of the claim. -/
import Derived.Test.YtapfcpkecmmagaaGreatP5otoSc6
import Derived.Test.YtapfcpkecmmagaaGreatDp2toP4a
import Derived.Test.YtapfcpkecmmagaaGreatP5a
set_option maxHeartbeats 32000000
namespace Go.Proofs.YtapfcpkecmmagaaGreat.Cls
open Go Go.Ay Go.Sort
set_option maxRecDepth 100000
theorem Qg {α:Type}[Inhabited α][O:bF α](h:H)(S N:Nat)(d:Array α)(cp:pY)(hN:N<60000)(A:dM h S N d):
  Ev T 88 [.sl S 0 N cp,.fn (bF.f α) [] []] h (λ_ h'=> ∃e,dM h' S N e/\PermIn 0 N d e/\SortedIn bF.lt 0 N e/\Fx (· =S) h h'):=by
 refine bL cX rfl rfl ?_
 have hb:bitsLen N<=16:=(bitsLen_le_iff _ 16).2 (by omega)
 simp(disch:=omega)only[go_sem,cX,aE,fU (n:=(N:Int)) (by omega) (by omega)]
 refine (Vg N h (by omega)).mono ?_
 rintro _ h1 ⟨rfl,hh⟩
 subst hh
 simp(disch:=omega)only[go_sem]
 refine (Pn N h1 S N 0 N _ d cp hN A (by omega) (by omega) (by omega) (by omega) (by omega) (.inl rfl)).mono ?_
 rintro _ h2 ⟨e,A2,p,s,F⟩
 simp(disch:=omega)only[go_sem]
 exact⟨e,A2,p,s,F⟩
theorem yG (a:Int)(h:H):Ev T 147 [aA a] h (λv h'=>v= .bool false/\h'=h):=by
 refine bL kE rfl rfl ?_;have e:decide (a≠a)=false:=kU (by omega);simp(disch:=omega)only[go_sem,kE,aE,e]
def wT (a b:Int):Int:=if a<b then -1 else if b<a then 1 else 0
theorem Ag (a b:Int)(h:H):Ev T 114 [aA a,aA b] h (λv h'=>v= aA (wT a b)/\Fr h h'):=by
 refine bL nG rfl rfl ?_;simp(disch:=omega)only[go_sem,nG,aE];refine (yG a h).mono ?_;rintro _ h1 ⟨rfl,rfl⟩;simp(disch:=omega)only[go_sem];refine (yG b h1).mono ?_;rintro _ h2 ⟨rfl,rfl⟩;simp(disch:=omega)only[go_sem];unfold wT
 by_cases h1:a<b
 ·have d1:decide (a<b)=true:=decide_eq_true h1
  simp(disch:=omega)only[go_sem,d1,if_pos h1];exact Fr.refl _
 ·have d1:decide (a<b)=false:=decide_eq_false h1
  by_cases h3:b<a
  ·have d2:decide (b<a)=true:=decide_eq_true h3
   simp(disch:=omega)only[go_sem,d1,d2,if_neg h1,if_pos h3];exact Fr.refl _
  ·have d2:decide (b<a)=false:=decide_eq_false h3
   simp(disch:=omega)only[go_sem,d1,d2,if_neg h1,if_neg h3];exact Fr.refl _
def FD:List Int->Int
 | []=>0
 |x::r=>if x=0 then FD r else x
theorem FV {l:List Int}{i:Nat}(hi:i<l.length)(h:l.getD i 0=0):FD (l.drop i)=FD (l.drop (i+1)):=by
 rw[List.drop_eq_getElem_cons hi];show (if l[i]=0 then _ else _)=_;rw[if_pos (by rw[List.getD,iI hi] at h;exact h)]
theorem QI {l:List Int}{i:Nat}(hi:i<l.length)(h:l.getD i 0≠0):FD (l.drop i)=l.getD i 0:=by
 rw[List.drop_eq_getElem_cons hi];show (if l[i]=0 then _ else l[i])=_;have e:l.getD i 0=l[i]:=by rw[List.getD,iI hi];rfl
 rw[if_neg (by rw[←e];exact h),e]
theorem YT (u:V)(l:List Int)(h:H)(hl:l.length<1000000)(hu:SI h u l):Ev T 93 [u] h (λv h'=>v= aA (FD l)/\Fr h h'):=by
 refine bL wC rfl rfl ?_;have lu:=hu.lens;obtain⟨id,off,sh,hid,hc⟩:=hu.open;simp(disch:=omega)only[go_sem,wC,aE,lu];refine aJ (λk' vs hh=> ∃(i:Nat),(∃g:Nat->V,vs= [u,aA 0,aA 0,g 3,u,aA (l.length:Int),aA i,g 7,g 8])/\i<=l.length/\FD (l.drop i)=FD l/\Fr h hh/\k'=l.length-i) l.length
   ⟨0,aB rfl,lW _,rfl,Fr.refl h,rfl⟩ ?_
 rintro k' vars h2 ⟨i,⟨g,rfl⟩,hi,ho,f,rfl⟩
 by_cases hlt:(i:Int)<(l.length:Int)
 ·have d4:=oD hlt
  have hi':i<l.length:=by omega
  have ci:h2.cell id (off+i)=some (aA (l.getD i 0)):=by rw[f.cell (hid (by omega)),hc i hi']
  generalize hx:l.getD i 0=x at ci;simp(disch:=omega)only[go_sem,d4,sh.ixa,ci]
  by_cases hz:x=0
  ·have d5:decide (x≠0)=false:=decide_eq_false (by simpa using hz)
   simp(disch:=omega)only[go_sem,d5];rw[jP i];exact⟨l.length-(i+1),by omega,i+1,aB rfl,by omega,by rw[←FV hi' (hx.trans hz)];exact ho,f.bM (by omega),rfl⟩
  ·have d5:decide (x≠0)=true:=decide_eq_true hz
   simp(disch:=omega)only[go_sem,d5];exact⟨by rw[←ho,QI hi' (by rw[hx];exact hz),hx],f.bM (by omega)⟩
 have d4:=kU hlt;obtain rfl:i=l.length:=by omega
 simp(disch:=omega)only[go_sem,d4];rw[List.drop_length] at ho;exact⟨by rw[←ho];rfl,f⟩
structure KE where
 rep:V
 ord:Nat
 size:Nat
 ranks:V
 fst:Nat
 hrep:rep.cells= [rep]/\rep.one=true/\eP rep rep=true
 hranks:ranks.cells= [ranks]/\ranks.one=true/\eP ranks ranks=true
instance:Inhabited KE:=⟨⟨.aC,0,0,.aC,0,⟨rfl,rfl,rfl⟩,⟨rfl,rfl,rfl⟩⟩⟩
def KE.enc (a:KE):List V:= [a.rep,aA (a.ord:Int),aA (a.size:Int),a.ranks]
def KE.cmp (a b:KE):Int:=FD [wT a.ord b.ord,wT a.size b.size,wT a.fst b.fst]
def KE.lt (a b:KE):Bool:=decide (a.cmp b<0)
theorem Av (a:KE)(h:H):Jk h (.agg a.enc)=some (.ptr h.next 0,h.new (.cells false a.enc)):=xO h _ (by simp [KE.enc,a.hrep.2.1,a.hranks.2.1,show (aA (a.ord:Int)).one=true from rfl,show (aA (a.size:Int)).one=true from rfl])
theorem EU (a b:KE)(h:H):Ev T 90 [.agg a.enc,.agg b.enc] h (λv h'=>v= aA (wT a.ord b.ord)/\Fr h h'):=by
 refine bL kG rfl rfl ?_;obtain⟨A,hA⟩:=exI h.next;obtain⟨h1,e1,n1,g1,o1,f1⟩:=iD hA a.enc;obtain⟨h2,e2,n2,g2,o2,f2⟩:=iD n1 b.enc;have gA:h2.get A=some (.cells false a.enc):=by rw[o2 _ (by omega)];exact g1
 have cA:h2.cell A 1=some (aA (a.ord:Int)):=by rw[H.aF gA];rfl
 have cB:h2.cell (A+1) 1=some (aA (b.ord:Int)):=by rw[H.aF g2];rfl
 simp(disch:=omega)only[go_sem,kG,aE,Av,hA,e1,n1,e2,cA,cB];refine (Ag _ _ h2).mono ?_;rintro _ h3 ⟨rfl,f3⟩;simp(disch:=omega)only[go_sem];exact (f1.trans f2).trans f3
theorem HV (a b:KE)(h:H):Ev T 91 [.agg a.enc,.agg b.enc] h (λv h'=>v= aA (wT a.size b.size)/\Fr h h'):=by
 refine bL lM rfl rfl ?_;obtain⟨A,hA⟩:=exI h.next;obtain⟨h1,e1,n1,g1,o1,f1⟩:=iD hA a.enc;obtain⟨h2,e2,n2,g2,o2,f2⟩:=iD n1 b.enc;have gA:h2.get A=some (.cells false a.enc):=by rw[o2 _ (by omega)];exact g1
 have cA:h2.cell A 2=some (aA (a.size:Int)):=by rw[H.aF gA];rfl
 have cB:h2.cell (A+1) 2=some (aA (b.size:Int)):=by rw[H.aF g2];rfl
 simp(disch:=omega)only[go_sem,lM,aE,Av,hA,e1,n1,e2,cA,cB];refine (Ag _ _ h2).mono ?_;rintro _ h3 ⟨rfl,f3⟩;simp(disch:=omega)only[go_sem];exact (f1.trans f2).trans f3
def KE.At (h:H)(a:KE):Prop:= ∃id off n cap,a.ranks= .sl id off (n+1) cap/\id<h.next/\h.cell id off=some (aA (a.fst:Int))
theorem CR (a b:KE)(h:H)(ha:a.At h)(hb:b.At h):Ev T 92 [.agg a.enc,.agg b.enc] h (λv h'=>v= aA (wT a.fst b.fst)/\Fr h h'):=by
 refine bL kH rfl rfl ?_;obtain⟨A,hA⟩:=exI h.next;obtain⟨h1,e1,n1,g1,o1,f1⟩:=iD hA a.enc;obtain⟨h2,e2,n2,g2,o2,f2⟩:=iD n1 b.enc;obtain⟨ia,oa,na,ca,ea,la,ga⟩:=ha;obtain⟨ib,ob,nb,cb,eb,lb,gb⟩:=hb;have F2:=f1.trans f2;have gA:h2.get A=some (.cells false a.enc):=by rw[o2 _ (by omega)];exact g1
 have cA:h2.cell A 3=some a.ranks:=by rw[H.aF gA];rfl
 have cB:h2.cell (A+1) 3=some b.ranks:=by rw[H.aF g2];rfl
 rw[ea] at cA;rw[eb] at cB;have ra:h2.cell ia oa=some (aA (a.fst:Int)):=by rw[F2.cell la];exact ga
 have rb:h2.cell ib ob=some (aA (b.fst:Int)):=by rw[F2.cell lb];exact gb
 simp(disch:=omega)only[go_sem,kH,aE,Av,hA,e1,n1,e2,cA,cB,ra,rb];refine (Ag _ _ _).mono ?_;rintro _ h3 ⟨rfl,f3⟩;have F3:Fr h2 h3:=((Fr.refl h2).bM (by omega)).trans f3;have ha:=F2.next;have cA3:h3.cell A 3=some (.sl ia oa (na+1) ca):=by rw[F3.cell (by omega)];exact cA
 have cB3:h3.cell (A+1) 3=some (.sl ib ob (nb+1) cb):=by rw[F3.cell (by omega)];exact cB
 have ra3:h3.cell ia oa=some (aA (a.fst:Int)):=by rw[F3.cell (by omega)];exact ra
 have rb3:h3.cell ib ob=some (aA (b.fst:Int)):=by rw[F3.cell (by omega)];exact rb
 simp(disch:=omega)only[go_sem,cA3,cB3,ra3,rb3];exact F2.trans F3
theorem yD {h:H}{A:Nat}{ro:Bool}{a:KE}(hg:h.get A=some (.cells ro a.enc)):h.row A 0 4=some a.enc:=by
 simp [H.row,hg,sub,KE.enc]
theorem Cq (a:KE):eP (.agg a.enc) (.agg a.enc)=true:=by
 show rD a.enc a.enc=true;simp [KE.enc,rD,eP,a.hrep.2.2,a.hranks.2.2]
theorem KE.At.fr {a:KE}{h h':H}(x:a.At h)(f:Fr h h'):a.At h':=by
 obtain⟨ia,oa,na,ca,ea,la,ga⟩:=x;exact⟨ia,oa,na,ca,ea,kN la f.next,by rw[f.cell la];exact ga⟩
theorem Vq (h:H)(x y z:Int):qS h 1 [aA 0] 3 [(0,1,aA x),(1,1,aA y),(2,1,aA z)]=some (.sl h.next 0 3 (.kn 3),h.new (.cells false (ints [x,y,z]))):=rfl
theorem SZ (a b:KE)(h:H)(ha:a.At h)(hb:b.At h):Ev T 89 [.agg a.enc,.agg b.enc] h (λv h'=>v= aA (a.cmp b)/\Fr h h'):=by
 refine bL rV rfl rfl ?_;obtain⟨A,hA⟩:=exI h.next;obtain⟨h1,e1,n1,g1,o1,f1⟩:=iD hA a.enc;obtain⟨h2,e2,n2,g2,o2,f2⟩:=iD n1 b.enc;have F2:=f1.trans f2;have gA:h2.get A=some (.cells false a.enc):=by rw[o2 _ (by omega)];exact g1
 simp(disch:=omega)only[go_sem,rV,aE,Av,hA,e1,n1,e2,yD gA,yD g2,Cq,H.Tl];have hn:=F2.next;refine (EU a b _).mono ?_;rintro _ h3 ⟨rfl,f3⟩;have F3:Fr h2 h3:=((Fr.refl h2).bM (by omega)).trans f3;have gB3:h3.get (A+1)=some (.cells false b.enc):=by rw[F3.get _ (by omega)];exact g2
 simp(disch:=omega)only[go_sem,yD gB3,Cq];refine (HV a b _).mono ?_;rintro _ h4 ⟨rfl,f4⟩;have F4:=F3.trans f4;have gB4:h4.get (A+1)=some (.cells false b.enc):=by rw[F4.get _ (by omega)];exact g2
 simp(disch:=omega)only[go_sem,yD gB4,Cq];refine (CR a b _ (ha.fr (F2.trans F4)) (hb.fr (F2.trans F4))).mono ?_;rintro _ h5 ⟨rfl,f5⟩;have F5:=F4.trans f5;have gB5:h5.get (A+1)=some (.cells false b.enc):=by rw[F5.get _ (by omega)];exact g2
 simp(disch:=omega)only[go_sem,yD gB5,Cq];obtain⟨I,hI⟩:=exI (h2.next+9+9);have n5:=f5.next;have n4:=f4.next;have n3:h2.next+9+12<=h3.next:=f3.next;simp(disch:=omega)only[go_sem,hI,Vq]
 obtain⟨h6,h6e⟩: ∃h6:H,h6=H.mk ((H.mk h5.tr I).new (Ob.cells false (ints [wT a.ord b.ord,wT a.size b.size,wT a.fst b.fst]))).tr h5.next:=⟨_,rfl⟩
 rw[←h6e];have g6:h6.get I=bX (ints [wT a.ord b.ord,wT a.size b.size,wT a.fst b.fst]):=by rw[h6e];exact H.aL (H.mk h5.tr I) _
 have n6:h6.next=h5.next:=by rw[h6e]
 have o6: ∀k,k≠I->h6.get k=h5.get k:=λk hk=>by rw[h6e];exact H.aY (H.mk h5.tr I) (by simpa using hk) _
 have F6:Fr h2 h6:=⟨by have:=F5.next;omega,λk hk=>by rw[o6 k (by omega)];exact F5.get k hk⟩
 refine (YT _ [wT a.ord b.ord,wT a.size b.size,wT a.fst b.fst] h6 (by simp) (SV.all (by simp [aM]) (by omega) g6 _)).mono ?_;rintro _ h7 ⟨rfl,f7⟩;have F7:=F6.trans f7;have gB7:h7.get (A+1)=some (.cells false b.enc):=by rw[F7.get _ (by omega)];exact g2
 simp(disch:=omega)only[go_sem,yD gB7,Cq];exact⟨rfl,F2.trans F7⟩
theorem KE.lt_iff (a b:KE):a.lt b=true↔a.ord<b.ord∨a.ord=b.ord/\(a.size<b.size∨a.size=b.size/\a.fst<b.fst):=by
 unfold KE.lt KE.cmp FD FD FD FD wT;rw[decide_eq_true_eq]
 repeat' split
 all_goals omega
theorem UK:SWO KE.lt where
 irrefl x:=by rw[←Bool.not_eq_true,KE.lt_iff];omega
 trans x y z h1 h2:=by rw[KE.lt_iff] at*;omega
 ntrans x y z h1 h2:=by rw[←Bool.not_eq_true,KE.lt_iff] at*;omega
def KE.Pp (hB:H)(b0 S:Nat)(a:KE):Prop:= ∃id off n cap,a.ranks= .sl id off (n+1) cap/\id<b0/\id≠S/\hB.cell id off=some (aA (a.fst:Int))
def Bb (hB:H)(b0 S:Nat)(h:H):Prop:=b0<=h.next/\ ∀q,q<b0->q≠S->h.get q=hB.get q
theorem KE.Pp.at {hB h:H}{b0 S:Nat}{a:KE}(p:a.Pp hB b0 S)(b:Bb hB b0 S h):a.At h:=by
 obtain⟨id,off,n,cap,e,h1,h2,h3⟩:=p;refine⟨id,off,n,cap,e,kN h1 b.1,?_⟩;rw[←h3];unfold H.cell;rw[b.2 id h1 h2]
@[reducible] def YW (hB:H)(b0 S:Nat):bF KE where
 lt:=KE.lt
 enc:=KE.enc
 P:=KE.Pp hB b0 S
 B:=Bb hB b0 S
 f:=89
 b0:=b0
 S:=S
 swo:=UK
 len _:=rfl
 one a:=by simp [KE.enc,a.hrep.2.1,a.hranks.2.1,show (aA (a.ord:Int)).one=true from rfl,show (aA (a.size:Int)).one=true from rfl]
 eqv:=Cq
 cmp h a b hb pa pb:=(SZ a b h (pa.at hb) (pb.at hb)).mono λv h' ⟨e,f⟩=>⟨_,e,rfl,f⟩
 bfr h h' b f:=⟨Nat.le_trans b.1 f.next,λq h1 h2=>by rw[f.get q (kN h1 b.1)];exact b.2 q h1 h2⟩
 bS h h' b f:=⟨Nat.le_trans b.1 f.next,λq h1 h2=>by rw[f.get q (kN h1 b.1) h2];exact b.2 q h1 h2⟩
 bR h h' R b hR f:=⟨Nat.le_trans b.1 f.next,λq h1 h2=>by rw[f.get q (kN h1 b.1) (λe=>by have:q=R:=e;omega)];exact b.2 q h1 h2⟩
 bn h b:=b.1
theorem Gq {l:List KE}{N:Nat}(hl:l.length=N){e:Array KE}(hp:PermIn 0 N l.toArray e)(hs:SortedIn KE.lt 0 N e):e.toList.Perm l/\e.toList.Pairwise (λa b=>KE.lt b a=false):=by
 obtain⟨p1,p2,p3⟩:=hp;have hsz:e.size=N:=by rw[p1];simpa using hl
 refine⟨?_,?_⟩
 ·have a1:(e.extract 0 N).toList=e.toList:=by rw[←hsz];simp
  have a2:(l.toArray.extract 0 N).toList=l:=by rw[←hl];simp
  rwa [a1,a2] at p3
 ·rw[List.pairwise_iff_getElem]
  intro i j hi hj hij;have hj':j<N:=by simpa [hsz] using hj
  have:=hs i j (lW _) hij hj';have e1:e[i]! =e.toList[i]:=by simp at hi;simp [hi]
  have e2:e[j]! =e.toList[j]:=by simp at hj;simp [hj]
  rw[e1,e2] at this;exact this
def pJ (l:List KE):List V:=l.flatMap KE.enc
theorem MI (h:H)(S b0:Nat)(l:List KE)(cp:pY)(hN:l.length<60000)(hg:h.get S=bX (pJ l))(hS:S<h.next)(hb:b0<=h.next)(hP: ∀a∈l,a.Pp h b0 S):
  Ev T 88 [.sl S 0 l.length cp,.fn 89 [] []] h (λ_ h'=> ∃l',h'.get S=bX (pJ l')/\l'.Perm l/\l'.Pairwise (λa b=>KE.lt b a=false)/\Fx (· =S) h h'):=by
 letI:=YW h b0 S
 have A:dM h S l.length l.toArray:=⟨hg,by simp,hS,rfl,⟨hb,λ_ _ _=>rfl⟩,λi hi=>by
  have hi':i<l.length:=by simpa using hi
  have:l.toArray[i]! =l[i]:=by simp [hi']
  rw[this]
  exact hP _ (List.getElem_mem hi')⟩
 refine (Qg h S l.length l.toArray cp hN A).mono ?_
 rintro _ h' ⟨e,A2,p,s,F⟩
 obtain⟨q1,q2⟩:=Gq rfl p s
 exact⟨e.toList,A2.get,q1,q2,F⟩
end Go.Proofs.YtapfcpkecmmagaaGreat.Cls
namespace Go.Proofs.YtapfcpkecmmagaaGreat
open Go Go.Ay Go.Pm
set_option maxRecDepth 100000
section
variable {i j p:Nat} {S:LN} {Q:List Nat}
section
variable {n:Nat} {G:List Nat->Prop} {L:LN}
theorem Jn {l:LN}(nd:l.Nodup)(hi:i<l.length)(hj:j<l.length)(e:l.getD i []=l.getD j []):i=j:=by
 have ei:l.getD i []=l[i]:=by rw[List.getD,iI hi];rfl
 have ej:l.getD j []=l[j]:=by rw[List.getD,iI hj];rfl
 rw[ei,ej] at e;have h:=List.pairwise_iff_getElem.1 nd;rcases Nat.lt_trichotomy i j with h1|h1|h1
 ·exact absurd e (h i j hi hj h1)
 ·exact h1
 ·exact absurd e.symm (h j i hj hi h1)
def cR (G:List Nat->Prop)(L:LN)(i j:Nat):Prop:=cj G (L.getD i []) (L.getD j [])
open Classical in
noncomputable def iP (G:List Nat->Prop)(L:LN)(i:Nat):List Nat:=(List.range L.length).filter λj=>decide (cR G L i j)
theorem nI:j∈iP G L i↔j<L.length/\cR G L i j:=by
 classical
 unfold iP;rw[JL,Na,decide_eq_true_iff]
theorem Sz (i:Nat):(iP G L i).Pairwise (· < ·):=by
 classical
 unfold iP;exact List.Pairwise.filter _ List.pairwise_lt_range
theorem Hb (i:Nat):(iP G L i).Nodup:=by
 classical
 unfold iP;exact List.Pairwise.filter _ List.nodup_range
def Yi (G:List Nat->Prop)(L:LN)(i:Nat):Prop:= ∀j,j<i-> ¬cR G L j i
open Classical in
noncomputable def jS (G:List Nat->Prop)(L:LN)(k:Nat):List Nat:=(List.range k).filter λj=>decide (Yi G L j)
theorem Hp (k:Nat):(Yi G L k->jS G L (k+1)=jS G L k++ [k])/\(¬Yi G L k->jS G L (k+1)=jS G L k):=by
 classical
 unfold jS;rw[List.range_succ,List.filter_append];refine⟨λh=>?_,λh=>?_⟩
 ·rw[List.filter_cons_of_pos (by simpa using h)];rfl
 ·rw[List.filter_cons_of_neg (by simpa using h),List.filter_nil,List.append_nil]
theorem qX {k:Nat}:i∈jS G L k↔i<k/\Yi G L i:=by
 classical
 unfold jS;rw[JL,Na,decide_eq_true_iff]
variable (hG:tL n G) (E:fN G L)
include hG E
omit hG in
theorem Dk (hi:i<L.length):G (L.getD i []):=(E.mem _).1 (bI hi)
theorem mD (hi:i<L.length):bG n (L.getD i []):=hG.fI (Dk E hi)
theorem Fo (hi:i<L.length):cR G L i i:=PG hG (mD hG E hi)
theorem Fy (hi:i<L.length)(h:cR G L i j):cR G L j i:=OL hG (mD hG E hi) h
theorem uU {k:Nat}(hi:i<L.length)(h:cR G L i j)(h2:cR G L j k):cR G L i k:=II hG (mD hG E hi) h h2
theorem YD (hi:i<L.length): ∃r,r<=i/\Yi G L r/\cR G L r i:=by
 induction i using Nat.strongRecOn with
 |_ i ih=>
  by_cases h:Yi G L i
  ·exact⟨i,iL _,h,Fo hG E hi⟩
  ·obtain⟨j,hj,hc⟩: ∃j,j<i/\cR G L j i:=Kt λhn=>h λj hj hc=>hn ⟨j,hj,hc⟩
   obtain⟨r,h1,h2,h3⟩:=ih j hj (by omega);exact⟨r,by omega,h2,uU hG E (by omega) h3 hc⟩
theorem FJ {r s:Nat}(hr:r<L.length)(hs:s<L.length)(h1:Yi G L r)(h2:Yi G L s)(c1:cR G L r i)(c2:cR G L s i):r=s:=by
 have a1:=uU hG E hr c1 (Fy hG E hs c2);have a2:=uU hG E hs c2 (Fy hG E hr c1);rcases Nat.lt_trichotomy r s with h|h|h
 ·exact absurd a1 (h2 r h)
 ·exact h
 ·exact absurd a2 (h1 s h)
omit hG E in
structure BQ (G:List Nat->Prop)(L S:LN)(i:Nat)(Q:List Nat)(p:Nat):Prop where
 nd:Q.Nodup
 ne:0<Q.length
 hd:Q.getD 0 0=i
 mem: ∀j∈Q,j<L.length/\cR G L i j
 cl: ∀k,k<p-> ∀s∈S,∃j∈Q,L.getD j []=oG (L.getD (Q.getD k 0) []) s
omit hG E in
theorem BQ.len (b:BQ G L S i Q p):Q.length<=L.length:=by
 have h:Q ⊆ List.range L.length:=λj hj=>Na.2 (b.mem j hj).1
 have:=List.Nodup.length_le_of_subset b.nd h;rwa [List.length_range] at this
theorem BQ.done (b:BQ G L S i Q p)(hp:Q.length<=p)(hi:i<L.length)(hS: ∀s∈S,G s)(hgen: ∀x,G x->eQ n (λg=>g∈S) x)(j:Nat):j∈Q↔j<L.length/\cR G L i j:=by
 refine⟨b.mem j,λ⟨hj,hc⟩=>?_⟩
 have key: ∃k∈Q,L.getD k []=L.getD j []:=by
  refine XD (S:=λg=>g∈S) (λg hg=>hG.fI (hS g hg)) hgen (P:=λy=> ∃k∈Q,L.getD k []=y) (mD hG E hi) ⟨i,by rw[←b.hd];exact bI b.ne,rfl⟩ ?_ hc;rintro y g Y ⟨k,hk,rfl⟩ hg;obtain⟨t,ht,et⟩:=Fg.1 hk;obtain⟨j2,h1,h2⟩:=b.cl t (by omega) g hg;have e:Q.getD t 0=k:=by rw[Pm.cT ht,et]
  rw[e] at h2;exact⟨j2,h1,h2⟩
 obtain⟨k,hk,e⟩:=key;have hkl:=(b.mem k hk).1;rw[←Jn E.nodup hkl hj e];exact hk
theorem BQ.sort (b:BQ G L S i Q p)(hp:Q.length<=p)(hi:i<L.length)(hS: ∀s∈S,G s)(hgen: ∀x,G x->eQ n (λg=>g∈S) x){l':List Int}(h1:l'.Perm (zi Q))(h2:l'.Pairwise (· <= ·)):l'=zi (iP G L i):=by
 refine Ry (h1.trans ?_) h2 ?_
 ·refine List.Perm.map _ ((List.perm_ext_iff_of_nodup b.nd (Hb i)).2 λj=>?_)
  rw[b.done hG E hp hi hS hgen j,nI]
 ·unfold zi
  rw[List.pairwise_map];exact (Sz i).imp λh=>by omega
theorem Ml (hi:i<L.length)(hr:Yi G L i):0<(iP G L i).length/\(iP G L i).getD 0 0=i:=by
 have hm:i∈iP G L i:=nI.2 ⟨hi,Fo hG E hi⟩;have hl:=List.length_pos_of_mem hm;refine⟨hl,?_⟩;have h0:=nI.1 (bI (d:=0) hl);obtain⟨k,hk,ek⟩:=Fg.1 hm;have asc:=List.pairwise_iff_getElem.1 (Sz (G:=G) (L:=L) i);rw[Pm.cT hl] at*
 by_cases hk0:k=0
 ·subst hk0;exact ek
 ·have h1:=asc 0 k hl hk (by omega)
  exact absurd (Fy hG E hi h0.2) (hr _ (by omega))
end
end
end Go.Proofs.YtapfcpkecmmagaaGreat
namespace Go.Ay
open Go
def Ty (o:Option Ob)(h:H)(id:Nat)(s:vE)(k y:V):Option (V×H):=match o with
 |some (.wmap sh es)=>if s=sh/\isKey s k=true then
   some (V.undef,h.set id (some (.wmap sh (match fH k es with
    |some e=>es.set e.1 (k,y)
    |none=>es++ [(k,y)]))))
  else none
 |_=>none
def UO (s:vE)(h:H)(x k y:V):Option (V×H):=match x with
 | .mp id=>Ty (h.get id) h id s k y
 |_=>none
theorem QW (ρ:X->V)(h:H)(s:vE)(x k y:X):cG ρ h (.msw s x k y)=UO s h (ρ x) (ρ k) (ρ y):=by
 simp only[cG,UO,Ty];cases ρ x<;>try rfl
theorem TJ (s:vE)(h:H)(id:Nat)(k y:V):UO s h (.mp id) k y=Ty (h.get id) h id s k y:=rfl
def Ke (o:Option Ob)(s:vE)(zero:V)(ok:Bool)(k:V):Option V:=match o with
 |some (.wmap sh es)=>if s=sh/\isKey s k=true then
   match fH k es with
   |some e=>some (if ok then .tup [e.2,.bool true] else e.2)
   |none=>some (if ok then .tup [zero,.bool false] else zero)
  else none
 |_=>none
def XZ (s:vE)(zero:V)(ok:Bool)(h:H)(x k:V):Option V:=match x with
 | .mp id=>Ke (h.get id) s zero ok k
 |_=>none
theorem Mw (ρ:X->V)(h:H)(s:vE)(zero:V)(ok:Bool)(x k:X):cG ρ h (.lkw s zero ok x k)=(XZ s zero ok h (ρ x) (ρ k)).map (·,h):=by
 simp only[cG,XZ,Ke];cases ρ x<;>try rfl
 rename_i id;simp only
 cases hg:h.get id with
 |none=>rfl
 |some o=>
  cases o<;>try rfl
  rename_i sh es;simp only
  by_cases hc:s=sh/\isKey s (ρ k)=true
  ·rw[if_pos hc,if_pos hc]
   cases fH (ρ k) es<;>rfl
  ·rw[if_neg hc,if_neg hc];rfl
theorem Oj (s:vE)(zero:V)(ok:Bool)(h:H)(id:Nat)(k:V):XZ s zero ok h (.mp id) k=Ke (h.get id) s zero ok k:=rfl
attribute [go_sem] QW TJ Mw Oj
end Go.Ay
namespace Go.Proofs.YtapfcpkecmmagaaGreat
open Go Go.Ay Go.Pm
set_option maxRecDepth 100000
def Rw (L:LN)(k:Nat):List (V×V):=(List.range k).map λi=>(V.str (L.getD i []),aA i)
theorem Dl (k:V): ∀(a b:List (V×V)),fH k a=none->fH k (a++b)=(fH k b).map λq=>(q.1+a.length,q.2)
 | [],b,_=>by
  cases h:fH k b<;>simp [h]
 |e::a,b,h=>by
  show (if eP k e.1 then some (0,e.2) else (fH k (a++b)).map λq=>(q.1+1,q.2))=_;have h':(if eP k e.1 then some (0,e.2) else (fH k a).map λq=>(q.1+1,q.2))=none:=h;split at h'
  ·cases h'
  ·rename_i hn
   rw[if_neg hn,Dl k a b (by cases h2:fH k a with|none=>rfl|some x=>rw[h2] at h';cases h'),Option.map_map]
   rfl
theorem Gt (L:LN)(k:Nat):Rw L (k+1)=Rw L k++ [(V.str (L.getD k []),aA k)]:=by
 unfold Rw;rw[List.range_succ,List.map_append];rfl
theorem Ja {L:LN}{w:List Nat}: ∀{k:Nat},(∀i,i<k->L.getD i []≠w)->fH (.str w) (Rw L k)=none
 |0,_=>rfl
 |k+1,h=>by
  rw[Gt,Dl _ _ _ (Ja λi hi=>h i (by omega))]
  have:(eP (.str w) (.str (L.getD k [])))=false:=by
   have:=h k (by omega);simp only[eP,beq_eq_false_iff_ne,ne_eq];exact λe=>this e.symm
  show Option.map _ (if eP (.str w) (.str (L.getD k [])) then _ else _)=_;rw[if_neg (by rw[this];simp)];rfl
theorem Te {L:LN}(nd:L.Nodup): ∀{k i:Nat},k<=L.length->i<k->fH (.str (L.getD i [])) (Rw L k)=some (i,aA i)
 |0,i,_,h=>by omega
 |k+1,i,hk,h=>by
  rw[Gt]
  by_cases e:i=k
  ·subst e
   rw[Dl _ _ _ (Ja λj hj e=>by have:=Jn nd (by omega) (by omega) e;omega)];show Option.map _ (if eP (.str (L.getD i [])) (.str (L.getD i [])) then some (0,aA i) else _)=_;rw[if_pos (by simp [eP])];simp [Rw]
  ·have ih:=Te nd (k:=k) (by omega) (show i<k by omega)
   have key: ∀(a b:List (V×V)) (x:V) (r:Nat×V),fH x a=some r->fH x (a++b)=some r:=by
    intro a
    induction a with
    |nil=>intro b x r h;cases h
    |cons y a ih2=>
     intro b x r h;show (if eP x y.1 then some (0,y.2) else (fH x (a++b)).map λq=>(q.1+1,q.2))=_;have h':(if eP x y.1 then some (0,y.2) else (fH x a).map λq=>(q.1+1,q.2))=some r:=h
     by_cases hc:eP x y.1=true
     ·rw[if_pos hc] at h' ⊢;exact h'
     ·rw[if_neg hc] at h' ⊢
      cases h2:fH x a with
      |none=>rw[h2] at h';cases h'
      |some r2=>rw[h2] at h';rw[ih2 b x r2 h2];exact h'
   exact key _ _ _ _ ih
theorem Wu {w:List Nat}(h1:w.length<=1000)(h2: ∀x∈w,x<256):isKey .str (.str w)=true:=by
 have e:(decide (w.length<2^62)&&w.all λn=>decide (n<256))=true:=by
  rw[Bool.and_eq_true,decide_eq_true_eq,List.all_eq_true];exact⟨by omega,λx hx=>by simpa using h2 x hx⟩
 exact e
theorem GB {L:LN}(nd:L.Nodup){k:Nat}(hk:k<L.length)(hK:isKey .str (.str (L.getD k []))=true)(hh:H)(M:Nat):
  Ty (some (.wmap .str (Rw L k))) hh M .str (.str (L.getD k [])) (aA k)=some (.undef,hh.set M (some (.wmap .str (Rw L (k+1))))):=by
 have e:fH (.str (L.getD k [])) (Rw L k)=none:=Ja λj hj e=>by have:=Jn nd (by omega) hk e;omega
 simp only[Ty]
 rw[if_pos ⟨trivial,hK⟩,e,Gt]
theorem HS {L:LN}(nd:L.Nodup){i:Nat}(hi:i<L.length)(hK:isKey .str (.str (L.getD i []))=true)(z:V):
  Ke (some (.wmap .str (Rw L L.length))) .str z false (.str (L.getD i []))=some (aA i):=by
 simp only[Ke]
 rw[if_pos ⟨trivial,hK⟩,Te nd (iL _) hi];rfl
end Go.Proofs.YtapfcpkecmmagaaGreat
namespace Go.Proofs.YtapfcpkecmmagaaGreat
open Go Go.Ay Go.Pm
set_option maxRecDepth 100000
section
variable {G:List Nat->Prop} {L:LN} {i j n:Nat} {Q:List Nat} {h:H} {v:V}
theorem UY (vc:V)(d:Int)(O:List (List Int))(R:List (List (List Int)))(h:H)(hc:ET h vc d O R)(hd:d<=7∨64<d)(so:rZ O)(sr:rM R)(hb:sF d O R≠0):
  Ev T 56 [vc] h (λv h'=>v= .tup [.nilp,aA (sF d O R)]/\Fr h h'):=by
 have hc0:=hc
 obtain⟨vO,vR,e,sO,sR⟩:=hc
 subst e
 refine bL gT rfl rfl ?_
 have oneO:vO.one=true:=Tt sO
 have oneR:vR.one=true:=Tq sR
 obtain⟨B,hB⟩:=exI h.next
 obtain⟨h1,e1,n1,g1,o1,f1⟩:=iD hB [aA d,vO,vR]
 have bx:=dB h (v:= aA d) (u:=vO) (w:=vR) rfl oneO oneR
 have rB:=bB g1
 simp(disch:=omega)only[go_sem,gT,aE,bx,hB,e1,rB]
 refine (KY _ d O R h1 (hc0.mono f1) hd so sr hb).mono ?_
 rintro _ h2 ⟨rfl,f2⟩
 simp(disch:=omega)only[go_sem]
 refine aW (λ_=>?_) (λhc=>(hc hb).elim)
 simp(disch:=omega)only[go_sem]
 exact f1.trans f2
theorem CC {vL:V}(hc:vL.cells= [vL])(ho:vL.one=true)(M N m:Nat):vN [.aC,.nilm,.aC,.aC] [(0,1,vL),(1,1,.mp M),(3,1,.sl N 0 m (.kn m))]=some (.agg [vL,.mp M,.aC,.sl N 0 m (.kn m)]):=by
 simp [vN,iZ,putAt,hc,ho,show (V.mp M).cells= [V.mp M] from rfl,show (V.sl N 0 m (.kn m)).cells= [V.sl N 0 m (.kn m)] from rfl,show (V.mp M).one=true from rfl,show (V.sl N 0 m (.kn m)).one=true from rfl]
theorem CG {vL:V}(ho:vL.one=true)(M N m:Nat)(h:H):Jk h (.agg [vL,.mp M,.aC,.sl N 0 m (.kn m)])=some (.ptr h.next 0,h.new (.cells false [vL,.mp M,.aC,.sl N 0 m (.kn m)])):=xO h _ (by simp [ho,show (V.mp M).one=true from rfl,show (V.sl N 0 m (.kn m)).one=true from rfl,show V.aC.one=true from rfl])
open Classical in
noncomputable def Ck (G:List Nat->Prop)(L:LN)(i:Nat)(Q:List Nat)(j:Nat):Bool:=decide ((∃i0,i0<i/\cR G L i0 j)∨j∈Q)
theorem mM:Ck G L i Q j=true↔(∃i0,i0<i/\cR G L i0 j)∨j∈Q:=by classical unfold Ck;simp only[decide_eq_true_eq]
theorem NG (G:List Nat->Prop)(L:LN)(j:Nat):Ck G L 0 [] j=false:=by
 rw[←Bool.not_eq_true,mM];rintro (⟨i0,h,_⟩|h)
 ·omega
 ·cases h
theorem Ri {k:Nat}:Ck G L i (Q++ [k]) j=if j=k then true else Ck G L i Q j:=by
 by_cases e:j=k
 ·rw[if_pos e,mM];exact .inr (by simp [e])
 ·rw[if_neg e,Bool.eq_iff_iff,mM,mM]
  simp [e]
theorem Bt {p:Nat->Option Ay.Fn}{rd:Option Nat}{a:C}{k:Nat}{vars:List V}{Q:E->List V->H->Prop}(J:List V->H->Prop)(h1:Wp p rd (.loop a) vars h (λe v h'=>e= .exit k/\J v h'))(h2: ∀v h',J v h'->Q .norm v h'):Wp p rd (.loop a) vars h (tS k Q):=
 h1.mono λe v h' x=>by
  obtain⟨rfl,x⟩:=x;rw[xX];exact h2 v h' x
theorem eX.ge {sz id off b:Nat}{ws:List V}(o:eX h v sz ws b)(hn:ws.length=n*sz)(hz:0<sz)(s:Sl v sz n id off)(h0:0<n):b<=id:=by
 have hx:=s.ixa .i64 0 (by omega) (by omega);rcases o.sv with ⟨_,rfl⟩|⟨id',off',len,cap,ro,vs,e,h2,_⟩
 ·have:=Nat.mul_pos h0 hz
  simp at hn;omega
 ·have h3:=(o.in _ _ _ _ e).2.1
  subst e
  have hl:0<len:=by
   have:=Nat.mul_pos h0 hz;refine Nat.pos_of_ne_zero λe0=>?_
   subst e0;simp at h2;rw[h2] at hn;simp at hn;omega
  rw[yQ (by omega) (by omega)] at hx;simp only[Option.some.injEq,V.ptr.injEq] at hx;omega
theorem KF (hG:tL n G)(E:fN G L)(hi:i<L.length)(hr: ¬Yi G L i)(j:Nat):Ck G L i [] j=Ck G L (i+1) [] j:=by
 obtain⟨i0,h0,hc⟩: ∃j,j<i/\cR G L j i:=Kt λhn=>hr λj hj hc=>hn ⟨j,hj,hc⟩
 rw[Bool.eq_iff_iff,mM,mM];constructor
 ·rintro (⟨i1,h1,h2⟩|h)
  ·exact .inl ⟨i1,by omega,h2⟩
  ·cases h
 ·rintro (⟨i1,h1,h2⟩|h)
  ·by_cases e:i1=i
   ·subst e;exact .inl ⟨i0,h0,uU hG E (by omega) hc h2⟩
   ·exact .inl ⟨i1,by omega,h2⟩
  ·cases h
theorem IP {S:LN}(hG:tL n G)(E:fN G L)(hi:i<L.length)(b:BQ G L S i Q Q.length)(hS: ∀s∈S,G s)(hgen: ∀x,G x->eQ n (λg=>g∈S) x)(hj:j<L.length):Ck G L i Q j=Ck G L (i+1) [] j:=by
 rw[Bool.eq_iff_iff,mM,mM];constructor
 ·rintro (⟨i1,h1,h2⟩|h)
  ·exact .inl ⟨i1,by omega,h2⟩
  ·exact .inl ⟨i,by omega,(b.mem j h).2⟩
 ·rintro (⟨i1,h1,h2⟩|h)
  ·by_cases e:i1=i
   ·subst e;exact .inr ((b.done hG E (iL _) hi hS hgen j).2 ⟨hj,h2⟩)
   ·exact .inl ⟨i1,by omega,h2⟩
  ·cases h
theorem AJ (hc:v.cells= [v])(ho:v.one=true)(x y:Int):vN [.aC,aA 0,aA 0] [(0,1,v),(1,1,aA x),(2,1,aA y)]=some (.agg [v,aA x,aA y]):=by
 simp [vN,iZ,putAt,hc,ho,show ∀z,(aA z).cells= [aA z] from λ_=>rfl,show ∀z,(aA z).one=true from λ_=>rfl]
theorem DJ {w:V}(ho:v.one=true)(hc':w.cells= [w])(ho':w.one=true)(x y:Int):vN [.aC,aA 0,aA 0,.aC] [(0,3,.agg [v,aA x,aA y]),(3,1,w)]=some (.agg [v,aA x,aA y,w]):=by
 simp [vN,iZ,putAt,hc',ho,ho',show ∀l,(V.agg l).cells=l from λ_=>rfl,show ∀z,(aA z).one=true from λ_=>rfl]
theorem BM {w:V}(ho:v.one=true)(ho':w.one=true)(x y:Int)(h:H):qS h 4 [.aC,aA 0,aA 0,.aC] 1 [(0,4,.agg [v,aA x,aA y,w])]=some (.sl h.next 0 1 (.kn 1),h.new (.cells false [v,aA x,aA y,w])):=by
 have e:dK [V.aC,aA 0,aA 0,.aC] 4= [V.aC,aA 0,aA 0,.aC]:=rfl;simp [qS,iZ,putAt,e,ho,ho',show ∀l,(V.agg l).cells=l from λ_=>rfl,show ∀z,(aA z).one=true from λ_=>rfl]
theorem yP (k:Nat):(jS G L k).length<=k:=by
 classical
 unfold jS;exact Nat.le_trans (List.length_filter_le _ _) (by rw[List.length_range];exact iL _)
theorem Md (ks:List Cls.KE):(Cls.pJ ks).length=ks.length*4:=by
 induction ks with
 |nil=>rfl
 |cons a r ih=>
  show (a.enc++Cls.pJ r).length=_;rw[pQ,ih,List.length_cons];show 4+_=_;omega
theorem DL {a b c d:V}(hh:H)(id:Nat)(y:V):fJ (some (.cells false [a,b,c,d])) hh id 2 [y]=some (hh.set id (some (.cells false [a,b,y,d]))):=by
 simp [fJ,putAt]
theorem XH {sz:Nat}{ws:List V}(s:SV h v sz ws):BZ (λq=>h.next<=q) v:=by
 cases v with
 |sl id off len cap=>exact λh2=>by have:=s.in _ _ _ _ rfl;omega
 |_=>trivial
structure KO (n:Nat)(G:List Nat->Prop)(L:LN)(X:Nat)(W:Nat->Prop)(hh:H)(a:Cls.KE)(r:Nat):Prop where
 fst:a.fst=r
 ord:a.ord=jR (L.getD r []) n
 size:a.size=(iP G L r).length
 rep:PV (λq=>X<=q) hh a.rep (L.getD r [])
 ranks:PV W hh a.ranks (iP G L r)
theorem KO.go {X:Nat}{W W':Nat->Prop}{h':H}{a:Cls.KE}{r:Nat}(k:KO n G L X W h a r)(f:Fx W h h')(hx:X<=h.next)(hW: ∀q,W q->X<=q)(hw: ∀q,q<h.next->W' q->W q):KO n G L X W' h' a r:=
 ⟨k.fst,k.ord,k.size,k.rep.fx ⟨f.next,λq h1 h2=>f.get q h1 λh3=>h2 (hW q h3)⟩,PV.go k.ranks f hw⟩
structure ZZ (n:Nat)(G:List Nat->Prop)(L:LN)(X D:Nat)(vL:V)(h5:H)(i:Nat)(hh:H):Prop where
 ex: ∃vK ks W,hh.get (X+8)=some (.cells false [vL,.mp (X+3),vK,.sl (X+6) 0 L.length (.kn L.length)])/\eX hh vK 4 (Cls.pJ ks) (D+1)/\cF (KO n G L X W hh) ks (jS G L i)/\Ji W vK/\W D/\W (X+8)/\W (X+6)/\(∀q,W q->q<hh.next)/\(∀q,W q->X<=q)/\(ks= []∨ ∃id cap,vK= .sl id 0 ks.length cap/\hh.get id=some (.cells false (Cls.pJ ks)))
 gD:hh.get D=some (.cells false (rc L.length λj=> .bool (Ck G L i [] j)))
 old:Fx (λq=>q=X+8∨D<=q) h5 hh
 nx:D<hh.next
def FY (n:Nat):C->Bool
 | .block k _=>k==n
 | .seq _ b=>FY n b
 |_=>false
def Mx (n:Nat):C->C
 | .seq a b=>if FY n a then b else Mx n b
 |c=>c
structure OfE (n:Nat)(G:List Nat->Prop)(L:LN)(X D:Nat)(vL:V)(h h2 h5 h7:H):Prop where
 el:fN G L
 le:L.length<=5040
 f2:Fr h h2
 x2:h2.next=X
 sp:SP h2 vL L
 f25:Fr h2 h5
 xD:X+10<=D
 n5:h5.next=D
 gM:h5.get (X+3)=some (.wmap .str (Rw L L.length))
 gN:h5.get (X+6)=some (.cells false (rc L.length λ_=> aA 0))
 j:ZZ n G L X D vL h5 L.length h7
theorem SH {W0:Nat->Prop}(vc:V)(n:Nat)(O:LN)(R:oQ)(G:List Nat->Prop)(h:H)(gc:GC W0 h vc n O R G)(P:V->H->Prop)
  (hk: ∀L X D vL h2 h5 h7 A (g:Nat->V),cV O R n 0 (bZ n)=L->OfE n G L X D vL h h2 h5 h7->Wp T none (Mx 2 gT.body) ([g 0,.ptr A 0,.nilp,aA 0,vL,g 5,.ptr (X+8) 0,g 7,g 8,g 9,g 10,g 11,g 12,g 13,g 14,g 15,g 16,g 17,g 18,g 19,g 20,g 21,g 22,g 23,g 24,g 25,g 26,g 27,g 28,g 29,g 30,g 31,g 32,g 33,g 34,g 35,g 36,g 37,g 38,g 39,g 40,g 41,g 42,g 43,g 44,g 45]) h7 (ME gT.results P)):
  Ev T 56 [vc] h P:=by
 obtain⟨vO,vR,e,sO,sR⟩:=gc.ch
 subst e
 refine bL gT rfl rfl ?_
 have oneO:vO.one=true:=Tt sO
 have oneR:vR.one=true:=Tq sR
 obtain⟨A,hA⟩:=exI h.next
 obtain⟨h1,e1,n1,g1,o1,f1⟩:=iD hA [aA n,vO,vR]
 have bx:=dB h (v:= aA n) (u:=vO) (w:=vR) rfl oneO oneR
 have rB:=bB g1
 obtain⟨L,hL⟩:=exI (cV O R n 0 (bZ n))
 obtain⟨E,ll⟩:=jH gc.kY gc.isc
 have ll5:=mK gc
 rw[hL] at E ll
 have hG:=gc.kY
 have n7:=gc.n7
 have n0:=gc.n0
 simp(disch:=omega)only[go_sem,gT,aE,bx,hA,e1,rB]
 refine (Xo _ n O R G h1 (gc.mono f1)).mono ?_
 rw[hL]
 rintro _ h2 ⟨vL,rfl,nw⟩
 obtain⟨wL,W,owL,pvL,bkL,W1⟩:=nw.ex
 have hwL:=cF.length pvL
 obtain⟨m,hm⟩:=exI L.length
 rw[hm] at hwL
 have lvL:=eX.lens owL hwL
 have oneL:=owL.sv.dZ.2.1
 have f2:=nw.fr
 simp(disch:=omega)only[go_sem,lvL]
 refine aW (λhc=>(hc rfl).elim) (λ_=>?_)
 obtain⟨X,hX⟩:=exI h2.next
 simp(disch:=omega)only[go_sem,lvL,lU _ m (by omega),hX,CC owL.sv.dZ.1 oneL,CG oneL]
 obtain⟨h3,h3e⟩: ∃h3:H,h3=H.mk ((H.mk ((H.mk ((H.mk h2.tr (X+3)).new (Ob.wmap vE.str [])).tr (X+6)).new (Ob.cells false (rc m λ_=>aA 0))).tr (X+8)).new (Ob.cells false [vL,.mp (X+3),.aC,.sl (X+6) 0 m (.kn m)])).tr (X+10):=⟨_,rfl⟩
 rw[←h3e]
 have n3:h3.next=X+10:=by rw[h3e]
 have gB:h3.get (X+8)=some (.cells false [vL,.mp (X+3),.aC,.sl (X+6) 0 m (.kn m)]):=by rw[h3e];exact H.aL (H.mk _ (X+8)) _
 have gN:h3.get (X+6)=some (.cells false (rc m λ_=>aA 0)):=by
  rw[h3e];exact (H.aY (H.mk _ (X+8)) (show X+6≠X+8 by omega) _).trans (H.aL (H.mk _ (X+6)) _)
 have gM:h3.get (X+3)=some (.wmap .str (Rw L 0)):=by
  rw[h3e];exact (H.aY (H.mk _ (X+8)) (show X+3≠X+8 by omega) _).trans ((H.aY (H.mk _ (X+6)) (show X+3≠X+6 by omega) _).trans (H.aL (H.mk _ (X+3)) _))
 have f3:Fr h2 h3:=⟨by omega,λq hq=>by
  rw[h3e]
  exact (H.aY (H.mk _ (X+8)) (show q≠X+8 by omega) _).trans ((H.aY (H.mk _ (X+6)) (show q≠X+6 by omega) _).trans (H.aY (H.mk _ (X+3)) (show q≠X+3 by omega) _))⟩
 clear h3e
 have lt64: ∀i,i<m->(L.getD i []).length<=1000/\ ∀x∈L.getD i [],x<256:=λi hi=>by
  have P:=mD hG E (show i<L.length by omega);exact⟨by rw[P.len];omega,λx hx=>by have:=P.lt x hx;omega⟩
 obtain⟨idL,offL,shL,hidL,hcL⟩:=SV.shape owL.sv m (by omega) (by omega)
 have hLa: ∀i,i<m-> ∃vx,(∀h',Fr h2 h'->h'.cell idL (offL+i)=some vx)/\SI h2 vx (zi (L.getD i [])):=λi hi=>by
  obtain⟨v,h1,h2'⟩:=kB.at pvL (i:=i) (by omega);exact⟨v,λh' f=>by rw[f.cell (hidL (by omega)),hcL i (by omega),h1],h2'.si⟩
 have hK: ∀i,i<m->isKey .str (.str (L.getD i []))=true:=λi hi=>Wu (lt64 i hi).1 (lt64 i hi).2
 refine cU (λvs hh=>(∃g:Nat->V,vs= [g 0,.ptr A 0,.nilp,aA 0,vL,g 5,.ptr (X+8) 0,g 7,g 8,g 9,g 10,g 11,g 12,g 13,g 14,g 15,g 16,g 17,g 18,g 19,g 20,g 21,g 22,g 23,g 24,g 25,g 26,g 27,g 28,g 29,g 30,g 31,g 32,g 33,g 34,g 35,g 36,g 37,g 38,g 39,g 40,g 41,g 42,g 43,g 44,g 45])/\hh.get (X+3)=some (.wmap .str (Rw L m))/\Fx (· =X+3) h3 hh) ?_ ?_
 ·refine aJ (λk' vs hh=> ∃(i:Nat),(∃g:Nat->V,vs= [g 0,.ptr A 0,.nilp,aA 0,vL,g 5,.ptr (X+8) 0,g 7,g 8,g 9,g 10,g 11,g 12,g 13,g 14,g 15,g 16,g 17,g 18,g 19,g 20,g 21,g 22,vL,aA m,aA i,g 26,g 27,g 28,g 29,g 30,g 31,g 32,g 33,g 34,g 35,g 36,g 37,g 38,g 39,g 40,g 41,g 42,g 43,g 44,g 45])/\i<=m/\hh.get (X+3)=some (.wmap .str (Rw L i))/\Fx (· =X+3) h3 hh/\k'=m-i) m
   ⟨0,aB rfl,lW _,gM,Fx.refl _ h3,rfl⟩ ?_
  rintro k' vars h4 ⟨i,⟨g,rfl⟩,hi,gM4,F4,rfl⟩
  by_cases hlt:(i:Int)<(m:Int)
  case neg=>
   have d4:=kU hlt;obtain rfl:i=m:=by omega
   simp(disch:=omega)only[go_sem,d4];exact⟨aB rfl,gM4,F4⟩
  have d4:=oD hlt
  have hi':i<m:=by omega
  have f24:Fr h2 h4:=⟨by have:=F4.next;omega,λq hq=>by rw[F4.get q (by omega) (by omega)];exact f3.get q hq⟩
  have gB4:h4.get (X+8)=some (.cells false [vL,.mp (X+3),.aC,.sl (X+6) 0 m (.kn m)]):=by rw[F4.get _ (by omega) (by omega)];exact gB
  obtain⟨vx,cx,sx⟩:=hLa i hi'
  have cB2:h4.cell (X+8) 1=some (.mp (X+3)):=by rw[H.aF gB4];rfl
  simp(disch:=omega)only[go_sem,d4,shL.ixa,cx h4 f24,cB2]
  refine (Yj vx (L.getD i []) _ (lt64 i hi').1 (lt64 i hi').2 (sx.mono (f24.trans ((Fr.refl h4).bM (by omega))))).mono ?_
  rintro _ h5 ⟨rfl,f5⟩
  have f45:Fr h4 h5:=((Fr.refl h4).bM (by omega)).trans f5
  have n4:=F4.next
  have gM5:h5.get (X+3)=some (.wmap .str (Rw L i)):=by rw[f45.get _ (by omega)];exact gM4
  have cB5:h5.cell (X+8) 1=some (.mp (X+3)):=by rw[f45.cell (by omega)];exact cB2
  have pt:=λhh=>GB E.nodup (show i<L.length by omega) (hK i hi') hh (X+3)
  simp(disch:=omega)only[go_sem,cB5,gM5,pt]
  rw[jP i]
  refine⟨by simp [eP],m-(i+1),by omega,i+1,aB rfl,by omega,rfl,⟨by have:=f45.next;show h3.next<=h5.next;omega,λq h1 h2=>by rw[H.aH _ (λe=>h2 e),f45.get q (by omega)];exact F4.get q h1 h2⟩,rfl⟩
 rintro vars h4 ⟨⟨g,rfl⟩,gM4,F4⟩
 have n4:=F4.next
 have f24:Fr h2 h4:=⟨by omega,λq hq=>by rw[F4.get q (by omega) (by omega)];exact f3.get q hq⟩
 have gB4:h4.get (X+8)=some (.cells false [vL,.mp (X+3),.aC,.sl (X+6) 0 m (.kn m)]):=by rw[F4.get _ (by omega) (by omega)];exact gB
 have gN4:h4.get (X+6)=some (.cells false (rc m λ_=>aA 0)):=by rw[F4.get _ (by omega) (by omega)];exact gN
 have f14:=f2.trans f24
 have rA:=bB (h:=h4) (id:=A) (ro:=false) (by rw[f14.get _ (by omega)];exact g1)
 simp(disch:=omega)only[go_sem,rA]
 refine (CU _ n O R G h4 (gc.mono (f1.trans f14))).mono ?_
 rintro _ h5 ⟨vS,rfl,nS⟩
 have f5:=nS.fr
 obtain⟨D,hD⟩:=exI h5.next
 obtain⟨h6,e6,n6,g6,o6,f6⟩:=iD hD (rc m λ_=>V.bool false)
 simp(disch:=omega)only[go_sem,lvL,AH,hD,e6]
 have f25:=f24.trans f5
 have hX5:=f25.next
 have n5:=f5.next
 obtain⟨wS,WS,owS,pvS,bkS,WS1⟩:=nS.ex
 obtain⟨S,hS⟩:=exI (fZ R)
 rw[hS] at pvS
 have hwS:=cF.length pvS
 have hSG: ∀s∈S,G s:=λs hs=>Jj gc.isc (by rw[hS];exact hs)
 have hSgen: ∀x,G x->eQ n (λg=>g∈S) x:=λx hx=>by rw[←hS];exact Up hG gc.isc hx
 obtain⟨sl,hsl⟩:=exI S.length
 have hsl7:sl<=49:=by
  have h1: ∀j,j<R.length->(R.getD j []).length<=n:=λj hj=>by
   have hj':j<n:=by rw[←gc.isc.lr];exact hj
   rw[gc.isc.rl j hj'];have:=yH (λx hx=>hG.fI hx) hj' (gc.isc.asc j hj') (gc.isc.mem j hj');omega
  have h2:=Ad (n:=n) (R:=R) (iL _) h1;rw[List.take_length,hS,hsl,gc.isc.lr] at h2;have:n*n<=7*7:=Nat.mul_le_mul n7 n7;omega
 have lvS:=eX.lens owS (hwS.trans hsl)
 obtain⟨idS,offS,shS,hidS,hcS⟩:=SV.shape owS.sv sl (by omega) (by omega)
 have geS:=eX.ge owS (n:=sl) (by omega) (by omega) shS
 have hSa: ∀t,t<sl-> ∃vy,(∀hh,Fx (λq=>q=X+8∨D<=q) h5 hh->hh.cell idS (offS+t)=some vy)/\PV (λq=>q=X+8∨D<=q) h5 vy (S.getD t []):=λt ht=>by
  obtain⟨v,h1,h2'⟩:=kB.at pvS (i:=t) (by omega);have hi:=hidS (by omega);have hge:h4.next<=idS:=geS (by omega);refine⟨v,λhh f=>?_,h2'.sK λid hid hw=>WS1 id ?_⟩
  ·have e:hh.get idS=h5.get idS:=f.get idS hi (by omega)
   unfold H.cell;rw[e];have:=hcS t (by omega);rw[h1] at this;exact this
  ·rcases hw with e|e
   ·omega
   ·omega
 have J0:ZZ n G L X D vL h5 0 h6:=
  ⟨⟨.aC, [],λq=>q=D∨q=X+8∨q=X+6,by rw[f6.get _ (by omega),f5.get _ (by omega),hm];exact gB4,eX.aC _ _ _,trivial,λ_ _ _ _ e=>(by cases e),.inl rfl,.inr (.inl rfl),.inr (.inr rfl),λq h=>by rcases h with h|h|h<;>omega,λq h=>by rcases h with h|h|h<;>omega,.inl rfl⟩,
   by rw[g6,hm,show (λj=>V.bool (Ck G L 0 [] j))=λ_=>V.bool false from funext λj=>by rw[NG]],Fx.of f6,by omega⟩
 refine cU (λvs hh=>(∃g:Nat->V,vs= [g 0,.ptr A 0,.nilp,aA 0,vL,g 5,.ptr (X+8) 0,g 7,g 8,g 9,g 10,g 11,g 12,g 13,g 14,g 15,g 16,g 17,g 18,g 19,g 20,g 21,g 22,g 23,g 24,g 25,g 26,g 27,g 28,g 29,g 30,g 31,g 32,g 33,g 34,g 35,g 36,g 37,g 38,g 39,g 40,g 41,g 42,g 43,g 44,g 45])/\ZZ n G L X D vL h5 m hh) ?_ ?_
 ·refine aJ (λk' vs hh=> ∃(i:Nat),(∃g:Nat->V,vs= [g 0,.ptr A 0,.nilp,aA 0,vL,g 5,.ptr (X+8) 0,g 7,g 8,vS,.sl D 0 m (.kn m),g 11,g 12,g 13,g 14,g 15,g 16,g 17,g 18,g 19,g 20,g 21,g 22,g 23,g 24,g 25,g 26,vL,aA m,aA i,g 30,g 31,g 32,g 33,g 34,g 35,g 36,g 37,g 38,g 39,g 40,g 41,g 42,g 43,g 44,g 45])/\i<=m/\ZZ n G L X D vL h5 i hh/\k'=m-i) m
   ⟨0,aB rfl,lW _,J0,rfl⟩ ?_
  clear J0
  rintro k' vars h7 ⟨i,⟨g,rfl⟩,hi,J,rfl⟩
  by_cases hlt:(i:Int)<(m:Int)
  case neg=>
   have d4:=kU hlt;obtain rfl:i=m:=by omega
   simp(disch:=omega)only[go_sem,d4];exact⟨aB rfl,J⟩
  have d4:=oD hlt
  have hi':i<m:=by omega
  have nD:=J.nx
  have f27:Fr h2 h7:=⟨by omega,λq hq=>by rw[J.old.get q (by omega) (by omega)];exact f25.get q hq⟩
  obtain⟨vx,cx,sx⟩:=hLa i hi'
  have cD:=yN J.gD (i:=i) (by omega)
  by_cases hr:Yi G L i
  case neg=>
   have hsn:Ck G L i [] i=true:=by
    rw[mM];exact .inl (Kt λhn=>hr λj hj hc=>hn ⟨j,hj,hc⟩)
   rw[hsn] at cD;simp(disch:=omega)only[go_sem,d4,shL.ixa,cx h7 f27,cD];rw[jP i];refine⟨m-(i+1),by omega,i+1,aB rfl,by omega,?_,rfl⟩;refine⟨?_,?_,J.old,J.nx⟩
   ·rw[(Hp i).2 hr];exact J.ex
   ·rw[J.gD,bH λj _=>by rw[KF hG E (show i<L.length by omega) hr j]]
  have hsn:Ck G L i [] i=false:=by
   rw[←Bool.not_eq_true,mM];rintro (⟨j,hj,hc⟩|h)
   ·exact hr j hj hc
   ·cases h
  rw[hsn] at cD
  obtain⟨h8,e8,n8,g8,o8⟩:=Ju h7 D ((rc L.length λj=> .bool (Ck G L i [] j)).set i (.bool true))
  obtain⟨Z,hZ⟩:=exI h8.next
  obtain⟨h9,e9,n9,g9,o9,f9⟩:=iD hZ [aA i]
  have pt:=aZ (vs:=rc L.length λj=> .bool (Ck G L i [] j)) (off:=i) (by rw[dX];omega)
  clear bx gc sO sR rB rA hcL gN4 gB4 g1 o1 f1 f3 gB gN gM
  simp(disch:=omega)only[go_sem,d4,shL.ixa,cx h7 f27,cD,J.gD,pt,e8,dO h8 (z:= aA 0) (v:= aA i) rfl rfl,hZ,e9]
  have hZ7:h7.next=Z:=by omega
  have hc0:(rc L.length λj=>V.bool (Ck G L i [] j)).set i (.bool true)=rc L.length λj=> .bool (Ck G L i [i] j):=by
   rw[jL]
   exact bH λj _=>by
    rw[show [i]= []++ [i] from rfl,Ri]
    by_cases e:j=i
    ·rw[if_pos e,if_pos e]
    ·rw[if_neg e,if_neg e]
  have F79:Fx (· =D) h7 h9:=⟨by omega,λq h1 h2=>by rw[o9 q (by omega),o8 q h2]⟩
  have B0:BQ G L S i [i] 0:=⟨by simp,by simp,rfl,λj hj=>by
   obtain rfl:j=i:=by simpa using hj
   exact⟨by omega,Fo hG E (by omega)⟩,λk hk=>by omega⟩
  refine cU (λvs hh=> ∃(Q:List Nat) (q:Nat) (cp:pY),(∃g:Nat->V,vs= [g 0,.ptr A 0,.nilp,aA 0,vL,g 5,.ptr (X+8) 0,g 7,g 8,vS,.sl D 0 m (.kn m),aA i,vx,.sl q 0 Q.length cp,g 14,g 15,g 16,g 17,g 18,g 19,g 20,g 21,g 22,g 23,g 24,g 25,g 26,vL,aA m,aA i,g 30,g 31,g 32,g 33,g 34,g 35,g 36,g 37,g 38,g 39,g 40,g 41,g 42,g 43,g 44,g 45])/\
    BQ G L S i Q Q.length/\(cp= .un 1∨cp= .kn Q.length)/\hh.get q=some (.cells false (ints (zi Q)))/\Z<=q/\q<hh.next/\hh.get D=some (.cells false (rc L.length λj=> .bool (Ck G L i Q j)))/\Fx (· =D) h7 hh) ?_ ?_
  ·refine aJ (λk' vs hh=> ∃(Q:List Nat) (q:Nat) (cp:pY) (p:Nat),(∃g:Nat->V,vs= [g 0,.ptr A 0,.nilp,aA 0,vL,g 5,.ptr (X+8) 0,g 7,g 8,vS,.sl D 0 m (.kn m),aA i,vx,.sl q 0 Q.length cp,aA p,g 15,g 16,g 17,g 18,g 19,g 20,g 21,g 22,g 23,g 24,g 25,g 26,vL,aA m,aA i,g 30,g 31,g 32,g 33,g 34,g 35,g 36,g 37,g 38,g 39,g 40,g 41,g 42,g 43,g 44,g 45])/\
    p<=Q.length/\BQ G L S i Q p/\(cp= .un 1∨cp= .kn Q.length)/\hh.get q=some (.cells false (ints (zi Q)))/\Z<=q/\q<hh.next/\hh.get D=some (.cells false (rc L.length λj=> .bool (Ck G L i Q j)))/\Fx (· =D) h7 hh/\k'=m-p) m
    ⟨[i],Z,_,0,aB rfl,lW _,B0,.inr rfl,g9,iL _,by omega,by rw[o9 _ (by omega),g8,hc0],F79,rfl⟩ ?_
   clear F79 B0 e8 n8 g8 o8 hZ e9 n9 g9 o9 f9 pt hc0
   rintro k' vars ha ⟨Q,q,cp,p,⟨g2,rfl⟩,hp,BQ0,hcp,gq,hq,nq,gD,Fa,rfl⟩
   have hQl:=BQ0.len
   by_cases hpl:(p:Int)<(Q.length:Int)
   case neg=>
    have d5:decide ((p:Int)<(Q.length:Int))=false:=decide_eq_false hpl;obtain rfl:p=Q.length:=by omega
    simp(disch:=omega)only[go_sem,d5];exact⟨Q,q,cp,aB rfl,BQ0,hcp,gq,hq,nq,gD,Fa⟩
   have d5:decide ((p:Int)<(Q.length:Int))=true:=decide_eq_true hpl
   have hp':p<Q.length:=by omega
   simp(disch:=omega)only[go_sem,d5,lvS]
   obtain⟨c,hc⟩:=exI (Q.getD p 0)
   obtain⟨hcm,hcc⟩:=BQ0.mem c (by rw[←hc];exact bI hp')
   have Cp:=mD hG E hcm
   refine Bt (λvs hh=> ∃(Q:List Nat) (q:Nat) (cp:pY),(∃g:Nat->V,vs= [g 0,.ptr A 0,.nilp,aA 0,vL,g 5,.ptr (X+8) 0,g 7,g 8,vS,.sl D 0 m (.kn m),aA i,vx,.sl q 0 Q.length cp,aA p,g 15,g 16,g 17,g 18,g 19,g 20,g 21,g 22,g 23,g 24,g 25,g 26,vL,aA m,aA i,g 30,g 31,g 32,g 33,g 34,g 35,g 36,g 37,g 38,g 39,g 40,g 41,g 42,g 43,g 44,g 45])/\
     p<Q.length/\BQ G L S i Q (p+1)/\(cp= .un 1∨cp= .kn Q.length)/\hh.get q=some (.cells false (ints (zi Q)))/\Z<=q/\q<hh.next/\hh.get D=some (.cells false (rc L.length λj=> .bool (Ck G L i Q j)))/\Fx (· =D) h7 hh) ?_ ?_
   ·refine aJ (λk' vs hh=> ∃(Q:List Nat) (q:Nat) (cp:pY) (t:Nat),(∃g:Nat->V,vs= [g 0,.ptr A 0,.nilp,aA 0,vL,g 5,.ptr (X+8) 0,g 7,g 8,vS,.sl D 0 m (.kn m),aA i,vx,.sl q 0 Q.length cp,aA p,g 15,g 16,g 17,g 18,g 19,g 20,g 21,g 22,g 23,g 24,g 25,g 26,vL,aA m,aA i,g 30,g 31,g 32,vS,aA sl,aA t,g 36,g 37,g 38,g 39,g 40,g 41,g 42,g 43,g 44,g 45])/\
     p<Q.length/\t<=sl/\BQ G L S i Q p/\Q.getD p 0=c/\(∀s∈S.take t,∃j∈Q,L.getD j []=oG (L.getD c []) s)/\(cp= .un 1∨cp= .kn Q.length)/\hh.get q=some (.cells false (ints (zi Q)))/\Z<=q/\q<hh.next/\hh.get D=some (.cells false (rc L.length λj=> .bool (Ck G L i Q j)))/\Fx (· =D) h7 hh/\k'=sl-t) sl
     ⟨Q,q,cp,0,aB rfl,hp',lW _,BQ0,hc,λs hs=>(by simp at hs),hcp,gq,hq,nq,gD,Fa,rfl⟩ ?_
    clear BQ0 hcp gq hq nq gD Fa hc hp' hQl hpl d5 hp
    clear Q q cp
    rintro k' vars hb ⟨Q,q,cp,t,⟨g3,rfl⟩,hp',ht,BQ0,hc,hcl,hcp,gq,hq,nq,gD,Fb,rfl⟩
    by_cases htl:(t:Int)<(sl:Int)
    case neg=>
     have d5:decide ((t:Int)<(sl:Int))=false:=decide_eq_false htl;obtain rfl:t=sl:=by omega
     simp(disch:=omega)only[go_sem,d5];refine⟨Q,q,cp,aB rfl,hp',⟨BQ0.nd,BQ0.ne,BQ0.hd,BQ0.mem,λk hk s hs=>?_⟩,hcp,gq,hq,nq,gD,Fb⟩
     by_cases e:k=p
     ·subst e
      rw[hc];exact hcl s (by rw[←hsl,List.take_length];exact hs)
     ·exact BQ0.cl k (by omega) s hs
    have d5:decide ((t:Int)<(sl:Int))=true:=decide_eq_true htl
    have ht':t<sl:=by omega
    have hQl:=BQ0.len
    have nb:=Fb.next
    have FBb:Fx (λq=>q=X+8∨D<=q) h5 hb:=⟨by have:=J.old.next;omega,λq h1 h2=>by rw[Fb.get q (by omega) (λe=>h2 (.inr (by have:q=D:=e;omega)))];exact J.old.get q h1 h2⟩
    have f2b:Fr h2 hb:=⟨by omega,λq hq=>by rw[Fb.get q (by omega) (λe=>by have:q=D:=e;omega)];exact f27.get q hq⟩
    obtain⟨vy,cy,py⟩:=hSa t ht'
    obtain⟨vz,cz,sz⟩:=hLa c (by omega)
    obtain⟨s,hs⟩:=exI (S.getD t [])
    rw[hs] at py
    have hsS:s∈S:=by rw[←hs];exact bI (by omega)
    have Sp:=hG.fI (hSG s hsS)
    have cq:hb.cell q p=some (aA c):=by rw[H.aF gq,Dm hp',hc]
    simp(disch:=omega)only[go_sem,d5,shS.ixa,cy hb FBb,cq,shL.ixa,cz hb f2b]
    refine (Nk (rfl:T 85=some lV) vy n s _ (by omega) Sp ((py.fx FBb).si.mono ((Fr.refl hb).bM (by omega)))).mono ?_
    rintro v47 k1 np1
    have K1:Fr hb k1:=((Fr.refl hb).bM (by omega)).trans np1.fr
    have cq1:k1.cell q p=some (aA c):=by rw[K1.cell nq];exact cq
    have ez:=sz.eP
    simp(disch:=omega)only[go_sem,cq1,cz k1 (f2b.trans K1),ez]
    refine (Qa v47 vz (dI s) (L.getD c []) k1 (by rw[kW,Sp.len];omega) (np1.pv (W:=λ_=>False) id).si (sz.mono (f2b.trans K1)) (λj hj=>by rw[Cp.len];exact Sp.inv.fW (by rw[←Sp.inv.len];exact hj))).mono ?_
    rintro v55 k2 np2
    have K2:=K1.trans np2.fr
    have P2:=Sp.inv.mul Cp
    simp(disch:=omega)only[go_sem]
    refine (Qa v55 vy _ s k2 (by rw[P2.len];omega) (np2.pv (W:=λ_=>False) id).si ((py.fx FBb).si.mono K2) (λj hj=>by rw[Sp.len];exact P2.fW (by rw[←P2.len];exact hj))).mono ?_
    rintro v57 k3 np3
    have K3:=K2.trans np3.fr
    have P3:=P2.mul Sp
    have cq3:k3.cell q p=some (aA c):=by rw[K3.cell nq];exact cq
    have s57:=(np3.pv (W:=λ_=>False) id).si
    have o57:=s57.dZ.2.1
    have gB3: ∃vK,k3.get (X+8)=some (.cells false [vL,.mp (X+3),vK,.sl (X+6) 0 L.length (.kn L.length)]):=by
     obtain⟨vK,_,_,gB,_⟩:=J.ex;exact⟨vK,by rw[K3.get _ (by omega),Fb.get _ (by omega) (λe=>by have:X+8=D:=e;omega)];exact gB⟩
    obtain⟨vK,gB3⟩:=gB3
    have cB3:k3.cell (X+8) 1=some (.mp (X+3)):=by rw[H.aF gB3];rfl
    obtain⟨j,hj,ej⟩: ∃j,j<L.length/\L.getD j []=oG (L.getD c []) s:=by
     have hm2:oG (L.getD c []) s∈L:=(E.mem _).2 (hG.mul (hG.mul (hG.inv (hSG s hsS)) (Dk E hcm)) (hSG s hsS));obtain⟨j,hj,ej⟩:=Fg.1 hm2;exact⟨j,hj,by rw[List.getD,iI hj,←ej];rfl⟩
    have e57:aV (aV (dI s) (L.getD c [])) s=L.getD j []:=ej.symm
    rw[e57] at s57
    simp(disch:=omega)only[go_sem,cq3,cz k3 (f2b.trans K3),cB3,ez]
    refine (Yj v57 (L.getD j []) _ (lt64 j (by omega)).1 (lt64 j (by omega)).2 (s57.mono ((Fr.refl k3).bM (by omega)))).mono ?_
    rintro _ k4 ⟨rfl,f4'⟩
    have K34:Fr k3 k4:=((Fr.refl k3).bM (by omega)).trans f4'
    have K4:=K3.trans K34
    have n3k:=K3.next
    have gM4k:k4.get (X+3)=some (.wmap .str (Rw L L.length)):=by
     rw[K4.get _ (by omega),Fb.get _ (by omega) (λe=>by have:X+3=D:=e;omega),J.old.get _ (by omega) (by omega),f5.get _ (by omega),hm];exact gM4
    have cB4:k4.cell (X+8) 1=some (.mp (X+3)):=by rw[K34.cell (by omega)];exact cB3
    have lk:=λz=>HS E.nodup hj (hK j (by omega)) z
    have cDj:k4.cell D j=some (.bool (Ck G L i Q j)):=by rw[K4.cell (by omega)];exact yN gD hj
    have hij:cR G L i j:=uU hG E (by omega) hcc ⟨s,hSG s hsS,ej.symm⟩
    have etk:S.take (t+1)=S.take t++ [s]:=by rw[iN [] (by omega),hs]
    have gq4:k4.get q=some (.cells false (ints (zi Q))):=by rw[K4.get _ nq];exact gq
    have gD4:k4.get D=some (.cells false (rc L.length λj=> .bool (Ck G L i Q j))):=by rw[K4.get _ (by omega)];exact gD
    have F4k:Fx (· =D) h7 k4:=⟨by have:=K4.next;omega,λq h1 h2=>by rw[K4.get q (by omega)];exact Fb.get q h1 h2⟩
    cases hsn2:Ck G L i Q j with
    |true=>
     rw[hsn2] at cDj
     have hjQ:j∈Q:=by
      rcases mM.1 hsn2 with ⟨i0,h1,h2'⟩|h1
      ·exact absurd (uU hG E (by omega) h2' (Fy hG E (by omega) hij)) (hr i0 h1)
      ·exact h1
     simp(disch:=omega)only[go_sem,cB4,gM4k,lk,cDj];rw[jP t];refine⟨by simp [eP],sl-(t+1),by omega,Q,q,cp,t+1,aB rfl,hp',by omega,BQ0,hc,?_,hcp,gq4,hq,by have:=K4.next;omega,gD4,F4k,rfl⟩;rw[etk];intro s' hs';rcases Ka.1 hs' with h1|h1
     ·exact hcl s' h1
     ·obtain rfl:s'=s:=by simpa using h1
      exact⟨j,hjQ,ej⟩
    |false=>
     rw[hsn2] at cDj;have hjQ:j∉Q:=λh1=>by rw[mM.2 (.inr h1)] at hsn2;cases hsn2
     obtain⟨k5,e5,m5,g5,o5⟩:=Ju k4 D ((rc L.length λj=> .bool (Ck G L i Q j)).set j (.bool true));obtain⟨Y,hY⟩:=exI k5.next;obtain⟨k6,e6',m6,g6',o6',f6'⟩:=iD hY [aA j];have pt:=aZ (vs:=rc L.length λj=> .bool (Ck G L i Q j)) (off:=j) (by rw[dX];exact hj);have nk:=K4.next;have gq6:k6.get q=some (.cells false (ints (zi Q))):=by rw[o6' _ (by omega),o5 _ (by omega)];exact gq4
     have ow6:eX k6 (.sl q 0 Q.length cp) 1 (ints (zi Q)) 0:= .inr ⟨q,Q.length,cp, [],rfl,by rw[aM,aS];simp,by rcases hcp with h1|h1;exact .inl h1;exact .inr ⟨h1,rfl⟩,lW _,by omega,by rw[List.append_nil];exact gq6⟩;obtain⟨k7,a7,p7⟩:=ow6.push (bytes:=8) (SV.one (v:= aA j) (id:=Y) (by omega) g6' (.kn 1)) (n:=Q.length) (m:=1) (by rw[aM,aS];simp) rfl (by omega) (by omega) (by omega);simp(disch:=omega)only[go_sem,cB4,gM4k,lk,cDj,gD4,pt,e5,dO k5 (z:= aA 0) (v:= aA j) rfl rfl,hY,e6',a7];rw[jP t];have el:ints (zi (Q++ [j]))=ints (zi Q)++ [aA j]:=by simp [zi,ints]
     have m7:=p7.next;have apD:dS (.sl q 0 Q.length cp) D:=λid off n c e e2=>by cases e;omega
     have hc0:(rc L.length λj'=>V.bool (Ck G L i Q j')).set j (.bool true)=rc L.length λj'=> .bool (Ck G L i (Q++ [j]) j'):=by
      rw[jL]
      exact bH λj' _=>by
       rw[Ri]
       by_cases e:j'=j
       ·rw[if_pos e,if_pos e]
       ·rw[if_neg e,if_neg e]
     refine⟨by simp [eP],sl-(t+1),by omega,Q++ [j],k6.next,.un 1,t+1,by rw[pQ];exact aB rfl,by rw[pQ];omega,by omega,⟨?_,by rw[pQ];simp,?_,?_,?_⟩,?_,?_,.inl rfl,by rw[el];exact p7.get,by omega,by omega,?_,?_,rfl⟩
     ·rw[List.nodup_append]
      exact⟨BQ0.nd,by simp,λx hx y hy e=>by
       obtain rfl:y=j:=by simpa using hy
       exact hjQ (e▸hx)⟩
     ·rw[List.getD,Jt BQ0.ne];exact BQ0.hd
     ·intro x hx
      rcases Ka.1 hx with h1|h1
      ·exact BQ0.mem x h1
      ·obtain rfl:x=j:=by simpa using h1
       exact⟨hj,hij⟩
     ·intro k hk s' hs'
      obtain⟨y,hy,ey⟩:=BQ0.cl k hk s' hs';refine⟨y,Ka.2 (.inl hy),?_⟩;rw[ey,List.getD,List.getD,List.getD,List.getD,Jt (by omega)]
     ·rw[List.getD,Jt hp'];exact hc
     ·rw[etk]
      intro s' hs';rcases Ka.1 hs' with h1|h1
      ·obtain⟨y,hy,ey⟩:=hcl s' h1
       exact⟨y,Ka.2 (.inl hy),ey⟩
      ·obtain rfl:s'=s:=by simpa using h1
       exact⟨j,Ka.2 (.inr (by simp)),ej⟩
     ·rw[p7.old D (by omega) apD,o6' D (by omega),g5,hc0]
     ·refine⟨by omega,λx h1 h2=>?_⟩
      rw[p7.old x (by omega) (λid off n c e e2=>by cases e;omega),o6' x (by omega),o5 x h2];exact F4k.get x h1 h2
   clear BQ0 hcp gq hq nq gD Fa hc hpl d5 hp hp' hQl
   clear Q q cp
   rintro vars hb ⟨Q,q,cp,⟨g3,rfl⟩,hp',BQ1,hcp,gq,hq,nq,gD,Fb⟩
   have hQl:=BQ1.len
   simp(disch:=omega)only[go_sem]
   rw[jP p]
   exact⟨m-(p+1),by omega,Q,q,cp,p+1,aB rfl,by omega,BQ1,hcp,gq,hq,nq,gD,Fb,rfl⟩
  clear F79 B0 e8 n8 g8 o8 hZ e9 n9 g9 o9 f9 pt hc0
  rintro vars hb ⟨Q,q,cp,⟨g3,rfl⟩,BQ1,hcp,gq,hq,nq,gD,Fb⟩
  have hQl:=BQ1.len
  have nb:=Fb.next
  have srt:=Nv hb q (zi Q) cp (by rw[aS];omega) gq nq
  rw[aS] at srt
  simp(disch:=omega)only[go_sem]
  refine srt.mono ?_
  rintro _ ka ⟨l',gl,pl,al,Fa⟩
  obtain rfl:=BQ1.sort hG E (iL _) (by omega) hSG hSgen pl al
  have hQo:Q.length=(iP G L i).length:=by have:=pl.length_eq;rw[aS,aS] at this;exact this.symm
  have na:=Fa.next
  have f2a:Fr h2 ka:=⟨by omega,λx hx=>by rw[Fa.get x (by omega) (λe=>by have:x=q:=e;omega),Fb.get x (by omega) (λe=>by have:x=D:=e;omega)];exact f27.get x hx⟩
  have X1:=mD hG E (show i<L.length by omega)
  simp(disch:=omega)only[go_sem]
  refine (Sr vx n (L.getD i []) ka n0 n7 X1 (sx.mono f2a)).mono ?_
  rintro _ kb ⟨rfl,fb⟩
  have nkb:=fb.next
  obtain⟨vK,ks,WK,gB,owK,aK,bK,wD,wB,wN,wn,wX,_⟩:=J.ex
  have hks:=cF.length aK
  have gBb:kb.get (X+8)=some (.cells false [vL,.mp (X+3),vK,.sl (X+6) 0 L.length (.kn L.length)]):=by
   rw[fb.get _ (by omega),Fa.get _ (by omega) (λe=>by have:X+8=q:=e;omega),Fb.get _ (by omega) (λe=>by have:X+8=D:=e;omega)];exact gB
  have cB2:kb.cell (X+8) 2=some vK:=by rw[H.aF gBb];rfl
  have owx:=sx.dZ.2.1
  have eKo:=owK.sv.eP
  obtain⟨Y,hY⟩:=exI kb.next
  obtain⟨kc,ec,mc,gc',oc,fc⟩:=iD hY [vx,aA (jR (L.getD i []) n:Nat),aA (Q.length:Int),.sl q 0 Q.length cp]
  have old7: ∀x,x<Z->x≠D->kc.get x=h7.get x:=λx h1 h2=>by
   rw[oc x (by omega),fb.get x (by omega),Fa.get x (by omega) (λe=>by have:x=q:=e;omega),Fb.get x (by omega) h2]
  have owKc:eX kc vK 4 (Cls.pJ ks) (D+1):=owK.mono (by omega) λid off n' c e h1 h2=>old7 id (by omega) (by omega)
  have lr:=yP (G:=G) (L:=L) i
  obtain⟨kd,ad,pd⟩:=owKc.push (bytes:=64) (y:= .sl Y 0 1 (.kn 1)) (us:= [vx,aA (jR (L.getD i []) n:Nat),aA (Q.length:Int),.sl q 0 Q.length cp]) (SV.all rfl (by omega) gc' _) (n:=ks.length) (m:=1) (Md ks) rfl (by omega) (by omega) (by omega)
  have md:=pd.next
  have apB:dS vK (X+8):=λid off n' c e e2=>by have:=(owK.in _ _ _ _ e).2.1;omega
  have gBd:kd.get (X+8)=some (.cells false [vL,.mp (X+3),vK,.sl (X+6) 0 L.length (.kn L.length)]):=by
   rw[pd.old _ (by omega) apB,oc _ (by omega)];exact gBb
  obtain⟨ke,ee,me,ge,oe⟩:=Ju kd (X+8) [vL,.mp (X+3),.sl kc.next 0 (ks.length+1) (.un 4),.sl (X+6) 0 L.length (.kn L.length)]
  simp(disch:=omega)only[go_sem,cB2,AJ sx.dZ.1 owx,DJ owx (w:= .sl q 0 Q.length cp) rfl rfl,BM owx (w:= .sl q 0 Q.length cp) rfl,hY,ec,ad,gBd,DL,ee]
  rw[jP i]
  have dPV: ∀x,x<Z-> ¬WK x->ke.get x=h7.get x:=λx h1 h2=>by
   rw[oe x (λe=>h2 (e▸wB)),pd.old x (by omega) (λid off n' c e e2=>h2 (e2▸bK _ _ _ _ e)),old7 x h1 (λe=>h2 (e▸wD))]
  have FK:Fx WK h7 ke:=⟨by omega,λx h1 h2=>dPV x (by omega) h2⟩
  have f2e:Fr h2 ke:=⟨by omega,λx hx=>by rw[dPV x (by omega) (λh1=>by have:=wX x h1;omega)];exact f27.get x hx⟩
  have e1k:Cls.pJ (ks++ [⟨vx,jR (L.getD i []) n,Q.length,.sl q 0 Q.length cp,i,⟨sx.dZ.1,owx,sx.eP⟩,⟨rfl,rfl,by simp [eP]⟩⟩])=Cls.pJ ks++ [vx,aA (jR (L.getD i []) n:Nat),aA (Q.length:Int),.sl q 0 Q.length cp]:=by
   simp [Cls.pJ,Cls.KE.enc]
  refine⟨m-(i+1),by omega,i+1,aB rfl,by omega,⟨⟨_,ks++ [⟨vx,jR (L.getD i []) n,Q.length,.sl q 0 Q.length cp,i,⟨sx.dZ.1,owx,sx.eP⟩,⟨rfl,rfl,by simp [eP]⟩⟩],λx=>WK x∨x=kc.next,ge,?_,?_,λid off n' c e=>by cases e;exact .inr rfl,   .inl wD,.inl wB,.inl wN,λx h=>by rcases h with h|h;have:=wn x h;omega;omega,λx h=>by rcases h with h|h;exact wX x h;omega,.inr ⟨_,_,by rw[pQ];rfl,?_⟩⟩,?_,?_,by omega⟩,rfl⟩
  ·rw[e1k]
   exact (pd.own (b:=D+1) (Md ks) rfl (by omega)).mono (by omega) λid off n' c e h1 h2=>by cases e;exact oe _ (by omega)
  ·rw[(Hp i).1 hr]
   refine cF.append (aK.mono λa r k=>k.go FK (by omega) wX λx h1 h2=>by rcases h2 with h2|h2;exact h2;omega) ⟨⟨rfl,rfl,hQo,⟨sx.mono f2e,?_⟩,⟨?_,?_⟩⟩,trivial⟩
   ·rw[←hX];exact XH sx
   ·rw[hQo]
    refine SV.all (ro:=false) (by rw[aM,aS,Nat.mul_one]) (by omega) ?_ _
    rw[oe q (by omega),pd.old q (by omega) (λid off n' c e e2=>by have:=wn _ (bK _ _ _ _ e);omega),oc q (by omega),fb.get q (by omega)]
    exact gl
   ·exact λh=>by rcases h with h|h;have:=wn _ h;omega;omega
  ·rw[e1k,oe _ (by omega)];exact pd.get
  ·rw[oe D (by omega),pd.old D (by omega) (λid off n' c e e2=>by have:=(owK.in _ _ _ _ e).2.1;omega),oc D (by omega),fb.get D (by omega),Fa.get D (by omega) (λe=>by have:D=q:=e;omega),gD,bH λj hj=>by rw[IP hG E (show i<L.length by omega) BQ1 hSG hSgen hj]]
  ·refine⟨by have:=J.old.next;omega,λx h1 h2=>?_⟩
   have hx8:x≠X+8:=λe=>h2 (.inl e)
   have hxD:x<D:=by omega
   rw[oe x hx8,pd.old x (by omega) (λid off n' c e e2=>by have:=(owK.in _ _ _ _ e).2.1;omega),old7 x (by omega) (by omega)]
   exact J.old.get x h1 h2
 rintro vars h7 ⟨⟨g,rfl⟩,J⟩
 exact hk L X D vL h2 h5 h7 A g hL ⟨E,by omega,f1.trans f2,hX,nw.sp,f25,by omega,hD,by rw[f5.get _ (by omega),hm];exact gM4,by rw[f5.get _ (by omega),hm];exact gN4,by rw[hm];exact J⟩
end
open Classical in
noncomputable def jC (G:List Nat->Prop)(L:LN)(K:List Nat)(j:Nat):Nat:=K.findIdx λr=>decide (cR G L r j)
structure KR (n:Nat)(G:List Nat->Prop)(L:LN)(hh:H)(a:Cls.KE)(r:Nat):Prop where
 fst:a.fst=r
 ord:a.ord=jR (L.getD r []) n
 size:a.size=(iP G L r).length
 rep:SI hh a.rep (zi (L.getD r []))
 ranks:SI hh a.ranks (zi (iP G L r))
theorem KR.mono {n:Nat}{G:List Nat->Prop}{L:LN}{h h':H}{a:Cls.KE}{r:Nat}(k:KR n G L h a r)(f:Fr h h'):KR n G L h' a r:=⟨k.fst,k.ord,k.size,k.rep.mono f,k.ranks.mono f⟩
def TV (n:Nat)(G:List Nat->Prop)(L:LN)(r s:Nat):Prop:=jR (L.getD r []) n<jR (L.getD s []) n∨jR (L.getD r []) n=jR (L.getD s []) n/\((iP G L r).length<(iP G L s).length∨(iP G L r).length=(iP G L s).length/\r<s)
structure Bs (n:Nat)(G:List Nat->Prop)(L:LN)(K:List Nat):Prop where
 perm:K.Perm (jS G L L.length)
 asc:K.Pairwise (TV n G L)
structure SG (n:Nat)(G:List Nat->Prop)(L:LN)(K:List Nat)(hh:H)(v:V):Prop where
 ex: ∃B M N S cp vL ks,v= .ptr B 0/\B<hh.next/\M<hh.next/\N<hh.next/\S<hh.next/\hh.get B=some (.cells false [vL,.mp M,.sl S 0 K.length cp,.sl N 0 L.length (.kn L.length)])/\
  hh.get M=some (.wmap .str (Rw L L.length))/\hh.get N=some (.cells false (rc L.length λj=> aA (jC G L K j:Nat)))/\hh.get S=some (.cells false (Cls.pJ ks))/\cF (KR n G L hh) ks K/\SP hh vL L
theorem SG.mono {n:Nat}{G:List Nat->Prop}{L:LN}{K:List Nat}{h h':H}{v:V}(g:SG n G L K h v)(f:Fr h h'):SG n G L K h' v:=by
 obtain⟨B,M,N,S,cp,vL,ks,e,hB,hM,hN,hS,gB,gM,gN,gS,a,sp⟩:=g.ex;have n1:=f.next;exact⟨B,M,N,S,cp,vL,ks,e,by omega,by omega,by omega,by omega,by rw[f.get _ hB];exact gB,by rw[f.get _ hM];exact gM,by rw[f.get _ hN];exact gN,by rw[f.get _ hS];exact gS,a.mono λ_ _ k=>k.mono f,sp.mono f⟩
section
variable {n:Nat} {G:List Nat->Prop} {L:LN} {K:List Nat} (hG:tL n G) (E:fN G L)
include hG E
omit hG E in
theorem Is (h0:0<L.length):0∈jS G L L.length:=qX.2 ⟨h0,λj hj=>by omega⟩
theorem Xp (pK:K.Perm (jS G L L.length)){k:Nat}(hk:k<K.length){j:Nat}(hj:j∈iP G L (K.getD k 0)):jC G L K j=k:=by
 classical
 obtain⟨hjl,hc⟩:=nI.1 hj;have hnd:K.Nodup:=pK.nodup_iff.2 (by unfold jS;exact List.Pairwise.filter _ List.nodup_range);have hK: ∀r∈K,r<L.length/\Yi G L r:=λr hr=>qX.1 (pK.mem_iff.1 hr)
 unfold jC;rw[List.findIdx_eq hk];have ek:K.getD k 0=K[k]:=Pm.cT hk;rw[ek] at hc;refine⟨by simpa using hc,λi hi=>?_⟩;simp only[decide_eq_false_iff_not];intro hc2;have h1:=hK K[i] (List.getElem_mem _);have h2:=hK K[k] (List.getElem_mem _);have:=FJ hG E h1.1 h2.1 h1.2 h2.2 hc2 hc;have hne:=List.pairwise_iff_getElem.1 hnd i k (by omega) hk hi;exact hne this
theorem Mq (pK:K.Perm (jS G L L.length)){j:Nat}(hj:j<L.length): ∃k,k<K.length/\j∈iP G L (K.getD k 0):=by
 obtain⟨r,h1,h2,h3⟩:=YD hG E hj;have hr:r∈K:=pK.mem_iff.2 (qX.2 ⟨by omega,h2⟩);obtain⟨k,hk,ek⟩:=Fg.1 hr;exact⟨k,hk,nI.2 ⟨hj,by rw[Pm.cT hk,ek];exact h3⟩⟩
end
open Classical in
noncomputable def Ki (G:List Nat->Prop)(L:LN)(K:List Nat)(k t j:Nat):Nat:=if (∃k0,k0<k/\j∈iP G L (K.getD k0 0))∨j∈(iP G L (K.getD k 0)).take t then jC G L K j else 0
theorem LR (G:List Nat->Prop)(L:LN)(K:List Nat)(j:Nat):Ki G L K 0 0 j=0:=by
 classical
 unfold Ki;rw[if_neg];rintro (⟨k0,h,_⟩|h)
 ·omega
 ·simp at h
theorem NU (G:List Nat->Prop)(L:LN)(K:List Nat)(k j:Nat):Ki G L K k (iP G L (K.getD k 0)).length j=Ki G L K (k+1) 0 j:=by
 classical
 unfold Ki;rw[List.take_length,List.take_zero]
 have e:((∃k0,k0<k/\j∈iP G L (K.getD k0 0))∨j∈iP G L (K.getD k 0))↔((∃k0,k0<k+1/\j∈iP G L (K.getD k0 0))∨j∈([]:List Nat)):=by
  constructor
  ·rintro (⟨k0,h1,h2⟩|h)
   ·exact .inl ⟨k0,by omega,h2⟩
   ·exact .inl ⟨k,by omega,h⟩
  ·rintro (⟨k0,h1,h2⟩|h)
   ·by_cases e:k0=k
    ·subst e;exact .inr h2
    ·exact .inl ⟨k0,by omega,h2⟩
   ·cases h
 by_cases h:((∃k0,k0<k/\j∈iP G L (K.getD k0 0))∨j∈iP G L (K.getD k 0))
 ·rw[if_pos h,if_pos (e.1 h)]
 ·rw[if_neg h,if_neg (λx=>h (e.2 x))]
theorem LF {n:Nat}{G:List Nat->Prop}{L:LN}{K:List Nat}(hG:tL n G)(E:fN G L)(pK:K.Perm (jS G L L.length)){k:Nat}(hk:k<K.length){t:Nat}(ht:t<(iP G L (K.getD k 0)).length)(j:Nat):
  Ki G L K k (t+1) j=if j=(iP G L (K.getD k 0)).getD t 0 then k else Ki G L K k t j:=by
 classical
 by_cases e:j=(iP G L (K.getD k 0)).getD t 0
 ·rw[if_pos e]
  have hj:j∈iP G L (K.getD k 0):=by rw[e];exact bI ht
  unfold Ki
  rw[if_pos (.inr (by rw[iN 0 ht,e];simp))]
  exact Xp hG E pK hk hj
 ·rw[if_neg e]
  unfold Ki
  rw[iN 0 ht]
  simp only[Ka,List.mem_singleton,e,or_false]
theorem NP {n:Nat}{G:List Nat->Prop}{L:LN}{K:List Nat}(hG:tL n G)(E:fN G L)(pK:K.Perm (jS G L L.length)){j:Nat}(hj:j<L.length):Ki G L K K.length 0 j=jC G L K j:=by
 classical
 obtain⟨k,h1,h2⟩:=Mq hG E pK hj;unfold Ki;rw[if_pos (.inl ⟨k,h1,h2⟩)]
theorem Dw {h:H}{S:Nat}{ro:Bool}: ∀{ks:List Cls.KE} {pre:List V},h.get S=some (.cells ro (pre++Cls.pJ ks))-> ∀{i:Nat} (hi:i<ks.length),h.row S (pre.length+i*4) 4=some ks[i].enc
 | [],_,_,_,hi=>by simp at hi
 |a::r,pre,g,0,_=>by
  unfold H.row;rw[g];show sub (pre++(a.enc++Cls.pJ r)) (pre.length+0*4) 4=some a.enc;simp only[sub,Nat.zero_mul,Nat.add_zero];have:a.enc.length=4:=rfl;rw[if_pos (by rw[pQ,pQ];omega),List.drop_left,List.take_append,List.take_of_length_le (by omega),this];simp
 |a::r,pre,g,i+1,hi=>by
  have g':h.get S=some (.cells ro ((pre++a.enc)++Cls.pJ r)):=by rw[g,List.append_assoc];rfl
  have:=Dw g' (i:=i) (by simpa using hi);rw[pQ,show a.enc.length=4 from rfl] at this;rw[show pre.length+(i+1)*4=pre.length+4+i*4 by omega];simpa using this
theorem KJ (h:H)(id off:Nat)(a:Cls.KE):AD h 4 (.ptr id off) (.agg a.enc)=fJ (h.get id) h id off a.enc:=yE h id off 4 _ rfl (by simp [Cls.KE.enc,a.hrep.2.1,a.hranks.2.1,show (aA (a.ord:Int)).one=true from rfl,show (aA (a.size:Int)).one=true from rfl])
theorem JT (hh:H)(id:Nat)(a:Cls.KE)(x y z w:V):fJ (some (.cells false [x,y,z,w])) hh id 0 a.enc=some (hh.set id (some (.cells false a.enc))):=by
 simp [fJ,putAt,Cls.KE.enc]
theorem cF.ex {α β:Type}{R:α->β->Prop}{as:List α}{bs:List β}(h:cF R as bs){a:α}(ha:a∈as): ∃b∈bs,R a b:=by
 obtain⟨i,hi,rfl⟩:=Fg.1 ha;have hl:=cF.length h;exact⟨bs[i]'(by omega),List.getElem_mem _,cF.get h i hi (by omega)⟩
theorem SI.lit {h:H}{v:V}{l:List Int}(s:SI h v l)(hl:0<l.length): ∃id off m cap,v= .sl id off (m+1) cap/\m+1=l.length/\id<h.next/\ ∀i,i<l.length->h.cell id (off+i)=some (aA (l.getD i 0)):=by
 obtain⟨id,off,sh,hid,hc⟩:=s.open;rcases s with ⟨_,h0⟩|⟨id',off',len,cap,ro,vs,e,h2,h3,_⟩
 ·have:l.length=0:=by rw[←aM,h0];rfl
  omega
 ·rw[aM,Nat.mul_one] at h2
  have hx:=sh.ixa .i64 0 (by omega) (by omega);subst e;rw[yQ (by omega) (by omega)] at hx;simp only[Option.some.injEq,V.ptr.injEq] at hx;obtain⟨rfl,h5⟩:=hx;have h6:off'=off:=by omega
  subst h6;exact⟨id',off',l.length- 1,cap,by rw[show l.length- 1+1=len by omega],by omega,h3,hc⟩
theorem UB {W0:Nat->Prop}(vc:V)(n:Nat)(O:LN)(R:oQ)(G:List Nat->Prop)(h:H)(gc:GC W0 h vc n O R G):
  Ev T 56 [vc] h (λv h'=> ∃p K,v= .tup [p,aA 0]/\SG n G (cV O R n 0 (bZ n)) K h' p/\Bs n G (cV O R n 0 (bZ n)) K/\Fr h h'):=by
 refine SH vc n O R G h gc _ λL X D vL h2 h5 h7 A g hL e=>?_
 rw[hL]
 have hG:=gc.kY
 have E:=e.el
 obtain⟨vK,ks,WK,gB,owK,aK,bK,wD,wB,wN,wn,wX,xK⟩:=e.j.ex
 have hks:=cF.length aK
 obtain⟨m,hm⟩:=exI L.length
 have h0:0<L.length:=List.length_pos_of_mem ((E.mem _).2 hG.one)
 have hk0:0<ks.length:=by rw[hks];exact List.length_pos_of_mem (Is h0)
 obtain⟨S,cp,rfl,gS⟩: ∃id cap,vK= .sl id 0 ks.length cap/\h7.get id=some (.cells false (Cls.pJ ks)):=by
  rcases xK with h1|h1
  ·subst h1;simp at hk0
  ·exact h1
 have wS:=bK _ _ _ _ rfl
 have nS:=wn _ wS
 have cB2:h7.cell (X+8) 2=some (.sl S 0 ks.length cp):=by rw[H.aF gB];rfl
 show Wp T none (Mx 2 gT.body) _ h7 _
 simp(disch:=omega)only[go_sem,Mx,FY,gT,cB2]
 have hR: ∀r∈jS G L L.length,r<L.length/\Yi G L r:=λr hr=>qX.1 hr
 have hPp: ∀a∈ks,a.Pp h7 h7.next S:=λa ha=>by
  obtain⟨r,hr,k⟩:=cF.ex aK ha;obtain⟨hrl,hri⟩:=hR r hr;obtain⟨l1,l2⟩:=Ml hG E hrl hri;obtain⟨id,off,m',cap,e1,e2,e3,e4⟩:=SI.lit k.ranks.si (by rw[aS];exact l1);have ho:=k.ranks.off;rw[e1] at ho;refine⟨id,off,m',cap,e1,e3,λh1=>ho (h1▸wS),?_⟩;have:=e4 0 (by rw[aS];exact l1);rw[Nat.add_zero] at this;rw[this,zi,nT _ (d:=0) l1,l2,k.fst]
 refine (Cls.MI h7 S h7.next ks cp (by rw[hks];have:=yP (G:=G) (L:=L) L.length;have:=e.le;omega) gS nS (iL _) hPp).mono ?_
 rintro _ h8 ⟨ks',gS8,pm,srt,F8⟩
 obtain⟨K,hK⟩:=exI (ks'.map (λa:Cls.KE=>a.fst))
 have hlK:K.length=ks.length:=by rw[←hK,sQ];exact pm.length_eq
 have hkr:ks.map (λa:Cls.KE=>a.fst)=jS G L L.length:=by
  refine List.ext_getElem (by rw[sQ];exact hks) λi h1 h2=>?_
  rw[List.getElem_map];exact (cF.get aK i (by simpa using h1) h2).fst
 have pK:K.Perm (jS G L L.length):=by rw[←hK,←hkr];exact pm.map _
 have kK: ∀a∈ks',KO n G L X WK h7 a a.fst:=λa ha=>by
  obtain⟨r,hr,k⟩:=cF.ex aK (pm.mem_iff.1 ha);rw[k.fst];exact k
 have FK:Fx WK h7 h8:=⟨F8.next,λq h1 h2=>F8.get q h1 λh3=>h2 (by have:q=S:=h3;rw[this];exact wS)⟩
 have kK8: ∀a∈ks',KO n G L X WK h8 a a.fst:=λa ha=>(kK a ha).go FK (by have:=wX S wS;omega) wX λ_ _ h1=>h1
 have hSD:=(owK.in _ _ _ _ rfl).2.1
 have xD:=e.xD
 have n8:=F8.next
 have gB8:h8.get (X+8)=some (.cells false [vL,.mp (X+3),.sl S 0 ks.length cp,.sl (X+6) 0 L.length (.kn L.length)]):=by
  rw[F8.get _ (wn _ wB) (λh1=>by have:X+8=S:=h1;omega)];exact gB
 have cB8:h8.cell (X+8) 2=some (.sl S 0 ks.length cp):=by rw[H.aF gB8];rfl
 have gN7:h7.get (X+6)=some (.cells false (rc L.length λ_=> aA 0)):=by
  rw[e.j.old.get _ (by rw[e.n5];omega) (by omega)];exact e.gN
 have gN8:h8.get (X+6)=some (.cells false (rc L.length λj=> aA (Ki G L K 0 0 j:Nat))):=by
  rw[F8.get _ (wn _ wN) (λh1=>by have:X+6=S:=h1;omega),gN7,show (λj=>aA (Ki G L K 0 0 j:Nat))=λ_=>aA 0 from funext λj=>by rw[LR];rfl]
 have hKk: ∀k,k<K.length-> ∃a,ks'[k]? =some a/\KO n G L X WK h8 a (K.getD k 0):=λk hk=>by
  have hk':k<ks'.length:=by rw[pm.length_eq,←hlK];exact hk
  refine⟨ks'[k],iI hk',?_⟩;have:=kK8 _ (List.getElem_mem hk');have e2:K.getD k 0=(ks'[k]).fst:=by rw[Pm.cT hk];subst hK;rw[List.getElem_map]
  rw[e2];exact this
 have le:=e.le
 have hKle:K.length<=L.length:=by rw[hlK,hks];exact yP _
 have nN:=wn _ wN
 rw[←hlK] at cB8 gB8
 simp(disch:=omega)only[go_sem,cB8]
 refine cU (λvs hh=>(∃g:Nat->V,vs= [g 0,g 1,.nilp,aA 0,g 4,g 5,.ptr (X+8) 0,g 7,g 8,g 9,g 10,g 11,g 12,g 13,g 14,g 15,g 16,g 17,g 18,g 19,g 20,g 21,g 22,g 23,g 24,g 25,g 26,g 27,g 28,g 29,g 30,g 31,g 32,g 33,g 34,g 35,g 36,g 37,g 38,g 39,g 40,g 41,g 42,g 43,g 44,g 45])/\hh.get (X+6)=some (.cells false (rc L.length λj=> aA (Ki G L K K.length 0 j:Nat)))/\Fx (· =X+6) h8 hh) ?_ ?_
 ·refine aJ (λk' vs hh=> ∃(k:Nat),(∃g:Nat->V,vs= [g 0,g 1,.nilp,aA 0,g 4,g 5,.ptr (X+8) 0,g 7,g 8,g 9,g 10,g 11,g 12,g 13,g 14,g 15,g 16,g 17,g 18,g 19,g 20,g 21,g 22,g 23,g 24,g 25,g 26,g 27,g 28,g 29,g 30,g 31,g 32,g 33,g 34,g 35,g 36,g 37,.sl S 0 K.length cp,aA (K.length:Int),aA k,g 41,g 42,g 43,g 44,g 45])/\k<=K.length/\hh.get (X+6)=some (.cells false (rc L.length λj=> aA (Ki G L K k 0 j:Nat)))/\Fx (· =X+6) h8 hh/\k'=K.length-k) K.length
   ⟨0,aB rfl,lW _,gN8,Fx.refl _ _,rfl⟩ ?_
  rintro k' vars h9 ⟨k,⟨g,rfl⟩,hk,gN9,F9,rfl⟩
  have n9:=F9.next
  by_cases hlt:(k:Int)<(K.length:Int)
  case neg=>
   have d4:=kU hlt;obtain rfl:k=K.length:=by omega
   simp(disch:=omega)only[go_sem,d4];exact⟨aB rfl,gN9,F9⟩
  have d4:=oD hlt
  have hk':k<K.length:=by omega
  obtain⟨a,ea,ko⟩:=hKk k hk'
  have hkl:k<ks'.length:=by rw[pm.length_eq,←hlK];exact hk'
  have ea':ks'[k]=a:=by rw[iI hkl] at ea;simpa using ea
  have gS9:h9.get S=some (.cells false (Cls.pJ ks')):=by rw[F9.get _ (by omega) (λh1=>by have:S=X+6:=h1;omega)];exact gS8
  have rw9:h9.row S (k*4) 4=some a.enc:=by
   have:=Dw (pre:= []) (by simpa using gS9) hkl;rw[ea'] at this;simpa using this
  obtain⟨Y,hY⟩:=exI h9.next
  obtain⟨ha,eha,na,ga,oa,fa⟩:=iD hY [.aC,aA 0,aA 0,.aC]
  obtain⟨hb,ehb,nb,gb,ob⟩:=Ju ha Y a.enc
  have cb3:hb.cell Y 3=some a.ranks:=by rw[H.aF gb];rfl
  have lr:=ko.ranks.si.lens
  rw[aS] at lr
  obtain⟨r,hr⟩:=exI (K.getD k 0)
  rw[hr] at ko lr
  simp(disch:=omega)only[go_sem,d4,rw9,hY,eha,KJ,ga,JT,ehb,cb3,lr]
  have hrK:r∈jS G L L.length:=by rw[←hr];exact pK.mem_iff.1 (bI hk')
  obtain⟨hrl,hri⟩:=hR r hrK
  obtain⟨l1,l2⟩:=Ml hG E hrl hri
  obtain⟨idR,offR,mR,capR,e1,e2,e3,e4⟩:=SI.lit ko.ranks.si (by rw[aS];exact l1)
  have ho:=ko.ranks.off
  rw[e1] at ho
  have hRN:idR≠X+6:=λh1=>ho (h1▸wN)
  obtain⟨c,hc⟩:=exI ((iP G L r).length)
  rw[aS,hc] at e2 e4
  have hcl:c<=L.length:=by
   rw[←hc];have:=List.Nodup.length_le_of_subset (Hb (G:=G) (L:=L) r) (l₂:=List.range L.length) λj hj=>Na.2 (nI.1 hj).1
   rwa [List.length_range] at this
  rw[hc,e1]
  have Fb:Fx (· =X+6) h8 hb:=⟨by omega,λq h1 h2=>by rw[ob q (by omega),oa q (by omega)];exact F9.get q h1 h2⟩
  have gNb:hb.get (X+6)=some (.cells false (rc L.length λj=> aA (Ki G L K k 0 j:Nat))):=by rw[ob _ (by omega),oa _ (by omega)];exact gN9
  have gBb: ∀hh,Fx (· =X+6) h8 hh->hh.cell (X+8) 3=some (.sl (X+6) 0 L.length (.kn L.length)):=λhh f=>by
   have:hh.get (X+8)=h8.get (X+8):=f.get _ (by have:=wn _ wB;omega) (by omega);rw[H.aF (this.trans gB8)];rfl
  refine Bt (λvs hh=>(∃g:Nat->V,vs= [g 0,g 1,.nilp,aA 0,g 4,g 5,.ptr (X+8) 0,g 7,g 8,g 9,g 10,g 11,g 12,g 13,g 14,g 15,g 16,g 17,g 18,g 19,g 20,g 21,g 22,g 23,g 24,g 25,g 26,g 27,g 28,g 29,g 30,g 31,g 32,g 33,g 34,g 35,g 36,g 37,.sl S 0 K.length cp,aA (K.length:Int),aA k,g 41,g 42,g 43,g 44,g 45])/\hh.get (X+6)=some (.cells false (rc L.length λj=> aA (Ki G L K (k+1) 0 j:Nat)))/\Fx (· =X+6) h8 hh) ?_ ?_
  ·refine aJ (λk' vs hh=> ∃(t:Nat),(∃g:Nat->V,vs= [g 0,g 1,.nilp,aA 0,g 4,g 5,.ptr (X+8) 0,g 7,g 8,g 9,g 10,g 11,g 12,g 13,g 14,g 15,g 16,g 17,g 18,aA k,g 20,g 21,g 22,g 23,g 24,g 25,g 26,g 27,g 28,g 29,g 30,g 31,g 32,g 33,g 34,g 35,g 36,g 37,.sl S 0 K.length cp,aA (K.length:Int),aA k,g 41,.sl idR offR (mR+1) capR,aA c,aA t,g 45])/\t<=c/\hh.get (X+6)=some (.cells false (rc L.length λj=> aA (Ki G L K k t j:Nat)))/\Fx (· =X+6) h8 hh/\k'=c-t) c
    ⟨0,aB rfl,lW _,gNb,Fb,rfl⟩ ?_
   clear gNb Fb gb ob cb3 nb ehb ga oa fa na eha rw9 gN9 F9 n9
   rintro k' vars hc' ⟨t,⟨g2,rfl⟩,ht,gNc,Fc,rfl⟩
   by_cases htl:(t:Int)<(c:Int)
   case neg=>
    have d5:decide ((t:Int)<(c:Int))=false:=decide_eq_false htl;obtain rfl:t=c:=by omega
    simp(disch:=omega)only[go_sem,d5];refine⟨aB rfl,?_,Fc⟩;rw[gNc,show (λj=>aA (Ki G L K k t j:Nat))=λj=>aA (Ki G L K (k+1) 0 j:Nat) from funext λj=>by rw[←NU,hr,hc]]
   have d5:decide ((t:Int)<(c:Int))=true:=decide_eq_true htl
   have ht':t<c:=by omega
   obtain⟨x,hx⟩:=exI ((iP G L r).getD t 0)
   have hxl:x<L.length:=by rw[←hx];exact (nI.1 (bI (by omega))).1
   have cR':hc'.cell idR (offR+t)=some (aA x):=by
    have e5:=e4 t ht';unfold H.cell at e5 ⊢;rw[Fc.get idR e3 hRN,e5,zi,nT _ (d:=0) (by omega),hx]
   have pt:=aZ (vs:=rc L.length λj=> aA (Ki G L K k t j:Nat)) (off:=x) (by rw[dX];exact hxl)
   have tl:(t:Int).toNat=t:=rfl
   simp(disch:=omega)only[go_sem,d5,cR',gBb hc' Fc,gNc,pt]
   rw[jP t]
   refine⟨c-(t+1),by omega,t+1,aB rfl,by omega,?_,⟨Fc.next,λq h1 h2=>by rw[H.aH _ h2];exact Fc.get q h1 h2⟩,rfl⟩
   rw[jL,bH λj hj=>?_]
   rw[LF hG E pK hk' (by rw[hr];omega),hr,hx]
   by_cases ej:j=x
   ·rw[if_pos ej,if_pos ej]
   ·rw[if_neg ej,if_neg ej]
  rintro vars hd ⟨⟨g2,rfl⟩,gNd,Fd⟩
  simp(disch:=omega)only[go_sem]
  rw[jP k]
  exact⟨K.length-(k+1),by omega,k+1,aB rfl,by omega,gNd,Fd,rfl⟩
 rintro vars h9 ⟨⟨g,rfl⟩,gN9,F9⟩
 have n9:=F9.next
 simp(disch:=omega)only[go_sem]
 have n2:=e.x2
 have o9: ∀q,q<D->q≠X+8->q≠X+6->h9.get q=h5.get q:=λq h1 h2 h3=>by
  rw[F9.get q (by have:=e.j.nx;omega) h3,F8.get q (by have:=e.j.nx;omega) (λh4=>by have:q=S:=h4;omega),e.j.old.get q (by rw[e.n5];exact h1) (λh4=>by rcases h4 with h4|h4;exact h2 h4;omega)]
 have nx:=e.j.nx
 have f29:Fr h2 h9:=⟨by omega,λq hq=>by rw[o9 q (by omega) (by omega) (by omega)];exact e.f25.get q hq⟩
 have F89:Fx WK h8 h9:=⟨F9.next,λq h1 h2=>F9.get q h1 λh3=>h2 (by have:q=X+6:=h3;rw[this];exact wN)⟩
 have hnd:K.Nodup:=pK.nodup_iff.2 (by classical exact (by unfold jS;exact List.Pairwise.filter _ List.nodup_range))
 have hlk:ks'.length=K.length:=by rw[←hK,sQ]
 refine⟨.ptr (X+8) 0,K,rfl,⟨X+8,X+3,X+6,S,cp,vL,ks',rfl,by omega,by omega,by omega,by omega,?_,?_,?_,?_,?_,e.sp.mono f29⟩,⟨pK,?_⟩,e.f2.trans f29⟩
 ·rw[F9.get _ (by omega) (by omega)];exact gB8
 ·rw[o9 _ (by omega) (by omega) (by omega)];exact e.gM
 ·rw[gN9,bH λj hj=>by rw[NP hG E pK hj]]
 ·rw[F9.get _ (by omega) (by omega)];exact gS8
 ·refine cF.oA hlk λi h1 h2=>?_
  obtain⟨a,ea,ko⟩:=hKk i h2
  have ea':ks'[i]=a:=by rw[iI h1] at ea;simpa using ea
  have k9:=ko.go F89 (by omega) wX λ_ _ h1=>h1
  rw[Pm.cT h2] at k9
  rw[ea']
  exact⟨k9.fst,k9.ord,k9.size,k9.rep.si,k9.ranks.si⟩
 ·have h1:ks'.Pairwise λa b=>a.fst≠b.fst:=by
   have:=hnd;rw[←hK] at this;exact List.pairwise_map.1 this
  rw[←hK,List.pairwise_map];refine List.Pairwise.imp_of_mem ?_ (List.Pairwise.and srt h1);rintro a b ha hb ⟨h2,h3⟩;have ka:=kK a ha;have kb:=kK b hb;have h4: ¬(b.lt a=true):=by rw[h2];simp
  rw[Cls.KE.lt_iff] at h4;unfold TV;rw[←ka.ord,←kb.ord,←ka.size,←kb.size];omega
theorem BI {n:Nat}{G:List Nat->Prop}{L:LN}{r s:Nat}(a:TV n G L r s)(b:TV n G L s r):False:=by
 unfold TV at a b;omega
theorem Bs.uniq {n:Nat}{G:List Nat->Prop}{L:LN}{K K':List Nat}(a:Bs n G L K)(b:Bs n G L K'):K=K':=
 (a.perm.trans b.perm.symm).eq_of_pairwise (λ_ _ _ _ h1 h2=>(BI h1 h2).elim) a.asc b.asc
noncomputable def xG (G:List Nat->Prop)(L:LN)(K:List Nat):List Nat:=(List.range L.length).map (jC G L K)
theorem OW (G:List Nat->Prop)(L:LN)(K:List Nat):(rc L.length λj=>aA (jC G L K j:Nat))=ints (zi (xG G L K)):=by
 refine Iw (by rw[aM,aS];simp [xG]) λi hi=>?_
 rw[Dm (by simpa [xG] using hi)];have:(xG G L K).getD i 0=jC G L K i:=by simp [xG,hi]
 rw[this]
theorem WC {W0:Nat->Prop}(vc:V)(n:Nat)(O:LN)(R:oQ)(G:List Nat->Prop)(h:H)(gc:GC W0 h vc n O R G)(L:LN)(hL:cV O R n 0 (bZ n)=L):
  Ev T 21 [vc] h (λv h'=> ∃vl K,v= .tup [vl,aA 0]/\Bs n G L K/\SI h' vl (zi (xG G L K))/\Fr h h'):=by
 obtain⟨vO,vR,e,sO,sR⟩:=gc.ch
 subst e
 refine bL tF rfl rfl ?_
 have oneO:vO.one=true:=Tt sO
 have oneR:vR.one=true:=Tq sR
 obtain⟨A,hA⟩:=exI h.next
 obtain⟨h1,e1,n1,g1,o1,f1⟩:=iD hA [aA n,vO,vR]
 have bx:=dB h (v:= aA n) (u:=vO) (w:=vR) rfl oneO oneR
 have rB:=bB g1
 simp(disch:=omega)only[go_sem,tF,aE,bx,hA,e1,rB]
 refine (UB _ n O R G h1 (gc.mono f1)).mono ?_
 rw[hL]
 rintro _ h2 ⟨p,K,rfl,go,ik,f2⟩
 obtain⟨B,M,N,S,cp,vL,ks,rfl,hB,hM,hN,hS,gB,gM,gN,gS,a,sp⟩:=go.ex
 have c3:h2.cell B 3=some (.sl N 0 L.length (.kn L.length)):=by rw[H.aF gB];rfl
 simp(disch:=omega)only[go_sem]
 refine aW (λhc=>(hc rfl).elim) (λ_=>?_)
 simp(disch:=omega)only[go_sem,c3]
 rw[OW] at gN
 exact⟨_,K,rfl,ik,SV.all (by rw[aM,aS];simp [xG]) hN gN _,f1.trans f2⟩
def qK (ks:List Cls.KE):List V:=ks.flatMap λa=> [a.rep,aA (a.ord:Int),aA (a.size:Int)]
theorem yJ (ks:List Cls.KE):(qK ks).length=ks.length*3:=by
 induction ks with
 |nil=>rfl
 |cons a r ih=>
  show ([a.rep,aA (a.ord:Int),aA (a.size:Int)]++qK r).length=_;rw[pQ,ih];show 3+r.length*3=(r.length+1)*3;omega
theorem PR {h:H}{Y:Nat}{ro:Bool}{a:Cls.KE}(g:h.get Y=some (.cells ro a.enc)):h.row Y 0 3=some [a.rep,aA (a.ord:Int),aA (a.size:Int)]:=by
 simp [H.row,g,sub,Cls.KE.enc]
theorem CK {v:V}(ho:v.one=true)(x y:Int)(h:H):qS h 3 [.aC,aA 0,aA 0] 1 [(0,3,.agg [v,aA x,aA y])]=some (.sl h.next 0 1 (.kn 1),h.new (.cells false [v,aA x,aA y])):=by
 have e:dK [V.aC,aA 0,aA 0] 3= [V.aC,aA 0,aA 0]:=rfl;simp [qS,iZ,putAt,e,ho,show ∀l,(V.agg l).cells=l from λ_=>rfl,show ∀z,(aA z).one=true from λ_=>rfl]
theorem BN (vc:V)(d:Int)(O:List (List Int))(R:List (List (List Int)))(h:H)(hc:ET h vc d O R)(hd:d<=7∨64<d)(so:rZ O)(sr:rM R)(hb:sF d O R≠0):
  Ev T 20 [vc] h (λv h'=>v= .tup [.aC,aA (sF d O R)]/\Fr h h'):=by
 have hc0:=hc
 obtain⟨vO,vR,e,sO,sR⟩:=hc
 subst e
 refine bL lE rfl rfl ?_
 have oneO:vO.one=true:=Tt sO
 have oneR:vR.one=true:=Tq sR
 obtain⟨B,hB⟩:=exI h.next
 obtain⟨h1,e1,n1,g1,o1,f1⟩:=iD hB [aA d,vO,vR]
 have bx:=dB h (v:= aA d) (u:=vO) (w:=vR) rfl oneO oneR
 have rB:=bB g1
 simp(disch:=omega)only[go_sem,lE,aE,bx,hB,e1,rB]
 refine (UY _ d O R h1 (hc0.mono f1) hd so sr hb).mono ?_
 rintro _ h2 ⟨rfl,f2⟩
 simp(disch:=omega)only[go_sem]
 refine aW (λ_=>?_) (λhc=>(hc hb).elim)
 simp(disch:=omega)only[go_sem]
 exact f1.trans f2
theorem KC {W0:Nat->Prop}(vc:V)(n:Nat)(O:LN)(R:oQ)(G:List Nat->Prop)(h:H)(gc:GC W0 h vc n O R G)(L:LN)(hL:cV O R n 0 (bZ n)=L):
  Ev T 20 [vc] h (λv h'=> ∃vl K ks,v= .tup [vl,aA 0]/\Bs n G L K/\SV h' vl 3 (qK ks)/\cF (KR n G L h') ks K/\Fr h h'):=by
 obtain⟨vO,vR,e,sO,sR⟩:=gc.ch
 subst e
 refine bL lE rfl rfl ?_
 have oneO:vO.one=true:=Tt sO
 have oneR:vR.one=true:=Tq sR
 obtain⟨A,hA⟩:=exI h.next
 obtain⟨h1,e1,n1,g1,o1,f1⟩:=iD hA [aA n,vO,vR]
 have bx:=dB h (v:= aA n) (u:=vO) (w:=vR) rfl oneO oneR
 have rB:=bB g1
 simp(disch:=omega)only[go_sem,lE,aE,bx,hA,e1,rB]
 refine (UB _ n O R G h1 (gc.mono f1)).mono ?_
 rw[hL]
 rintro _ h2 ⟨p,K,rfl,go,ik,f2⟩
 obtain⟨B,M,N,S,cp,vL,ks,rfl,hB,hM,hN,hS,gB,gM,gN,gS,aK,sp⟩:=go.ex
 have c2:h2.cell B 2=some (.sl S 0 K.length cp):=by rw[H.aF gB];rfl
 have hlk:=cF.length aK
 have hKle:K.length<=5040:=by
  have h1:=ik.perm.length_eq;have h2:=yP (G:=G) (L:=L) L.length;have h3:=mK gc;have h4:=(jH gc.kY gc.isc).2;rw[hL] at h4;omega
 simp(disch:=omega)only[go_sem]
 refine aW (λhc=>(hc rfl).elim) (λ_=>?_)
 simp(disch:=omega)only[go_sem,c2]
 refine cU (λvs hh=> ∃v6,(∃g:Nat->V,vs= [g 0,g 1,g 2,g 3,g 4,g 5,v6,g 7,g 8,g 9,g 10,g 11,g 12])/\SV hh v6 3 (qK ks)/\Fr h2 hh) ?_ ?_
 ·refine aJ (λk' vs hh=> ∃(k:Nat) (v6:V),(∃g:Nat->V,vs= [g 0,g 1,g 2,g 3,.ptr B 0,g 5,v6,g 7,g 8,.sl S 0 K.length cp,aA (K.length:Int),aA k,g 12])/\k<=K.length/\eX hh v6 3 (qK (ks.take k)) h2.next/\Fr h2 hh/\k'=K.length-k) K.length
   ⟨0,.aC,aB rfl,lW _,eX.aC _ _ _,Fr.refl _,rfl⟩ ?_
  rintro k' vars h9 ⟨k,v6,⟨g,rfl⟩,hk,ow,F9,rfl⟩
  by_cases hlt:(k:Int)<(K.length:Int)
  case neg=>
   have d4:=kU hlt;obtain rfl:k=K.length:=by omega
   simp(disch:=omega)only[go_sem,d4];rw[List.take_of_length_le (by omega)] at ow;exact⟨v6,aB rfl,ow.sv,F9⟩
  have d4:=oD hlt
  have hk':k<K.length:=by omega
  have hkl:k<ks.length:=by omega
  obtain⟨a,ea⟩:=exI (ks[k])
  have gS9:h9.get S=bX (Cls.pJ ks):=by rw[F9.get _ hS];exact gS
  have rw9:h9.row S (k*4) 4=some a.enc:=by
   have:=Dw (pre:= []) (by simpa using gS9) hkl;rw[ea] at this;simpa using this
  obtain⟨Y,hY⟩:=exI h9.next
  obtain⟨ha,eha,na,ga,oa,fa⟩:=iD hY [.aC,aA 0,aA 0,.aC]
  obtain⟨hb,ehb,nb,gb,ob⟩:=Ju ha Y a.enc
  obtain⟨Z,hZ⟩:=exI hb.next
  obtain⟨hc',ehc,nc,gc',oc,fc⟩:=iD hZ [a.rep,aA (a.ord:Int),aA (a.size:Int)]
  have F9c:Fr h9 hc':=⟨by omega,λq hq=>by rw[oc q (by omega),ob q (by omega),oa q (by omega)]⟩
  have owc:eX hc' v6 3 (qK (ks.take k)) h2.next:=ow.fr F9c
  obtain⟨hd,ad,pd⟩:=owc.push (bytes:=40) (y:= .sl Z 0 1 (.kn 1)) (us:= [a.rep,aA (a.ord:Int),aA (a.size:Int)]) (SV.all rfl (by omega) gc' _) (n:=k) (m:=1) (by rw[yJ,Ny];omega) rfl (by omega) (by omega) (by omega)
  simp(disch:=omega)only[go_sem,d4,rw9,hY,eha,KJ,ga,JT,ehb,PR gb,CK a.hrep.2.1,hZ,ehc,ad]
  rw[jP k]
  have el:qK (ks.take (k+1))=qK (ks.take k)++ [a.rep,aA (a.ord:Int),aA (a.size:Int)]:=by
   rw[List.take_succ_eq_append_getElem hkl,ea];simp [qK]
  have n9:=F9.next
  have nd:=pd.next
  have F9d:Fr h2 hd:=⟨by omega,λq hq=>by rw[pd.old q (by omega) (λid off n' c e e2=>by have:=(ow.in _ _ _ _ e).2.1;omega),F9c.get q (by omega)];exact F9.get q hq⟩
  exact⟨K.length-(k+1),by omega,k+1,_,aB rfl,by omega,by rw[el];exact pd.own (by rw[yJ,Ny];omega) rfl (by omega),F9d,rfl⟩
 rintro vars h9 ⟨v6,⟨g,rfl⟩,sv,F9⟩
 simp(disch:=omega)only[go_sem]
 exact⟨v6,K,ks,rfl,ik,sv,aK.mono λ_ _ k=>k.mono F9,(f1.trans f2).trans F9⟩
set_option maxRecDepth 100000
set_option maxRecDepth 100000
theorem Qf {n:Nat}{a:List Nat}(A:bG n a)(hn:n<=7):jR a n∣420:=by
 unfold jR;rw[Bg];intro c hc;obtain⟨l,hl,rfl⟩:=wQ.1 hc;obtain⟨i,hi,rfl⟩:=wQ.1 hl;have hin:i<n:=by unfold Kd at hi;exact Na.1 (JL.1 hi).1
 rw[yF];have h1:=(nE A hin).1;have h2:=Vk A hin;have: ∀k,k<8->0<k->k∣420:=by decide
 exact this _ (by omega) h1
set_option maxRecDepth 100000
theorem UD {n:Nat}{a:List Nat}(A:bG n a): ∀k,pw n (aV a a) k=pw n a (2*k)
 |0=>rfl
 |k+1=>by
  show aV (pw n (aV a a) k) (aV a a)=pw n a (2*k+2);rw[UD A k,←aX (mJ A _) A A];rfl
theorem Ou {n:Nat}{a:List Nat}(A:bG n a):pw n a 1=a:=fV A
theorem IW {n:Nat}{G:List Nat->Prop}{L:LN}(hG:tL n G)(E:fN G L):0<L.length/\L.getD 0 []=bZ n:=by
 have hm:=(E.mem _).2 hG.one;have h0:=List.length_pos_of_mem hm;refine⟨h0,?_⟩;obtain⟨i,hi,ei⟩:=Fg.1 hm;have e0:L.getD 0 []=L[0]:=by rw[List.getD,iI h0];rfl
 by_cases h:i=0
 ·subst h;rw[e0,ei]
 ·have h1:=List.pairwise_iff_getElem.1 E.asc 0 i h0 hi (by omega)
  rw[ei] at h1;have X:=mD hG E h0;rw[e0] at X;rcases one_le X with h2|h2
  ·rw[e0,←h2]
  ·exact (h1.asymm h2).elim
section
variable {n:Nat} {G:List Nat->Prop} {L:LN} (hG:tL n G) (E:fN G L)
end
set_option maxRecDepth 100000
set_option maxRecDepth 100000
structure ZW (l:LN)(x:List Nat)(k:Nat):Prop where
 le:k<=l.length
 lo: ∀i,i<k->sH (l.getD i []) x=true
 hi: ∀i,k<=i->i<l.length->sH (l.getD i []) x=false
theorem JG (vl vx:V)(n:Nat)(l:LN)(x:List Nat)(h:H)(hn:n<1000)(hl:l.length<1000000)(hP: ∀g∈l,bG n g)(X:bG n x)(asc:l.Pairwise Lt)(hv:SP h vl l)(hx:SI h vx (zi x)):
  Ev T 54 [vl,vx] h (λv h'=> ∃k:Nat,v= .tup [aA k,.bool (decide (x∈l))]/\ZW l x k/\(x∈l->k<l.length/\l.getD k []=x)/\Fr h h'):=by
 obtain⟨ws,sv,al⟩:=hv
 have hws:=cF.length al
 rw[sQ] at hws
 refine bL wY rfl rfl ?_
 have lv:dR vl=some (aA (l.length:Int)):=by unfold dR;rw[SV.len sv (n:=l.length) (by omega) (by omega)];rfl
 obtain⟨id,off,sh,hid,hc⟩:=SV.shape sv l.length (by omega) (by omega)
 have hlen: ∀i,i<l.length->(l.getD i []).length=n:=λi hi=>(hP _ (bI hi)).len
 have mono: ∀i j,i<j->j<l.length->Lt (l.getD i []) (l.getD j []):=λi j h1 h2=>by
  have ei:l.getD i []=l[i]:=by rw[List.getD,iI (by omega)];rfl
  have ej:l.getD j []=l[j]:=by rw[List.getD,iI h2];rfl
  rw[ei,ej];exact List.pairwise_iff_getElem.1 asc i j (by omega) h2 h1
 have cell: ∀hh,Fr h hh-> ∀i,i<l.length->hh.cell id (off+i)=some (ws.getD i .undef):=λhh f i hi=>by
  rw[f.cell (hid (by omega)),hc i (by omega)];simp [List.getD,show i<ws.length by omega]
 simp(disch:=omega)only[go_sem,wY,aE,lv]
 refine cU (λvs hh=> ∃k,(∃g:Nat->V,vs= [vl,vx,g 2,g 3,aA (k:Nat),g 5,g 6,g 7,g 8])/\ZW l x k/\Fr h hh) ?_ ?_
 ·refine aJ (λk' vars hh=> ∃(i j:Nat),(∃g:Nat->V,vars= [vl,vx,g 2,g 3,aA i,aA j,g 6,g 7,g 8])/\i<=j/\j<=l.length/\(∀q,q<i->sH (l.getD q []) x=true)/\(∀q,j<=q->q<l.length->sH (l.getD q []) x=false)/\Fr h hh/\k'=j-i) l.length
   ⟨0,l.length,aB rfl,by omega,by omega,λm hm=>by omega,λm h1 h2=>by omega,Fr.refl h,rfl⟩ ?_
  rintro k' vars hh ⟨i,j,⟨g,rfl⟩,hij,hj,hlo,hhi,F,rfl⟩
  by_cases hlt:(i:Int)<(j:Int)
  case neg=>
   have e1:=kU hlt;obtain rfl:i=j:=by omega
   simp(disch:=omega)only[go_sem,e1];exact⟨i,aB rfl,⟨hj,hlo,hhi⟩,F⟩
  have e1:=oD hlt
  obtain⟨m,hm⟩:=exI ((i+j)/2)
  have ea:(i:Int)+(j:Int)=((i+j:Nat):Int):=by omega
  have ed:((i+j:Nat):Int).tdiv 2=(m:Int):=by rw[Int.tdiv_eq_ediv_of_nonneg (by omega)];omega
  have cm:=cell hh F m (by omega)
  have sm:=Qj al (i:=m) (by omega)
  generalize ws.getD m .undef=vm at cm sm
  simp(disch:=omega)only[go_sem,e1,ea,ed,sh.ixa,cm]
  refine (SD vm vx n _ x hh (by omega) (hlen m (by omega)) X.len (sm.mono F) (hx.mono F)).mono ?_
  rintro _ h3 ⟨rfl,f3⟩
  cases hl2:sH (l.getD m []) x with
  |true=>
   simp(disch:=omega)only[go_sem];rw[jP m];refine⟨j-(m+1),by omega,m+1,j,aB rfl,by omega,hj,λq hq=>?_,hhi,F.trans f3,rfl⟩
   by_cases e:q=m
   ·rw[e];exact hl2
   ·have h1:=mono q m (by omega) (by omega)
    have h2:=(mZ (by rw[hlen m (by omega),X.len])).1 hl2;exact (mZ (by rw[hlen q (by omega),X.len])).2 (Lt.trans (by rw[hlen q (by omega),hlen m (by omega)]) h1 h2)
  |false=>
   simp(disch:=omega)only[go_sem];refine⟨m-i,by omega,i,m,aB rfl,by omega,by omega,hlo,λq h1 h2=>?_,F.trans f3,rfl⟩
   by_cases e:q=m
   ·rw[e];exact hl2
   ·rw[←Bool.not_eq_true]
    intro h3;have h4:=mono m q (by omega) h2;have h5:=(mZ (by rw[hlen q h2,X.len])).1 h3;rw[(mZ (by rw[hlen m (by omega),X.len])).2 (Lt.trans (by rw[hlen q h2,hlen m (by omega)]) h4 h5)] at hl2;cases hl2
 rintro vars h2 ⟨k,⟨g,rfl⟩,pk,F⟩
 have hmem:x∈l->k<l.length/\l.getD k []=x:=λhx2=>by
  obtain⟨q,hq,eq⟩:=Fg.1 hx2;have eq':l.getD q []=x:=by rw[List.getD,iI hq,←eq];rfl
  have h1:k<=q:=Nat.le_of_not_lt λh3=>by
   have:=pk.lo q h3;rw[eq',vY] at this;cases this
  have h2:k=q:=Nat.le_antisymm h1 (Nat.le_of_not_lt λh3=>by
   have h4:=mono k q h3 hq;rw[eq'] at h4;have h5:=pk.hi k (iL _) (by omega);rw[(mZ (by rw[hlen k (by omega),X.len])).2 h4] at h5
   cases h5)
  exact⟨by omega,by rw[h2];exact eq'⟩
 by_cases hk:(k:Int)<(l.length:Int)
 ·have e1:=oD hk
  have cm:=cell h2 F k (by omega)
  have sm:=Qj al (i:=k) (by omega)
  generalize ws.getD k .undef=vm at cm sm
  simp(disch:=omega)only[go_sem,lv,e1,sh.ixa,cm]
  refine (Oy vm vx _ _ h2 (sm.mono F) (hx.mono F) (by rw[aS,hlen k (by omega)];omega) (by rw[aS,X.len];omega)).mono ?_
  rintro _ h3 ⟨rfl,f3⟩
  have ed:decide (zi (l.getD k [])=zi x)=decide (x∈l):=by
   rw[decide_eq_decide];constructor
   ·intro h4
    have h5:l.getD k []=x:=List.map_inj_right (λu v h2=>by omega)|>.1 h4;rw[←h5];exact bI (by omega)
   ·intro h4;rw[(hmem h4).2]
  simp(disch:=omega)only[go_sem,ed]
  exact⟨k,rfl,pk,hmem,F.trans f3⟩
 ·have e1:=kU hk
  have ed:decide (x∈l)=false:=decide_eq_false λh4=>by have:=(hmem h4).1;omega
  simp(disch:=omega)only[go_sem,lv,e1]
  exact⟨k,by rw[ed],pk,hmem,F⟩
theorem Oa {g:Nat}(hgt:T g=some gK)(u w:V)(a b:List (List Int))(h:H)(hu:SR h u a)(hw:SR h w b)(la:a.length<1000000)(lb:b.length<1000000)(ra: ∀x∈a,x.length<1000000)(rb: ∀x∈b,x.length<1000000):
  Ev T g [u,w] h (λv h'=>v= .bool (decide (a=b))/\Fr h h'):=by
 refine Et hgt rfl ?_
 have lu:=hu.lens
 have lw:=hw.lens
 obtain⟨wa,sa,aa⟩:=hu
 obtain⟨wb,sb,ab⟩:=hw
 have hwa:=cF.length aa
 have hwb:=cF.length ab
 obtain⟨id,off,sh,hid,hc⟩:=SV.shape sa a.length (by omega) (by omega)
 obtain⟨id2,off2,sh2,hid2,hc2⟩:=SV.shape sb b.length (by omega) (by omega)
 by_cases hl:(a.length:Int)=(b.length:Int)
 case neg=>
  have d1:decide ((a.length:Int)≠(b.length:Int))=true:=decide_eq_true hl;simp(disch:=omega)only[go_sem,gK,aE,lu,lw,d1];exact⟨by rw[decide_eq_false];intro e;exact hl (by rw[e]),Fr.refl h⟩
 have hl':a.length=b.length:=by omega
 have d1:decide ((a.length:Int)≠(b.length:Int))=false:=decide_eq_false (by simpa using hl)
 simp(disch:=omega)only[go_sem,gK,aE,lu,lw,d1]
 refine aJ (λk' vars hh=> ∃(i:Nat),(∃g:Nat->V,vars= [u,w,g 2,aA i,g 4,g 5,g 6])/\i<=a.length/\(∀j,j<i->a.getD j []=b.getD j [])/\Fr h hh/\k'=a.length-i) a.length
  ⟨0,aB rfl,lW _,λj hj=>by omega,Fr.refl h,rfl⟩ ?_
 rintro k' vars hh ⟨i,⟨g,rfl⟩,hi,hs,F,rfl⟩
 by_cases hlt:(i:Int)<(a.length:Int)
 case neg=>
  have e1:=kU hlt;obtain rfl:i=a.length:=by omega
  simp(disch:=omega)only[go_sem,lu,e1]
  have:a=b:=by
   refine List.ext_getElem hl' λj h1 h2=>?_
   have:=hs j h1;rwa [List.getD,iI h1,List.getD,iI h2] at this
  exact⟨by rw[decide_eq_true this],F⟩
 have e1:=oD hlt
 have c1:hh.cell id (off+i)=some (wa.getD i .undef):=by
  rw[F.cell (hid (by omega)),hc i (by omega)];simp [List.getD,show i<wa.length by omega]
 have c2:hh.cell id2 (off2+i)=some (wb.getD i .undef):=by
  rw[F.cell (hid2 (by omega)),hc2 i (by omega)];simp [List.getD,show i<wb.length by omega]
 have s1:=Wd aa (i:=i) (by omega)
 have s2:=Wd ab (i:=i) (by omega)
 generalize wa.getD i .undef=va at c1 s1
 generalize wb.getD i .undef=vb at c2 s2
 have ev1:=s1.eP
 have ev2:=s2.eP
 simp(disch:=omega)only[go_sem,lu,e1,sh.ixa,c1,sh2.ixa,c2]
 refine (Oy va vb _ _ _ (s1.mono (F.trans ((Fr.refl hh).bM (by omega)))) (s2.mono (F.trans ((Fr.refl hh).bM (by omega)))) (ra _ (bI (by omega))) (rb _ (bI (by omega)))).mono ?_
 rintro _ h3 ⟨rfl,f3⟩
 have F3:=F.trans (((Fr.refl hh).bM (by omega)).trans f3)
 have c1':h3.cell id (off+i)=some va:=by
  have h4:Fr hh h3:=((Fr.refl hh).bM (by omega)).trans f3;rw[h4.cell (by have:=hid (by omega);have:=F.next;omega)];exact c1
 have c2':h3.cell id2 (off2+i)=some vb:=by
  have h4:Fr hh h3:=((Fr.refl hh).bM (by omega)).trans f3;rw[h4.cell (by have:=hid2 (by omega);have:=F.next;omega)];exact c2
 by_cases he:a.getD i []=b.getD i []
 ·have d2:decide (a.getD i []=b.getD i [])=true:=decide_eq_true he
  simp(disch:=omega)only[go_sem,d2,c1',c2',ev1,ev2]
  rw[jP i]
  refine⟨a.length-(i+1),by omega,i+1,aB rfl,by omega,λj hj=>?_,F3,rfl⟩
  by_cases e:j=i
  ·rw[e];exact he
  ·exact hs j (by omega)
 ·have d2:decide (a.getD i []=b.getD i [])=false:=decide_eq_false he
  simp(disch:=omega)only[go_sem,d2,c1',c2',ev1,ev2]
  exact⟨by rw[decide_eq_false];intro e;exact he (by rw[e]),F3⟩
theorem Ca (u w:V)(a b:List (List Int))(h:H)(hu:SR h u a)(hw:SR h w b)(la:a.length<1000000)(lb:b.length<1000000)(ra: ∀x∈a,x.length<1000000)(rb: ∀x∈b,x.length<1000000):
  Ev T 32 [u,w] h (λv h'=>v= .bool (decide (a=b))/\Fr h h'):=Oa (rfl:T 32=some gK) u w a b h hu hw la lb ra rb
set_option maxRecDepth 100000
set_option maxRecDepth 100000
set_option maxRecDepth 100000
set_option maxRecDepth 100000
theorem JH {ks:List Cls.KE}{i:Nat}(hi:i<ks.length):(qK ks)[i*3]? =some ks[i].rep/\(qK ks)[i*3+1]? =some (aA (ks[i].ord:Int))/\(qK ks)[i*3+2]? =some (aA (ks[i].size:Int)):=by
 induction ks generalizing i with
 |nil=>simp at hi
 |cons a r ih=>
  have e:qK (a::r)= [a.rep,aA (a.ord:Int),aA (a.size:Int)]++qK r:=rfl
  cases i with
  |zero=>exact⟨rfl,rfl,rfl⟩
  |succ i=>
   have h1:=ih (i:=i) (by simpa using hi);rw[e,show (i+1)*3=i*3+3 by omega];refine⟨?_,?_,?_⟩
   ·rw[List.getElem?_append_right (by simp)];exact h1.1
   ·rw[List.getElem?_append_right (by simp)];exact h1.2.1
   ·rw[List.getElem?_append_right (by simp)];exact h1.2.2
end Go.Proofs.YtapfcpkecmmagaaGreat
namespace Go.Pm
set_option maxRecDepth 100000
section
variable {n:Nat} {t:Aq}
theorem uF.gt (T:uF n t){i p:Nat}{y:List Nat}(h:t i p=some y):i<p:=by
 have Y:=T.fI _ _ _ h;have F:=T.fix _ _ _ h;obtain⟨h1,h2,h3⟩:=T.lt _ _ _ h;have m:=T.maps _ _ _ h;rcases Nat.lt_or_ge p i with h4|h4
 ·exact absurd (Y.inj h1 h2 (m.trans (F p h4).symm)) (by omega)
 ·omega
def eR (t:Aq)(i p:Nat):wV:=(List.range p).filterMap (t i)
def eB (n:Nat)(t:Aq)(i:Nat):wV:=(List.range i).flatMap λi=>eR t i n
theorem VY:eB n t n=iM n t 0:=by
 unfold eB iM eR;simp
theorem zV (T:uF n t):(iM n t 0).Nodup:=by
 have key: ∀i p i' p' y,t i p=some y->t i' p'=some y->i=i'/\p=p':=λi p i' p' y h1 h2=>by
  have g1:=T.gt h1;have g2:=T.gt h2;have f1:=T.fix _ _ _ h1;have f2:=T.fix _ _ _ h2;have m1:=T.maps _ _ _ h1;have m2:=T.maps _ _ _ h2
  have e:i=i':=by
   rcases Nat.lt_trichotomy i i' with h|h|h
   ·have:=f2 i h;omega
   ·exact h
   ·have:=f1 i' h;omega
  subst e;exact⟨rfl,m1.symm.trans m2⟩
 rw[←VY];unfold eB;rw[List.Nodup,List.pairwise_flatMap];refine⟨λi _=>?_,?_⟩
 ·unfold eR
  rw[List.pairwise_filterMap];refine (List.nodup_range (n:=n)).imp ?_;intro p p' hne y hy y' hy' e;subst e;exact hne (key _ _ _ _ _ hy hy').2
 ·refine (List.nodup_range (n:=n)).imp ?_
  intro i i' hne y hy y' hy' e;subst e;obtain⟨p,_,h1⟩:=List.mem_filterMap.1 hy;obtain⟨p',_,h2⟩:=List.mem_filterMap.1 hy';exact hne (key _ _ _ _ _ h1 h2).1
def frF (n:Nat)(t:Aq)(l:wV):wV:=(iM n t 0).filter λy=>decide (y∉l)
def ZA (n:Nat)(t:Aq)(x:List Nat)(l:wV):wV:=if (iM n t 0).length<(iM n (tY t n x) 0).length then l++frF n (tY t n x) l else l
structure Og (n:Nat)(L:List Nat->Prop)(t:Aq)(l:wV):Prop where
 tl:Xf n L t
 nd:l.Nodup
 mem: ∀y,y∈l↔y∈iM n t 0
variable {L:List Nat->Prop} {l:wV}
theorem Og.fI (c:Og n L t l): ∀y∈l,bG n y:=λy hy=>c.tl.Hf.HD y ((c.mem y).1 hy)
theorem Og.start (c:Xf n L t):Og n L t (iM n t 0):=⟨c,zV c.Hf,λ_=>Iff.rfl⟩
theorem Pw {t':Aq}(s:Sub t t'): ∀y,y∈iM n t 0->y∈iM n t' 0:=λy hy=>by
 obtain⟨i,p,h1,h2,h3,h4⟩:=fP.1 hy;exact fP.2 ⟨i,p,h1,h2,h3,s _ _ _ h4⟩
theorem Og.step (c:Og n L t l)(hL: ∀g,L g->bG n g){x:List Nat}(hx:eQ n L x):
  Og n L (tY t n x) (ZA n t x l)/\Sub t (tY t n x)/\ins (tY t n x) n 0 x=none/\ ∃m,ZA n t x l=l++m:=by
 obtain⟨a1,a2,a3⟩:=c.tl.ins hL hx
 have nd':=zV a1.Hf
 refine⟨?_,a2,a3,?_⟩
 ·cases h:ins t n 0 x with
  |none=>
   have e:tY t n x=t:=by unfold tY;rw[h]
   unfold ZA;rw[e,if_neg (Nat.lt_irrefl _)];exact c
  |some q=>
   obtain⟨i,r⟩:=q;have e:tY t n x=put t i (r.getD i 0) r:=by unfold tY;rw[h]
   obtain⟨b1,b2,b3,b4,b5,b6,_⟩:=xF c.tl.Hf n 0 x i r (by omega) (hx.fI hL) (λk hk=>by omega) h;have hr:r∈iM n (tY t n x) 0:=fP.2 ⟨i,r.getD i 0,Nat.zero_le _,b2,b3.fW b2,by rw[e];unfold put;rw[if_pos ⟨rfl,rfl⟩]⟩
   have hr2:r∉iM n t 0:=λh=>by
    obtain⟨j,q,_,_,_,h4⟩:=fP.1 h;have h5:=a2 _ _ _ h4;have g1:=a1.Hf.gt h5;have f1:=a1.Hf.fix _ _ _ h5;have m1:=a1.Hf.maps _ _ _ h5;have h6:tY t n x i (r.getD i 0)=some r:=by rw[e];unfold put;rw[if_pos ⟨rfl,rfl⟩]
    have g2:=a1.Hf.gt h6
    have eij:i=j:=by
     rcases Nat.lt_trichotomy i j with h|h|h
     ·have:=f1 i h;omega
     ·exact h
     ·have:=b4 j h;omega
    subst eij;rw[←m1] at h4;rw[b6] at h4;cases h4
   have hlt:(iM n t 0).length<(iM n (tY t n x) 0).length:=by
    have:(r::iM n t 0).length<=(iM n (tY t n x) 0).length:=List.Nodup.length_le_of_subset (List.nodup_cons.2 ⟨hr2,zV c.tl.Hf⟩) (λy hy=>by
     rcases List.mem_cons.1 hy with rfl|hy
     ·exact hr
     ·exact Pw a2 y hy)
    rw[List.length_cons] at this;omega
   unfold ZA;rw[if_pos hlt];refine⟨a1,List.nodup_append.2 ⟨c.nd,nd'.filter _,λy hy z hz e2=>?_⟩,λy=>?_⟩
   ·subst e2
    have:=(List.mem_filter.1 hz).2;simp at this;exact this hy
   ·rw[List.mem_append]
    unfold frF;rw[List.mem_filter];constructor
    ·rintro (h|h)
     ·exact Pw a2 y ((c.mem y).1 h)
     ·exact h.1
    ·intro h
     by_cases h2:y∈l
     ·exact .inl h2
     ·exact .inr ⟨h,by simpa using h2⟩
 ·unfold ZA
  split
  ·exact⟨_,rfl⟩
  ·exact⟨[],(List.append_nil _).symm⟩
theorem Og.gen (c:Og n L t l): ∀y∈l,eQ n L y:=λy hy=>c.tl.gen y ((c.mem y).1 hy)
def Pr (n:Nat)(t:Aq)(l:wV)(a b:Nat):Prop:=ins t n 0 (aV (l.getD a []) (l.getD b []))=none
theorem Pr.mono {t':Aq}{m:wV}{a b:Nat}(h:Pr n t l a b)(s:Sub t t')(ha:a<l.length)(hb:b<l.length):Pr n t' (l++m) a b:=by
 have e: ∀k,k<l.length->(l++m).getD k []=l.getD k []:=λk hk=>by rw[List.getD,List.getD,List.getElem?_append_left hk]
 unfold Pr;rw[e a ha,e b hb];exact Mu s _ _ _ h
end
end Go.Pm
namespace Go.Proofs.YtapfcpkecmmagaaGreat
open Go Go.Ay Go.Pm
set_option maxRecDepth 100000
theorem Iy (h:H)(x:Int):qS h 1 [aA 0] 1 [(0,1,aA x)]=some (.sl h.next 0 1 (.kn 1),h.new (.cells false (ints [x]))):=by
 have e:dK [aA 0] 1= [aA 0]:=rfl;simp [qS,iZ,e,putAt,V.cells,V.one,ints]
theorem HE {h:H}{v:V}{sz b:Nat}{ws:List V}(o:eX h v sz ws b): ∀id off len cap,v= .sl id off len cap->b<=id:=by
 rcases o with ⟨rfl,_⟩|⟨id,n,cap,rest,rfl,_,_,h3,_⟩
 ·intro _ _ _ _ e;cases e
 ·intro _ _ _ _ e;cases e;exact h3
theorem Pg (l:List Nat)(x:Nat):zi (l++ [x])=zi l++ [(x:Int)]:=by simp [zi]
theorem Mb {l:List Nat}{i:Nat}(hi:i<l.length):l.take (i+1)=l.take i++ [l.getD i 0]:=by
 rw[List.take_add_one,iI hi,cT hi];rfl
theorem SE (u w:V)(a b:List Nat)(h:H)(hN:a.length<=1000)(hu:SI h u (zi a))(hw:SI h w (zi b))(hr: ∀i,i<a.length->a.getD i 0<b.length):
  Ev T 24 [u,w] h (λv h'=>SI h' v (zi (aV a b))/\Fr h h'/\ ∀id off len cap,v= .sl id off len cap->h.next<=id):=by
 refine bL Dx rfl rfl ?_
 have lu:=hu.lens
 rw[aS] at lu
 obtain⟨id,off,sh,hid,hc⟩:=hu.open
 rw[aS] at sh hid hc
 obtain⟨id2,off2,sh2,hid2,hc2⟩:=hw.open
 rw[aS] at sh2 hid2 hc2
 simp(disch:=omega)only[go_sem,Dx,aE]
 refine aJ (λk' vars hh=> ∃(i:Nat) (o:V),(∃j:Nat->V,vars= [u,w,j 2,o,aA i,j 5])/\i<=a.length/\eX hh o 1 (ints (zi ((aV a b).take i))) h.next/\Fr h hh/\k'=a.length-i) a.length
  ⟨0,.aC,aB rfl,lW _,eX.aC _ _ _,Fr.refl h,rfl⟩ ?_
 rintro k' vars h2 ⟨i,o,⟨jk,rfl⟩,hi,oO,F,rfl⟩
 simp(disch:=omega)only[go_sem,lu]
 by_cases hlt:(i:Int)<(a.length:Int)
 ·rw[decide_eq_true hlt]
  have hi':i<a.length:=by omega
  have ci:h2.cell id (off+i)=some (aA (a.getD i 0:Nat)):=by rw[F.cell (hid (by omega)),hc i hi'];congr 2;simp [zi,hi']
  have r:=hr i hi'
  have hm:=cH (b:=b) hi'
  generalize hk:a.getD i 0=k at ci r hm
  have ck:h2.cell id2 (off2+k)=some (aA (b.getD k 0:Nat)):=by rw[F.cell (hid2 (by omega)),hc2 k r];congr 2;simp [zi,r]
  simp(disch:=omega)only[go_sem,sh.ixa,ci,sh2.ixa,ck,Iy]
  have hf31:Fr h2 (h2.new (.cells false (ints [((b.getD k 0:Nat):Int)]))):=(Fr.refl h2).new _
  have hg31:(h2.new (.cells false (ints [((b.getD k 0:Nat):Int)]))).get h2.next=some (.cells false (ints [((b.getD k 0:Nat):Int)])):=H.aL ..
  have hn31:(h2.new (.cells false (ints [((b.getD k 0:Nat):Int)]))).next=h2.next+1:=H.aT ..
  generalize h2.new (.cells false (ints [((b.getD k 0:Nat):Int)]))=h31 at*
  have sx:SV h31 (.sl h2.next 0 1 (.kn 1)) 1 (ints [((b.getD k 0:Nat):Int)]):=SV.all rfl (by omega) hg31 _
  have nF:=F.next
  have hl:(aV a b).length=a.length:=eV a b
  obtain⟨v2,h32,e32,a32⟩:=(oO.fr hf31).app (bytes:=8) (n:=i) (m:=1) (by omega) sx (by rw[aM,aS,Ny,Nat.mul_one];omega) rfl (by omega) (by omega)
  simp(disch:=omega)only[go_sem,e32]
  have t32:=a32.own
  rw[←mX,←hm,←Pg,←Mb (by omega)] at t32
  rw[jP i]
  exact⟨a.length-(i+1),by omega,i+1,v2,aB rfl,by omega,t32,a32.fr h (F.trans hf31) (iL _),rfl⟩
 rw[decide_eq_false hlt]
 obtain rfl:i=a.length:=by omega
 simp(disch:=omega)only[go_sem]
 rw[List.take_of_length_le (by rw[eV];omega)] at oO
 exact⟨oO.sv,F,HE oO⟩
theorem Yt (n:Nat)(h:H)(hN:n<=1000):
  Ev T 51 [aA n] h (λv h'=>SI h' v (zi (bZ n))/\Fr h h'/\ ∀id off len cap,v= .sl id off len cap->h.next<=id):=by
 refine bL Dd rfl rfl ?_
 simp(disch:=omega)only[go_sem,Dd,aE]
 refine aJ (λk' vars hh=> ∃(i:Nat) (o:V),(∃j:Nat->V,vars= [aA n,j 1,o,aA i,j 4])/\i<=n/\eX hh o 1 (ints (zi ((bZ n).take i))) h.next/\Fr h hh/\k'=n-i) n
  ⟨0,.aC,aB rfl,lW _,eX.aC _ _ _,Fr.refl h,rfl⟩ ?_
 rintro k' vars h2 ⟨i,o,⟨jk,rfl⟩,hi,oO,F,rfl⟩
 simp(disch:=omega)only[go_sem]
 by_cases hlt:(i:Int)<(n:Int)
 ·rw[decide_eq_true hlt]
  have hi':i<n:=by omega
  simp(disch:=omega)only[go_sem,Iy]
  have hf31:Fr h2 (h2.new (.cells false (ints [(i:Int)]))):=(Fr.refl h2).new _
  have hg31:(h2.new (.cells false (ints [(i:Int)]))).get h2.next=some (.cells false (ints [(i:Int)])):=H.aL ..
  have hn31:(h2.new (.cells false (ints [(i:Int)]))).next=h2.next+1:=H.aT ..
  generalize h2.new (.cells false (ints [(i:Int)]))=h31 at*
  have sx:SV h31 (.sl h2.next 0 1 (.kn 1)) 1 (ints [(i:Int)]):=SV.all rfl (by omega) hg31 _
  have nF:=F.next
  have hl:=iT n
  obtain⟨v2,h32,e32,a32⟩:=(oO.fr hf31).app (bytes:=8) (n:=i) (m:=1) (by omega) sx (by rw[aM,aS,Ny,Nat.mul_one];omega) rfl (by omega) (by omega)
  simp(disch:=omega)only[go_sem,e32]
  have t32:=a32.own
  have hm:=fD hi'
  have e1:zi ((bZ n).take i)++ [(i:Int)]=zi ((bZ n).take (i+1)):=by rw[Mb (by omega),Pg,hm]
  rw[←mX,e1] at t32
  rw[jP i]
  exact⟨n-(i+1),by omega,i+1,v2,aB rfl,by omega,t32,a32.fr h (F.trans hf31) (iL _),rfl⟩
 rw[decide_eq_false hlt]
 obtain rfl:i=n:=by omega
 simp(disch:=omega)only[go_sem]
 rw[List.take_of_length_le (by rw[iT];omega)] at oO
 exact⟨oO.sv,F,HE oO⟩
structure BD (b:Nat)(W:Nat->Prop)(h:H)(n:Nat)(tv:V)(ρ:Nat->Nat)(F:Nat->Nat->V)(t:Aq):Prop where
 sv:SV h tv 1 (rc n λi=> .sl (ρ i) 0 n (.kn n))
 off:BZ W tv
 row: ∀i,i<n->h.get (ρ i)=some (.cells false (rc n (F i)))
 wb: ∀i,i<n->W (ρ i)
 CP: ∀id,W id->id<h.next
 low: ∀id,W id->b<=id
 inj: ∀i j,i<n->j<n->ρ i=ρ j->i=j
 ent: ∀i p,i<n->p<n->Slot W h (F i p) (t i p)
section
variable {b:Nat} {W:Nat->Prop} {h h':H} {n:Nat} {tv:V} {ρ:Nat->Nat} {F:Nat->Nat->V} {t:Aq}
theorem BD.open (R:BD b W h n tv ρ F t):dR tv=some (aA n)/\ ∃id off,Sl tv 1 n id off/\ ∀i,i<n->h.cell id (off+i)=some (.sl (ρ i) 0 n (.kn n)):=by
 have s:=R.sv;have hl:(rc n λi=>V.sl (ρ i) 0 n (.kn n)).length=n:=dX n _;refine⟨by unfold dR;rw[SV.len s (n:=n) (by omega) (by omega)];rfl,?_⟩;obtain⟨id,off,sh,hid,hc⟩:=SV.shape s n (by omega) (by omega);refine⟨id,off,sh,λi hi=>?_⟩;rw[hc i (by omega),oT hi]
theorem BD.cell (R:BD b W h n tv ρ F t){i p:Nat}(hi:i<n)(hp:p<n):h.cell (ρ i) p=some (F i p):=yN (R.row i hi) hp
theorem BD.mono (R:BD b W h n tv ρ F t)(f:Fr h h'):BD b W h' n tv ρ F t:=
 ⟨R.sv.mono f,R.off,λi hi=>by rw[f.get _ (R.CP _ (R.wb i hi))];exact R.row i hi,R.wb,λid hid=>kN (R.CP id hid) f.next,R.low,R.inj,λi p hi hp=>(R.ent i p hi hp).fx (Fx.of f)⟩
theorem BD.go (R:BD b W h n tv ρ F t){W':Nat->Prop}(f:Fx W h h')(hr: ∀i,i<n->h'.get (ρ i)=h.get (ρ i))(hw: ∀id,id<h.next->W' id->W id)(hw2: ∀id,W id->W' id)(CP: ∀id,W' id->id<h'.next)(low: ∀id,W' id->b<=id):BD b W' h' n tv ρ F t:=
 ⟨R.sv.fx R.off f,R.off.sK R.sv hw,λi hi=>by rw[hr i hi];exact R.row i hi,λi hi=>hw2 _ (R.wb i hi),CP,low,R.inj,λi p hi hp=>(R.ent i p hi hp).go f hw⟩
def WB (n:Nat)(ρ:Nat->Nat)(id:Nat):Prop:= ∃i,i<n/\ρ i=id
def F2 (F:Nat->Nat->V)(i p:Nat)(v:V):Nat->Nat->V:=λj q=>if j=i/\q=p then v else F j q
theorem BD.put (R:BD b W h n tv ρ F t){i p:Nat}(hi:i<n)(hp:p<n){vx:V}{x:List Nat}(hx:PV W h vx x):
  ∃h',fJ (h.get (ρ i)) h (ρ i) p [vx]=some h'/\BD b W h' n tv ρ (F2 F i p vx) (Pm.put t i p x)/\Fx (WB n ρ) h h'/\h'.next=h.next:=by
 have pt:=aZ (vs:=rc n (F i)) (off:=p) (by rw[dX];exact hp) h (ρ i) vx
 rw[R.row i hi,pt,jL]
 refine⟨_,rfl,?_,Fx.set h (W:=WB n ρ) ⟨i,hi,rfl⟩ _,rfl⟩
 have f:Fx W h (h.set (ρ i) (some (.cells false (rc n λj=>if j=p then vx else F i j)))):=Fx.set h (R.wb i hi) _
 refine⟨R.sv.fx R.off f,R.off,λj hj=>?_,R.wb,R.CP,R.low,R.inj,λj q hj hq=>?_⟩
 ·by_cases e:j=i
  ·subst e
   rw[H.aQ]
   congr 2
   refine bH λq _=>?_
   unfold F2
   by_cases e2:q=p
   ·rw[if_pos e2,if_pos ⟨rfl,e2⟩]
   ·rw[if_neg e2,if_neg (λh=>e2 h.2)]
  ·rw[H.aH h (λe2=>e (R.inj _ _ hj hi e2)),R.row j hj]
   congr 2
   refine bH λq _=>?_
   unfold F2
   rw[if_neg (λh=>e h.1)]
 ·unfold F2 Pm.put
  by_cases e:j=i/\q=p
  ·rw[if_pos e,if_pos e]
   exact PV.fx hx f
  ·rw[if_neg e,if_neg e]
   exact (R.ent j q hj hq).fx f
theorem PV.fresh {v:V}{l:List Nat}(s:SI h' v (zi l))(hf: ∀id off len cap,v= .sl id off len cap->h.next<=id)(hw: ∀id,W id->id<h.next):PV W h' v l:=by
 refine⟨s,?_⟩
 cases v with
 |sl id off len cap=>exact λhx=>by have:=hf _ _ _ _ rfl;have:=hw id hx;omega
 |_=>trivial
theorem Slot.nil {v:V}(s:Slot W h v none):v= .aC:=s
end
theorem kB.open {W:Nat->Prop}{h:H}{v:V}{ws:List V}{l:LN}(sv:SV h v 1 ws)(p:kB W h ws l):dR v=some (aA (l.length:Int))/\ ∃id off,Sl v 1 l.length id off/\ ∀i,i<l.length->id<h.next/\h.cell id (off+i)=some (ws.getD i .undef)/\PV W h (ws.getD i .undef) (l.getD i []):=by
 have hl:=cF.length p;refine⟨by unfold dR;rw[SV.len sv (n:=l.length) (by omega) (by omega)];rfl,?_⟩;obtain⟨id,off,sh,hid,hc⟩:=SV.shape sv l.length (by omega) (by omega);refine⟨id,off,sh,λi hi=>⟨hid (by omega),?_,?_⟩⟩
 ·rw[hc i (by omega)];simp [List.getD,show i<ws.length by omega]
 ·obtain⟨w,h1,h2⟩:=kB.at p hi
  rw[List.getD,h1];exact h2
theorem HZ {α:Type}{l:List α}{x d:α}{k:Nat}:x∈l.take k↔ ∃q,q<k/\q<l.length/\l.getD q d=x:=by
 constructor
 ·intro h
  obtain⟨q,hq,e⟩:=Fg.1 h;rw[Ny] at hq;refine⟨q,by omega,by omega,?_⟩;rw[List.getElem_take] at e;rw[List.getD,iI (by omega),←e];rfl
 ·rintro⟨q,h1,h2,e⟩
  rw[List.getD,iI h2] at e;refine Fg.2 ⟨q,by rw[Ny];omega,?_⟩;rw[List.getElem_take];exact e
set_option maxRecDepth 100000
set_option maxRecDepth 100000
set_option maxRecDepth 100000
theorem LJ (h:H)(n:Nat)(hn:n<=100000):Cv h 1 24 [.aC] (aA n) (aA n)=some (.sl h.next 0 n (.kn n),h.new (.cells false (rc n λ_=> .aC))):=by
 have e:dK [V.aC] n=rc n λ_=> .aC:=(Iw (by simp [dK]) λi hi=>by simp [dK,hi,Nat.mod_one]).symm
 rw[qZ (by omega) (Int.le_refl _) (by omega) (by omega),Int.toNat_natCast,Nat.mul_one,e]
section
variable {h:H} {v:V} {n:Nat} {l:List Nat}
structure Mp (h:H)(v:V)(n id:Nat)(l:List Nat):Prop where
 ex: ∃cap rest,v= .sl id 0 n cap/\id<h.next/\h.get id=bX (ints (zi l)++rest)
 fI:bG n l
theorem Mp.of {b:Nat}(h0:0<n)(X:bG n l)(o:eX h v 1 (ints (zi l)) b): ∃id,Mp h v n id l/\b<=id:=by
 rcases o with ⟨_,e⟩|⟨id,m,cap,rest,rfl,e2,e3,e4,e5,e6⟩
 ·have:=congrArg List.length e
  rw[aM,aS,List.length_nil,X.len] at this;omega
 ·rw[aM,aS,Nat.mul_one,X.len] at e2
  subst e2;exact⟨id,⟨⟨cap,rest,rfl,e5,e6⟩,X⟩,e4⟩
theorem Mp.si {id:Nat}(m:Mp h v n id l):SI h v (zi l):=by
 obtain⟨⟨cap,rest,rfl,h1,h2⟩,X⟩:=m;refine .inr ⟨id,0,n,cap,false,_,rfl,by rw[aM,aS,X.len,Nat.mul_one],h1,h2,by rw[pQ,aM,aS,X.len];omega,?_⟩;rw[List.drop_zero,Nat.mul_one,List.take_left' (by rw[aM,aS,X.len])]
theorem Mp.mono {h':H}{id:Nat}(m:Mp h v n id l)(hn:h.next<=h'.next)(hg:h'.get id=h.get id):Mp h' v n id l:=by
 obtain⟨⟨cap,rest,h1,h2,h3⟩,X⟩:=m;exact⟨⟨cap,rest,h1,by omega,by rw[hg];exact h3⟩,X⟩
end
theorem Tu.cell {x:Nat}{a c:H}(f:Tu x a c){id off:Nat}(h1:id<a.next)(h2:id≠x):c.cell id off=a.cell id off:=by unfold H.cell;rw[f.get id h1 h2]
set_option maxRecDepth 100000
section
variable {n:Nat} {G:List Nat->Prop} {L:LN} {K:List Nat}
theorem LQ (E:fN G L){y:List Nat}(hy:G y):L.idxOf y<L.length/\L.getD (L.idxOf y) []=y:=by
 have h1:=(E.mem y).2 hy;have h2:=List.idxOf_lt_length_iff.2 h1;refine⟨h2,?_⟩;rw[List.getD,iI h2];simp
theorem Bs.lt (k:Bs n G L K){r:Nat}(hr:r∈K):r<L.length:=(qX.1 (k.perm.mem_iff.1 hr)).1
theorem Bs.nd (k:Bs n G L K):K.Nodup:=k.perm.nodup_iff.2 (by unfold jS;exact List.nodup_range.filter _)
noncomputable def zp (n:Nat)(x:List Nat)(z:Int):List Nat:=pw n x (z%(jR x n:Nat)).toNat
variable (hG:tL n G) (E:fN G L) (k:Bs n G L K)
include hG E k
theorem Po {j:Nat}(hj:j<L.length):jC G L K j<K.length/\cR G L (K.getD (jC G L K j) 0) j:=by
 obtain⟨i,hi,h⟩:=Mq hG E k.perm hj;have e:=Xp hG E k.perm hi h;rw[e];exact⟨hi,(nI.1 h).2⟩
omit hG E k in
theorem Ax {x:List Nat}(X:bG n x):jR x n=1↔x=bZ n:=by
 constructor
 ·intro h
  have:=(uV X 1).1 (by rw[h];exact Nat.dvd_refl _);rwa [Ou X] at this
 ·intro h
  have:=(uV X 1).2 (by rw[Ou X];exact h);exact Nat.dvd_one.1 this
theorem Xu:0<K.length/\K.getD 0 0=0:=by
 obtain⟨h0,h1⟩:=IW hG E;have hm:0∈K:=k.perm.mem_iff.2 (qX.2 ⟨h0,λj hj=>by omega⟩);have hl:=List.length_pos_of_mem hm;refine⟨hl,?_⟩;obtain⟨i,hi,ei⟩:=Fg.1 hm
 by_cases e:i=0
 ·subst e;rw[List.getD,iI hl];exact ei
 ·have:=List.pairwise_iff_getElem.1 k.asc 0 i hl hi (by omega)
  rw[ei] at this;have e1:jR (L.getD 0 []) n=1:=(Ax (by rw[h1];exact bG.one n)).2 h1;have hr:K[0]<L.length:=k.lt (List.getElem_mem hl);have X:=mD hG E hr;have p:=Cj X;unfold TV at this;rw[e1] at this;have h2:jR (L.getD K[0] []) n=1:=by omega
  have h3:=(Ax X).1 h2;rw[←h1] at h3;have:=Jn E.nodup hr h0 h3;rw[List.getD,iI hl];exact this
end
def TP (n:Nat)(x:List Nat):Nat->Nat->Nat
 |0,k=>k
 |f+1,k=>if pw n x k=bZ n then k else TP n x f (k+1)
def Wr (n:Nat)(x:List Nat):Nat:=TP n x 420 1
theorem Yq {n:Nat}{x:List Nat}(X:bG n x): ∀f k,0<k->k<=jR x n->jR x n<=k+f->TP n x f k=jR x n
 |0,k,_,h1,h2=>by show k=_;omega
 |f+1,k,h0,h1,h2=>by
  unfold TP;split
  ·rename_i e
   exact Nat.le_antisymm h1 (Nat.le_of_dvd h0 ((uV X k).2 e))
  ·rename_i e
   refine Yq X f (k+1) (by omega) ?_ (by omega)
   by_cases h:k=jR x n
   ·exact absurd ((uV X k).1 (by rw[h];exact Nat.dvd_refl _)) e
   ·omega
theorem OK {n:Nat}{x:List Nat}(X:bG n x)(hn:n<=7):jR x n=Wr n x:=
 (Yq X 420 1 (by omega) (Cj X) (by have:=Nat.le_of_dvd (by omega) (Qf X hn);omega)).symm
def YY (L:LN)(i j:Nat):Bool:=L.any λc=>oG (L.getD i []) c==L.getD j []
def Vn (L:LN)(i:Nat):List Nat:=(List.range L.length).filter (YY L i)
def Sv (L:LN):List Nat:=(List.range L.length).filter λj=>(List.range j).all λi=>!YY L i j
def CA (L:LN)(K:List Nat)(j:Nat):Nat:=K.findIdx λr=>YY L r j
def YB (n:Nat)(L:LN)(r s:Nat):Bool:=decide (Wr n (L.getD r [])<Wr n (L.getD s [])∨Wr n (L.getD r [])=Wr n (L.getD s [])/\((Vn L r).length<(Vn L s).length∨(Vn L r).length=(Vn L s).length/\r<s))
section
variable {n:Nat} {G:List Nat->Prop} {L:LN} {K:List Nat}
theorem VE (E:fN G L){x y:List Nat}:cj G x y↔(L.any λc=>oG x c==y)=true:=by
 rw[List.any_eq_true];constructor
 ·rintro⟨c,hc,e⟩
  exact⟨c,(E.mem c).2 hc,by simpa using e⟩
 ·rintro⟨c,hc,e⟩
  exact⟨c,(E.mem c).1 hc,by simpa using e⟩
theorem Vm (E:fN G L){i j:Nat}:cR G L i j↔YY L i j=true:=VE E
theorem LO (E:fN G L)(i j:Nat)(d:Decidable (cR G L i j)): @decide (cR G L i j) d=YY L i j:=by
 rw[Bool.eq_iff_iff,decide_eq_true_iff];exact Vm E
theorem Nc (E:fN G L)(i:Nat):iP G L i=Vn L i:=by
 unfold iP Vn;exact List.filter_congr λj _=>LO E i j _
theorem HU (E:fN G L):jS G L L.length=Sv L:=by
 unfold jS Sv;refine List.filter_congr λj _=>?_
 classical
 rw[Bool.eq_iff_iff,decide_eq_true_iff,List.all_eq_true];unfold Yi;constructor
 ·intro h i hi
  have:=h i (Na.1 hi);rw[Vm E] at this;simpa using this
 ·intro h i hi
  have:=h i (Na.2 hi);rw[Vm E];simpa using this
theorem Ga (E:fN G L)(j:Nat):jC G L K j=CA L K j:=by
 unfold jC CA;congr 1;funext r;exact LO E r j _
theorem aaE (hG:tL n G)(E:fN G L): ∀x∈L,bG n x:=λx hx=>hG.fI ((E.mem x).1 hx)
theorem Wt (hG:tL n G)(E:fN G L)(hn:n<=7){r:Nat}(hr:r<L.length):jR (L.getD r []) n=Wr n (L.getD r []):=OK (aaE hG E _ (bI hr)) hn
theorem OO (hG:tL n G)(E:fN G L)(hn:n<=7){r s:Nat}(hr:r<L.length)(hs:s<L.length):TV n G L r s↔YB n L r s=true:=by
 unfold TV YB;rw[decide_eq_true_iff,Wt hG E hn hr,Wt hG E hn hs,Nc E,Nc E]
def Jr (n:Nat)(L:LN)(K:List Nat):Bool:=K.isPerm (Sv L)&&decide (K.Pairwise λr s=>YB n L r s=true)
theorem Jr.isK (hG:tL n G)(E:fN G L)(hn:n<=7)(h:Jr n L K=true):Bs n G L K:=by
 unfold Jr at h;rw[Bool.and_eq_true,decide_eq_true_iff] at h;have p:K.Perm (Sv L):=List.isPerm_iff.1 h.1
 have hm: ∀r∈K,r<L.length:=λr hr=>by
  have:=p.mem_iff.1 hr;unfold Sv at this;exact Na.1 (JL.1 this).1
 exact⟨by rw[HU E];exact p,List.Pairwise.imp_of_mem (λhr hs h=>(OO hG E hn (hm _ hr) (hm _ hs)).2 h) h.2⟩
theorem Jr.eq (hG:tL n G)(E:fN G L)(hn:n<=7){K0:List Nat}(h:Jr n L K0=true)(k:Bs n G L K):K=K0:=k.uniq (Jr.isK hG E hn h)
end
def aaA (n:Nat)(S:LN)(w:List Nat):List Nat:=w.foldl (λx i=>aV x (S.getD i [])) (bZ n)
theorem Tf {n:Nat}{S:LN}: ∀(w:List Nat) (x:List Nat),(∀i∈w,i<S.length)->eQ n (· ∈S) x->eQ n (· ∈S) (w.foldl (λx i=>aV x (S.getD i [])) x)
 | [],_,_,h=>h
 |i::w,x,hw,h=>Tf w _ (λj hj=>hw j (by simp [hj])) (h.mul (bI (hw i (by simp))))
def JO (n:Nat)(S L:LN)(ws:LN):Bool:=
 L==ws.map (aaA n S)&&ws.all (λw=>w.all λi=>decide (i<S.length))&&decide (L.Pairwise λx y=>sH x y=true)&&L.all (λx=>x.length==n)&&L.contains (bZ n)&&L.all λx=>S.all λg=>L.contains (aV x g)
theorem JO.ZN {n:Nat}{S L:LN}{ws:LN}(h:JO n S L ws=true):fN (eQ n (· ∈S)) L:=by
 unfold JO at h;simp only[Bool.and_eq_true,beq_iff_eq,List.all_eq_true,decide_eq_true_iff,List.contains_iff_mem] at h;obtain⟨⟨⟨⟨⟨h1,h2⟩,h3⟩,h4⟩,h5⟩,h6⟩:=h;refine⟨List.Pairwise.imp_of_mem (λhx hy h=>(mZ (by rw[h4 _ hx,h4 _ hy])).1 h) h3,λx=>⟨λhx=>?_,λhx=>?_⟩⟩
 ·rw[h1] at hx
  obtain⟨w,hw,rfl⟩:=wQ.1 hx;exact Tf w _ (h2 w hw) .one
 ·induction hx with
  |one=>exact h5
  |mul _ hg ih=>exact h6 _ ih _ hg
def C4:LN:= [[1,2,3,0]]
def A4:LN:= [[1,2,0,3], [0,2,3,1]]
def L3:LN:= [[0,1,2], [0,2,1], [1,0,2], [1,2,0], [2,0,1], [2,1,0]]
def L4:LN:= [[0,1,2,3], [1,2,3,0], [2,3,0,1], [3,0,1,2]]
theorem Gn:fN (eQ 4 (· ∈C4)) L4:=JO.ZN (ws:= [[], [0], [0,0], [0,0,0]]) (by decide+kernel)
theorem wK:Jr 3 L3 [0,1,3]=true:=by decide+kernel
theorem TS:Jr 4 L4 [0,2,1,3]=true:=by decide+kernel
def Lr (n:Nat)(x:List Nat):Bool:=x.length==n&&decide x.Nodup&&x.all λp=>decide (p<n)
theorem Rt {n:Nat}{x:List Nat}(h:Lr n x=true):bG n x:=by
 unfold Lr at h;simp only[Bool.and_eq_true,beq_iff_eq,List.all_eq_true,decide_eq_true_iff] at h;exact⟨h.1.1,h.1.2,h.2⟩
theorem WW: ∀g∈C4,bG 4 g:=λg hg=>Rt ((List.all_eq_true.1 (show C4.all (Lr 4)=true by decide+kernel)) g hg)
theorem lB (h:H)(x y z:Int):qS h 1 [aA 0] 3 [(0,1,aA x),(1,1,aA y),(2,1,aA z)]=some (.sl h.next 0 3 (.kn 3),h.new (.cells false (ints [x,y,z]))):=by
 have e:dK [aA 0] 3= [aA 0,aA 0,aA 0]:=rfl;simp [qS,iZ,e,putAt,V.cells,V.one,ints]
theorem Xb (h:H)(x y z w:Int):qS h 1 [aA 0] 4 [(0,1,aA x),(1,1,aA y),(2,1,aA z),(3,1,aA w)]=some (.sl h.next 0 4 (.kn 4),h.new (.cells false (ints [x,y,z,w]))):=by
 have e:dK [aA 0] 4= [aA 0,aA 0,aA 0,aA 0]:=rfl;simp [qS,iZ,e,putAt,V.cells,V.one,ints]
theorem XS (h:H)(x y z w u v:Int):qS h 1 [aA 0] 6 [(0,1,aA x),(1,1,aA y),(2,1,aA z),(3,1,aA w),(4,1,aA u),(5,1,aA v)]=some (.sl h.next 0 6 (.kn 6),h.new (.cells false (ints [x,y,z,w,u,v]))):=by
 have e:dK [aA 0] 6= [aA 0,aA 0,aA 0,aA 0,aA 0,aA 0]:=rfl;simp [qS,iZ,e,putAt,V.cells,V.one,ints]
theorem NF (h:H){v u:V}(hv:v.cells= [v]/\v.one=true)(hu:u.cells= [u]/\u.one=true):qS h 1 [.aC] 2 [(0,1,v),(1,1,u)]=some (.sl h.next 0 2 (.kn 2),h.new (.cells false [v,u])):=by
 have e:dK [V.aC] 2= [.aC,.aC]:=rfl;simp [qS,iZ,e,putAt,hv.1,hv.2,hu.1,hu.2]
theorem pN (id o m:Nat)(c:pY):(V.sl id o m c).cells= [.sl id o m c]/\(V.sl id o m c).one=true:=⟨rfl,rfl⟩
theorem yO {h:H}{ID:Nat}(hid:h.next=ID)(l:List Int): ∃x,h.new (.cells false (ints l))=x/\x.next=ID+1/\SI x (.sl ID 0 l.length (.kn l.length)) l/\Fr h x:=by
 obtain⟨x,e,n,g,o,f⟩:=iD hid (ints l);exact⟨x,e,n,SV.all (by rw[aM,Nat.mul_one]) (by omega) g _,f⟩
theorem SP.two {h h':H}{id:Nat}{v u:V}{a b:List Nat}(hv:SI h v (zi a))(hu:SI h u (zi b))(hid:id<h'.next)(f:Fr h h')(g:h'.get id=bX [v,u])(cap:pY):SP h' (.sl id 0 2 cap) [a,b]:=
 ⟨[v,u],SV.all rfl hid g _,hv.mono f,hu.mono f,trivial⟩
theorem SP.aaM {h h':H}{id:Nat}{v:V}{a:List Nat}(hv:SI h v (zi a))(hid:id<h'.next)(f:Fr h h')(g:h'.get id=bX [v])(cap:pY):SP h' (.sl id 0 1 cap) [a]:=
 ⟨[v],SV.all rfl hid g _,hv.mono f,trivial⟩
theorem GC.sl {W:Nat->Prop}{h:H}{vc:V}{n:Nat}{O:LN}{R:oQ}{G:List Nat->Prop}(g:GC W h vc n O R G): ∃vO vR,vc= .agg [aA n,vO,vR]/\vO.one=true/\vR.one=true/\eP vO vO=true/\eP vR vR=true:=by
 obtain⟨vO,vR,wsO,wsR,e,t1,_,_,t2,_,_⟩:=g.cw;exact⟨vO,vR,e,t1.dZ.2.1,t2.dZ.2.1,t1.eP,t2.eP⟩
theorem GC.el {W:Nat->Prop}{h:H}{vc:V}{n:Nat}{O:LN}{R:oQ}{G:List Nat->Prop}{L:LN}(g:GC W h vc n O R G)(E:fN G L):cV O R n 0 (bZ n)=L:=(jH g.kY g.isc).1.uniq E
theorem uN {v:V}{h:H}{l:List Int}(s:SI h v l):v.cells= [v]/\v.one=true:=⟨(SV.dZ s).1,(SV.dZ s).2.1⟩
theorem dT {i:Decidable True}: @decide True i=true:=decide_eq_true trivial
def SB (h:H)(v:V)(l:List Bool):Prop:=SV h v 1 (l.map V.bool)
theorem SB.mono {h h':H}{v:V}{l:List Bool}(s:SB h v l)(f:Fr h h'):SB h' v l:=SV.mono s f
theorem SB.open {h:H}{v:V}{l:List Bool}(s:SB h v l):dR v=some (aA (l.length:Int))/\ ∃id off,Sl v 1 l.length id off/\ ∀i,i<l.length->id<h.next/\h.cell id (off+i)=some (.bool (l.getD i false)):=by
 have hl:(l.map V.bool).length=l.length:=sQ ..;refine⟨by unfold dR;rw[SV.len s (n:=l.length) (by omega) (by omega)];rfl,?_⟩;obtain⟨id,off,sh,hid,hc⟩:=SV.shape s l.length (by omega) (by omega);exact⟨id,off,sh,λi hi=>⟨hid (by omega),by rw[hc i (by omega),List.getElem?_map,List.getD,iI hi];rfl⟩⟩
set_option maxRecDepth 100000
theorem GC.all {W:Nat->Prop}{h:H}{vc:V}{n:Nat}{O:LN}{R:oQ}{G:List Nat->Prop}(g:GC W h vc n O R G):fN G (cV O R n 0 (bZ n))/\(cV O R n 0 (bZ n)).length<=5040:=by
 have e:=jH g.kY g.isc;exact⟨e.1,by rw[e.2];exact mK g⟩
section
variable {n:Nat} {G H:List Nat->Prop} {L M:LN} {K K':List Nat} {x:List Nat}
variable (hG:tL n G) (E:fN G L) (k:Bs n G L K) (hH:tL n H) (F:fN H M) (k':Bs n H M K') (X:bG n x) (hx: ∀y,H y↔ ∃g,G g/\oG g x=y)
include hG E k hH F k' X hx
end
def eZ (v:V)(id:Nat):Prop:= ∃off m c,v= .sl id off m c
theorem kB.sp' {W:Nat->Prop}{h:H}{v:V}{ws:List V}{l:LN}(sv:SV h v 1 ws)(p:kB W h ws l):SP h v l:=by
 refine⟨ws,sv,?_⟩;have hl:=cF.length p
 exact cF.oA (by simpa using hl) λi hi hj=>by
  have:=(cF.get p i hi (by omega)).si;simpa using this
section
variable {h:H} {v:V} {ws:List V} {b k n:Nat} {x y:List Nat} {A S Q:LN}
def Pu (h:H)(v:V)(ws:List V)(b:Nat):Prop:= ∃id cap rest,v= .sl id 0 ws.length cap/\b<=id/\id<h.next/\h.get id=bX (ws++rest)/\(cap= .un 1∨cap= .kn 1/\ws.length+rest.length=1)
theorem Pu.sv (t:Pu h v ws b):SV h v 1 ws:=by
 obtain⟨id,cap,rest,rfl,h1,h2,h3,_⟩:=t;exact .inr ⟨id,0,_,cap,false,_,rfl,(Nat.mul_one _).symm,h2,h3,by rw[pQ];omega,by rw[List.drop_zero,Nat.mul_one,List.take_left' rfl]⟩
theorem Pu.sN {h':H}(t:Pu h v ws b)(hn:h.next<=h'.next)(hg: ∀id,eZ v id->h'.get id=h.get id):Pu h' v ws b:=by
 obtain⟨id,cap,rest,e,h1,h2,h3,h4⟩:=t;exact⟨id,cap,rest,e,h1,by omega,by rw[hg id ⟨_,_,_,e⟩];exact h3,h4⟩
theorem Pu.in (t:Pu h v ws b){id:Nat}(hb:eZ v id):b<=id/\id<h.next:=by
 obtain⟨i,cap,rest,rfl,h1,h2,_⟩:=t;obtain⟨_,_,_,e⟩:=hb;cases e;exact⟨h1,h2⟩
theorem Pu.pop (t:Pu h v ws b)(hk:ws.length=k+1):
  ∃v',rG 1 v none (some (aA k)) none=some v'/\Pu h v' (ws.take k) b/\ ∀id,eZ v' id->eZ v id:=by
 obtain⟨id,cap,rest,rfl,h1,h2,h3,h4⟩:=t
 have hl:(ws.take k).length=k:=by rw[Ny];omega
 have hr:ws++rest=ws.take k++(ws.drop k++rest):=by rw[←List.append_assoc,List.take_append_drop]
 rcases h4 with rfl|⟨rfl,h5⟩
 ·refine⟨_,LZ (by omega) (by omega),⟨id,_,ws.drop k++rest,by rw[hl,Int.toNat_natCast],h1,h2,by rw[h3,hr],.inl rfl⟩,λi ⟨_,_,_,e⟩=>by cases e;exact⟨_,_,_,rfl⟩⟩
 ·refine⟨_,XG (by omega) (by omega),⟨id,_,ws.drop k++rest,by rw[hl,Int.toNat_natCast],h1,h2,by rw[h3,hr],.inr ⟨rfl,by rw[hl,pQ,List.length_drop];omega⟩⟩,λi ⟨_,_,_,e⟩=>by cases e;exact⟨_,_,_,rfl⟩⟩
theorem Pu.push {y:V}{S:Nat}{c:pY}(t:Pu h v ws b)(hS:SV h (.sl S 0 1 c) 1 [y])(hb:b<=h.next)(hw:ws.length<1000000):
  ∃v' h',Ak h 1 24 v (.sl S 0 1 c)=some (v',h')/\Pu h' v' (ws++ [y]) b/\(∀k,k<h.next-> ¬eZ v k->h'.get k=h.get k)/\h.next<=h'.next/\h'.next<=h.next+1/\ ∀k,eZ v' k->eZ v k∨k=h.next:=by
 have e1:Ak h 1 24 v (.sl S 0 1 c)=Ay.tX h 1 24 v 1 [y]:=by
  simp only[Ak,hS.len (n:=1) rfl (by omega),hS.slice]
 rw[e1]
 have hx:=t.sv
 have hlen:=hx.len (n:=ws.length) (by omega) (by omega)
 have hsl:=hx.slice
 obtain⟨id,cap,rest,rfl,h1,h2,h3,h4⟩:=t
 unfold Ay.tX
 simp only[hlen,hsl]
 rw[if_neg (by omega),if_pos ⟨by omega,by omega⟩]
 have key: ∀g:H,g.next=h.next->(∀k,k<h.next->k≠id->g.get k=h.get k)-> ∃v' h',some (V.sl h.next 0 (ws.length+1) (.un 1),g.new (.cells false (ws++ [y])))=some (v',h')/\Pu h' v' (ws++ [y]) b/\(∀k,k<h.next-> ¬eZ (.sl id 0 ws.length cap) k->h'.get k=h.get k)/\h.next<=h'.next/\h'.next<=h.next+1/\ ∀k,eZ v' k->eZ (.sl id 0 ws.length cap) k∨k=h.next:=by
  intro g gn gg;refine⟨_,_,rfl,⟨h.next,_, [],by rw[pQ];rfl,hb,by rw[H.aT];omega,by rw[←gn,H.aL,List.append_nil],.inl rfl⟩,λk hk ha=>?_,by rw[H.aT];omega,by rw[H.aT];omega,λk ⟨_,_,_,e⟩=>by cases e;exact .inr rfl⟩;rw[H.aY g (by omega)];exact gg k hk (λe=>ha ⟨_,_,_,by rw[e]⟩)
 rcases h4 with rfl|⟨rfl,h5⟩
 ·simp only[h3,if_true]
  exact key (h.set id none) rfl (λk _ hk=>H.aH h hk none)
 ·simp only
  by_cases e:ws.length+1<=1
  ·rw[if_pos e]
   have e0:ws= []:=List.eq_nil_of_length_eq_zero (by omega)
   subst e0
   obtain⟨z,rfl⟩: ∃z,rest= [z]:=List.length_eq_one_iff.1 (by simpa using h5)
   have hp:h.put id (0+([]:List V).length*1) [y]=some (h.set id (bX [y])):=by
    simp [H.put,h3,putAt]
   rw[hp]
   refine⟨_,_,rfl,⟨id,_, [],rfl,h1,h2,by rw[H.aQ];rfl,.inr ⟨rfl,rfl⟩⟩,λk hk ha=>H.aH h (λe=>ha ⟨0,0,.kn 1,by rw[e];rfl⟩) _,iL _,Nat.le_succ _,λk ⟨_,_,_,e⟩=>by cases e;exact .inl ⟨_,_,_,rfl⟩⟩
  ·rw[if_neg e]
   exact key h rfl (λ_ _ _=>rfl)
def WO (n:Nat):LN:=(xQ n n).filter (Lr n)
theorem NA (X:bG n x):x∈WO n:=by
 unfold WO;rw[JL];refine⟨X.rR,?_⟩;unfold Lr;simp only[Bool.and_eq_true,beq_iff_eq,List.all_eq_true,decide_eq_true_iff];exact⟨⟨X.len,X.nd⟩,X.lt⟩
theorem zU (hn:n<=5){l:LN}(nd:l.Nodup)(hP: ∀x∈l,bG n x):l.length<=120:=by
 have h: ∀n,n<=5->(WO n).length<=120:=by decide+kernel
 exact Nat.le_trans (List.Nodup.length_le_of_subset nd λx hx=>NA (hP x hx)) (h n hn)
theorem Bo {n:Nat}(asc:A.Pairwise Lt):A.Nodup:=asc.imp λh e=>by rw[e] at h;exact h.irrefl
def Kh (A:LN)(k:Nat)(y:List Nat):LN:=A.take k++y::A.drop k
theorem nZ {z:List Nat}:z∈Kh A k y↔z=y∨z∈A:=by
 unfold Kh;rw[Ka,List.mem_cons];constructor
 ·rintro (h|h|h)
  ·exact .inr (List.mem_of_mem_take h)
  ·exact .inl h
  ·exact .inr (List.mem_of_mem_drop h)
 ·rintro (h|h)
  ·exact .inr (.inl h)
  ·rw[←List.take_append_drop k A,Ka] at h
   rcases h with h|h
   ·exact .inl h
   ·exact .inr (.inr h)
theorem xL:(Kh A k y).length=A.length+1:=by
 unfold Kh;rw[pQ,List.length_cons,Ny,List.length_drop];omega
theorem JN {a b:List Nat}(A:bG n a)(B:bG n b)(h1: ¬Lt a b)(h2:a≠b):Lt b a:=by
 have h: ∃i,i<n/\a.getD i 0≠b.getD i 0:=Kt λh=>h2 (tN (by rw[A.len,B.len]) λi hi=>Kt λh3=>h ⟨i,by rw[←A.len];exact hi,h3⟩)
 obtain⟨i,hi,hne⟩:=h
 have hw: ∃i,(i<n/\a.getD i 0≠b.getD i 0)/\ ∀j,j<i-> ¬(j<n/\a.getD j 0≠b.getD j 0):=by
  revert hi hne
  induction i using Nat.strongRecOn with
  |ind i ih=>
   intro hi hne
   by_cases h: ∃j,j<i/\j<n/\a.getD j 0≠b.getD j 0
   ·obtain⟨j,h3,h4,h5⟩:=h
    exact ih j h3 h4 h5
   ·exact⟨i,⟨hi,hne⟩,λj hj hjn=>h ⟨j,hj,hjn⟩⟩
 obtain⟨k,⟨hk,hk2⟩,hmin⟩:=hw;have he: ∀j,j<k->a.getD j 0=b.getD j 0:=λj hj=>Kt λh3=>hmin j hj ⟨by omega,h3⟩
 rcases Nat.lt_or_gt_of_ne hk2 with h4|h4
 ·exact (h1 ⟨k,by rw[A.len];exact hk,he,h4⟩).elim
 ·exact⟨k,by rw[B.len];exact hk,λj hj=>(he j hj).symm,h4⟩
theorem KI (hP: ∀x∈A,bG n x)(Y:bG n y)(asc:A.Pairwise Lt)(p:ZW A y k)(hy:y∉A):(Kh A k y).Pairwise Lt:=by
 unfold Kh;rw[List.pairwise_append];have at': ∀{z:List Nat},z∈A.take k-> ∃i,i<k/\i<A.length/\A.getD i []=z:=λh=>(HZ (d:= [])).1 h
 have bt: ∀{z:List Nat},z∈A.drop k-> ∃i,k<=i/\i<A.length/\A.getD i []=z:=λh=>by
  obtain⟨q,hq,e⟩:=Fg.1 h;rw[List.length_drop] at hq;rw[List.getElem_drop] at e;exact⟨k+q,by omega,by omega,by rw[List.getD,iI (by omega),←e];rfl⟩
 have lo: ∀z∈A.take k,Lt z y:=λz hz=>by
  obtain⟨i,h1,h2,rfl⟩:=at' hz;exact (mZ (by rw[(hP _ (bI h2)).len,Y.len])).1 (p.lo i h1)
 have hi: ∀z∈A.drop k,Lt y z:=λz hz=>by
  obtain⟨i,h1,h2,rfl⟩:=bt hz;have Z:=hP _ (bI (d:= []) h2);refine JN Z Y (λh=>?_) (λe=>hy (by rw[←e];exact bI h2));have:=p.hi i h1 h2;rw[(mZ (by rw[Z.len,Y.len])).2 h] at this;cases this
 refine⟨asc.sublist (List.take_sublist k A),List.pairwise_cons.2 ⟨hi,asc.sublist (List.drop_sublist k A)⟩,λz hz w hw=>?_⟩;rcases List.mem_cons.1 hw with rfl|hw
 ·exact lo z hz
 ·have Z:=hP z (List.mem_of_mem_take hz)
  exact Lt.trans (by rw[Z.len,Y.len]) (lo z hz) (hi w hw)
structure RL (n:Nat)(S A Q:LN):Prop where
 asc:A.Pairwise Lt
 gen: ∀x∈A,eQ n (· ∈S) x
 one:bZ n∈A
 sub: ∀x∈Q,x∈A
 cl: ∀x∈A,x∉Q-> ∀g∈S,aV x g∈A
theorem RL.start (n:Nat)(S:LN):RL n S [bZ n] [bZ n]:=
 ⟨List.pairwise_singleton _ _,λx hx=>by simp at hx;subst hx;exact .one,by simp,λx hx=>hx,λx hx h=>absurd hx h⟩
theorem RL.done (j:RL n S A []):fN (eQ n (· ∈S)) A:=by
 refine⟨j.asc,λx=>⟨j.gen x,λh=>?_⟩⟩
 induction h with
 |one=>exact j.one
 |mul _ hg ih=>exact j.cl _ ih List.not_mem_nil _ hg
structure AZ (n:Nat)(S:LN)(x:List Nat)(i:Nat)(A Q:LN):Prop where
 asc:A.Pairwise Lt
 gen: ∀x∈A,eQ n (· ∈S) x
 one:bZ n∈A
 sub: ∀x∈Q,x∈A
 mem:x∈A
 cl: ∀z∈A,z∉Q->z=x∨ ∀g∈S,aV z g∈A
 dn: ∀j,j<i->aV x (S.getD j [])∈A
theorem AZ.start (j:RL n S A (Q++ [x])):AZ n S x 0 A Q:=
 ⟨j.asc,j.gen,j.one,λz hz=>j.sub z (by simp [hz]),j.sub x (by simp),λz hz hq=>by
  by_cases e:z=x
  ·exact .inl e
  ·exact .inr (j.cl z hz (by simp [hq,e])),λj hj=>by omega⟩
theorem AZ.done (j:AZ n S x S.length A Q):RL n S A Q:=
 ⟨j.asc,j.gen,j.one,j.sub,λz hz hq g hg=>by
  rcases j.cl z hz hq with rfl|h
  ·obtain⟨i,hi,e⟩:=Fg.1 hg
   have:=j.dn i hi;rwa [List.getD,iI hi,Option.getD_some,e] at this
  ·exact h g hg⟩
theorem AZ.skip {i:Nat}(j:AZ n S x i A Q)(h:aV x (S.getD i [])∈A):AZ n S x (i+1) A Q:=
 ⟨j.asc,j.gen,j.one,j.sub,j.mem,j.cl,λk hk=>by
  by_cases e:k=i
  ·rw[e];exact h
  ·exact j.dn k (by omega)⟩
theorem AZ.step {i:Nat}(j:AZ n S x i A Q)(hS: ∀g∈S,bG n g)(hi:i<S.length)(h:aV x (S.getD i [])∉A)(p:ZW A (aV x (S.getD i [])) k):AZ n S x (i+1) (Kh A k (aV x (S.getD i []))) (Q++ [aV x (S.getD i [])]):=by
 have gx:=j.gen x j.mem;have gy:eQ n (· ∈S) (aV x (S.getD i [])):=gx.mul (bI hi);obtain⟨y,hy⟩:=exI (aV x (S.getD i []));rw[hy] at gy h p ⊢;refine⟨KI (λz hz=>(j.gen z hz).fI hS) (gy.fI hS) j.asc p h,λz hz=>?_,nZ.2 (.inr j.one),λz hz=>?_,nZ.2 (.inr j.mem),λz hz hq=>?_,λq hq=>?_⟩
 ·rcases nZ.1 hz with rfl|hz
  ·exact gy
  ·exact j.gen z hz
 ·rcases Ka.1 hz with hz|hz
  ·exact nZ.2 (.inr (j.sub z hz))
  ·simp at hz;exact nZ.2 (.inl hz)
 ·rcases nZ.1 hz with rfl|hz
  ·exact absurd (by simp) hq
  ·rcases j.cl z hz (λh=>hq (by simp [h])) with e|h2
   ·exact .inl e
   ·exact .inr λg hg=>nZ.2 (.inr (h2 g hg))
 ·by_cases e:q=i
  ·rw[e,hy];exact nZ.2 (.inl rfl)
  ·exact nZ.2 (.inr (j.dn q (by omega)))
theorem EE {A:List V}(hk:k<=A.length)(z y:V):(((A++ [z]).take (k+1)++A.drop k).set k y)=A.take k++y::A.drop k:=by
 have h1:(A++ [z]).take (k+1)=A.take k++ [(A++ [z]).getD k .undef]:=by
  rw[iN .undef (by rw[pQ];simp;omega),List.take_append_of_le_length hk]
 rw[h1,List.append_assoc,List.set_append_right _ _ (by rw[Ny];omega),Ny,Nat.min_eq_left hk,Nat.sub_self]
 rfl
theorem kB.Kh {W:Nat->Prop}{wa:List V}(p:kB W h wa A)(q:PV W h v y)(hk:k<=A.length):kB W h (wa.take k++v::wa.drop k) (Go.Proofs.YtapfcpkecmmagaaGreat.Kh A k y):=by
 have hl:=cF.length p
 have t: ∀(k:Nat) (wa:List V) (A:LN),kB W h wa A->kB W h (wa.take k) (A.take k)/\kB W h (wa.drop k) (A.drop k):=by
  intro k
  induction k with
  |zero=>intro wa A p;exact⟨trivial,p⟩
  |succ k ih=>
   intro wa A p
   cases wa with
   |nil=>cases A with
    |nil=>exact⟨trivial,trivial⟩
    |cons=>exact p.elim
   |cons a wa=>cases A with
    |nil=>exact p.elim
    |cons b A=>
     obtain⟨h1,h2⟩:=ih wa A p.2
     exact⟨⟨p.1,h1⟩,h2⟩
 obtain⟨h1,h2⟩:=t k wa A p;exact h1.append ⟨q,h2⟩
theorem Pu.own (t:Pu h v ws b)(h0:0<ws.length):eX h v 1 ws b:=by
 obtain⟨id,cap,rest,rfl,h1,h2,h3,h4⟩:=t;refine .inr ⟨id,ws.length,cap,rest,rfl,(Nat.mul_one _).symm,?_,h1,h2,h3⟩;rcases h4 with h4|⟨rfl,h5⟩
 ·exact .inl h4
 ·have e:ws.length=1:=by omega
  exact .inr ⟨by rw[e],List.eq_nil_of_length_eq_zero (by omega)⟩
theorem VF {Q m:Nat}(hk:k<=m):rG 1 (.sl Q 0 (m+1) (.un 1)) (some (aA k)) none none=some (.sl Q k (m+1-k) (.un 1)):=by
 simp only[rG,nV];rw[if_pos ⟨by omega,by omega⟩];simp only[if_true,Int.toNat_natCast];rw[if_pos (by omega),Nat.zero_add,Nat.mul_one]
theorem OE {Q m:Nat}(hk:k<=m):rG 1 (.sl Q 0 (m+1) (.un 1)) (some (aA ((k:Int)+1))) none none=some (.sl Q (if k<m then k+1 else 0) (m-k) (.un 1)):=by
 simp only[rG,nV];rw[if_pos ⟨by omega,by omega⟩];have e:((k:Int)+1).toNat=k+1:=by omega
 simp only[if_true,e]
 by_cases h:k<m
 ·rw[if_pos (by omega),if_pos h]
  simp only[Option.some.injEq,V.sl.injEq,true_and,and_true];omega
 ·rw[if_neg (by omega),if_neg h]
  simp only[Option.some.injEq,V.sl.injEq,true_and,and_true];omega
theorem RT {Q:Nat}{z:V}(hk:k<=ws.length)(hg:h.get Q=bX (ws++ [z])):
  EH h 1 (.sl Q (if k<ws.length then k+1 else 0) (ws.length-k) (.un 1)) (.sl Q k (ws.length+1-k) (.un 1))=some (aA (ws.length-k:Nat),h.set Q (bX ((ws++ [z]).take (k+1)++ws.drop k))):=by
 have e1:qC (.sl Q (if k<ws.length then k+1 else 0) (ws.length-k) (.un 1))=some (ws.length-k):=rfl
 have e2:qC (.sl Q k (ws.length+1-k) (.un 1))=some (ws.length+1-k):=rfl
 have e3:min (ws.length+1-k) (ws.length-k)=ws.length-k:=by omega
 have e4:h.row Q k (ws.length-k)=some (ws.drop k):=by
  unfold H.row;rw[hg];show sub (ws++ [z]) k (ws.length-k)=_;unfold sub;rw[if_pos (by rw[pQ];omega),List.drop_append_of_le_length hk,List.take_left' (by rw[List.length_drop])]
 have e5:h.put Q (if k<ws.length then k+1 else 0) (ws.drop k)=some (h.set Q (bX ((ws++ [z]).take (k+1)++ws.drop k))):=by
  unfold H.put;rw[hg];show (putAt (ws++ [z]) _ (ws.drop k)).map _=_;unfold putAt;have hl:(ws++ [z]).length=ws.length+1:=by simp
  by_cases h:k<ws.length
  ·rw[if_pos h,if_pos (by rw[hl,List.length_drop];omega),List.length_drop,List.drop_eq_nil_of_le (as:=ws++ [z]) (by rw[hl];omega),List.append_nil];rfl
  ·have e:k=ws.length:=by omega
   rw[if_neg h,if_pos (by rw[hl,List.length_drop];omega),e,List.drop_length,List.append_nil,List.append_nil];have e6:(ws++ [z]).take (ws.length+1)=ws++ [z]:=List.take_of_length_le (by rw[hl];omega);rw[e6];simp
 simp only[EH,e1,e2,e3,Nat.mul_one,e4,e5]
structure YO (h hh:H)(va vt:V)(A Q:LN):Prop where
 ex: ∃wa wt,Pu hh va wa h.next/\Pu hh vt wt h.next/\kB (λq=>eZ va q∨eZ vt q) hh wa A/\kB (λq=>eZ va q∨eZ vt q) hh wt Q
 Fp: ∀q,eZ va q-> ¬eZ vt q
 fr:Fr h hh
theorem Kp (mo n:Nat)(vl:V)(S:LN)(h:H)(n0:1<=n)(n5:n<=5)(hS: ∀g∈S,bG n g)(hl:S.length<=16)(hmo: ∀A:LN,A.Nodup->(∀x∈A,eQ n (· ∈S) x)->A.length<=mo)(hv:SP h vl S):
  Ev T 18 [aA n,vl,aA mo] h (λv h'=> ∃A,fN (eQ n (· ∈S)) A/\A.length<=120/\SP h' v A/\Fr h h'):=by
 refine bL rX rfl rfl ?_
 have lv:=hv.lens
 rw[sQ] at lv
 obtain⟨id,off,ws,sh,hid,hwl,hc,hall⟩:=hv.open
 rw[sQ] at sh hid hwl hc
 simp(disch:=omega)only[go_sem,rX,aE]
 refine (Yt n h (by omega)).mono ?_
 rintro v1 h1 ⟨s1,f1,l1⟩
 obtain⟨B,hB⟩:=exI h1.next
 obtain⟨h2,e2,n2,g2,o2,f2⟩:=iD hB [v1]
 simp(disch:=omega)only[go_sem,dO _ (z:= .aC) (uN s1).1 (uN s1).2,hB,e2]
 refine (Yt n h2 (by omega)).mono ?_
 rintro v3 h3 ⟨s3,f3,l3⟩
 obtain⟨C,hC⟩:=exI h3.next
 obtain⟨h4,e4,n4,g4,o4,f4⟩:=iD hC [v3]
 have k1:=f1.next
 have k3:=f3.next
 have F4:=((f1.trans f2).trans f3).trans f4
 have one4: ∀{v:V} {hh:H},SI hh v (zi (bZ n))->Fr hh h4->(∀id off len cap,v= .sl id off len cap->id≠B/\id≠C)->PV (λq=>eZ (.sl B 0 1 (.kn 1)) q∨eZ (.sl C 0 1 (.kn 1)) q) h4 v (bZ n):=λ{v hh} s f hne=>by
  refine⟨s.mono f,?_⟩
  cases v with
  |sl i o m c=>
   have:=hne _ _ _ _ rfl;rintro (⟨_,_,_,e⟩|⟨_,_,_,e⟩)
   ·cases e;omega
   ·cases e;omega
  |_=>trivial
 have st4:YO h h4 (.sl B 0 1 (.kn 1)) (.sl C 0 1 (.kn 1)) [bZ n] [bZ n]:=by
  refine⟨⟨[v1], [v3],⟨B,_, [],rfl,by omega,by omega,by rw[o4 B (by omega),f3.get B (by omega)];exact g2,.inr ⟨rfl,rfl⟩⟩,⟨C,_, [],rfl,by omega,by omega,g4,.inr ⟨rfl,rfl⟩⟩,kB.one (one4 s1 ((f2.trans f3).trans f4) λi o m c e=>?_),kB.one (one4 s3 f4 λi o m c e=>?_)⟩,λq ⟨_,_,_,e⟩ ⟨_,_,_,e2⟩=>by cases e;cases e2;omega,F4⟩
  ·have:=SV.in s1 _ _ _ _ e;omega
  ·have:=SV.in s3 _ _ _ _ e;have:=l3 _ _ _ _ e;omega
 simp(disch:=omega)only[go_sem,dO _ (z:= .aC) (uN s3).1 (uN s3).2,hC,e4]
 refine aJ (λk' vars hh=> ∃(A Q:LN) (va vt:V),(∃g:Nat->V,vars= [aA n,vl,aA mo,g 3,va,vt,g 6,g 7,g 8,g 9,g 10,g 11,g 12,g 13,g 14])/\RL n S A Q/\YO h hh va vt A Q/\Q.length<=A.length/\k'=1000- 2*A.length+Q.length) _
  ⟨_,_,_,_,aB rfl,RL.start n S,st4,iL _,rfl⟩ ?_
 clear st4 one4 g2 g4 o2 o4 e2 e4 s1 s3 l1 l3 F4 f1 f2 f3 f4 k1 k3 n2 n4 hB hC
 rintro k' vars h5 ⟨A,Q,va,vt,⟨g,rfl⟩,J,st,hqa,rfl⟩
 have AP: ∀x∈A,bG n x:=λx hx=>(J.gen x hx).fI hS
 have la:=zU n5 (Bo J.asc (n:=n)) AP
 obtain⟨⟨wa,wt,ta,tt,pa,pt⟩,Fp,fr⟩:=st
 have lwa:=cF.length pa
 have lwt:=cF.length pt
 have lt5:dR vt=some (aA (Q.length:Int)):=by unfold dR;rw[SV.len tt.sv (n:=Q.length) (by omega) (by omega)];rfl
 by_cases hq:(0:Int)<(Q.length:Int)
 case neg=>
  have d1:=kU hq;have e0:Q= []:=List.eq_nil_of_length_eq_zero (by omega);simp(disch:=omega)only[go_sem,lt5,d1];subst e0;exact⟨A,J.done,la,kB.sp' ta.sv pa,fr⟩
 have d1:=oD hq
 obtain⟨m,hm⟩: ∃m,Q.length=m+1:=⟨Q.length- 1,by omega⟩
 have em:(Q.length:Int)- 1=(m:Int):=by omega
 obtain⟨_,idt,offt,sht,hct⟩:=kB.open tt.sv pt
 obtain⟨_,cx,px⟩:=hct m (by omega)
 obtain⟨x,hx⟩:=exI (Q.getD m [])
 rw[hx] at px
 generalize wt.getD m .undef=vx at cx px
 obtain⟨vt',sl5,tt',bt'⟩:=tt.pop (k:=m) (by omega)
 have hQ:Q=Q.take m++ [x]:=by
  rw[←hx,←iN [] (by omega),List.take_of_length_le (by omega)]
 have ptk:kB (λq=>eZ va q∨eZ vt' q) h5 (wt.take m) (Q.take m):=by
  have t: ∀(k:Nat) (wa:List V) (A:LN),kB (λq=>eZ va q∨eZ vt q) h5 wa A->kB (λq=>eZ va q∨eZ vt q) h5 (wa.take k) (A.take k):=by
   intro k
   induction k with
   |zero=>intro wa A p;exact trivial
   |succ k ih=>
    intro wa A p
    cases wa with
    |nil=>cases A with
     |nil=>exact trivial
     |cons=>exact p.elim
    |cons a wa=>cases A with
     |nil=>exact p.elim
     |cons b A=>exact⟨p.1,ih wa A p.2⟩
  exact kB.sK (t m wt Q pt) λq _ hw=>hw.imp (λh=>h) (bt' q)
 have st':YO h h5 va vt' A (Q.take m):=⟨⟨wa,wt.take m,ta,tt',kB.sK pa λq _ hw=>hw.imp (λh=>h) (bt' q),ptk⟩,λq h1 h2=>Fp q h1 (bt' q h2),fr⟩
 have px':PV (λq=>eZ va q∨eZ vt' q) h5 vx x:=PV.sK px λq _ hw=>hw.imp (λh=>h) (bt' q)
 have J':AZ n S x 0 A (Q.take m):=AZ.start (by rw[←hQ];exact J)
 have lq':(Q.take m).length=m:=by rw[Ny];omega
 simp(disch:=omega)only[go_sem,lt5,d1,em,sht.ixa,cx,sl5]
 refine Bt (λvs hh=> ∃(A' Q':LN) (va vt:V),(∃g:Nat->V,vs= [aA n,vl,aA mo,g 3,va,vt,g 6,g 7,g 8,g 9,g 10,g 11,g 12,g 13,g 14])/\RL n S A' Q'/\YO h hh va vt A' Q'/\Q'.length<=A'.length/\1000- 2*A'.length+Q'.length<1000- 2*A.length+Q.length) ?_ ?_
 ·refine aJ (λk' vars hh=> ∃(i:Nat) (A' Q':LN) (va vt:V),(∃g:Nat->V,vars= [aA n,vl,aA mo,g 3,va,vt,vx,aA i,g 8,g 9,g 10,g 11,g 12,g 13,g 14])/\i<=S.length/\AZ n S x i A' Q'/\YO h hh va vt A' Q'/\PV (λq=>eZ va q∨eZ vt q) hh vx x/\Q'.length+A.length+1=A'.length+Q.length/\A.length<=A'.length/\k'=S.length-i) S.length
   ⟨0,A,Q.take m,va,vt',aB rfl,lW _,J',st',px',by omega,iL _,rfl⟩ ?_
  clear st' px' J' ptk tt' bt' sl5 Fp fr pa pt ta tt lwa lwt lt5 cx px hct sht vt' g
  rintro k' vars h6 ⟨i,A',Q',va,vt,⟨g,rfl⟩,hi,J,st,px,hcnt,hle,rfl⟩
  have AP': ∀x∈A',bG n x:=λx hx=>(J.gen x hx).fI hS
  have la':=zU n5 (Bo J.asc (n:=n)) AP'
  by_cases hlt:(i:Int)<(S.length:Int)
  case neg=>
   have d2:=kU hlt;obtain rfl:i=S.length:=by omega
   simp(disch:=omega)only[go_sem,lv,d2];exact⟨A',Q',va,vt,aB rfl,J.done,st,by omega,by omega⟩
  have d2:=oD hlt
  have hiS:i<S.length:=by omega
  obtain⟨⟨wa,wt,ta,tt,pa,pt⟩,Fp,fr⟩:=st
  have lwa:=cF.length pa
  have lwt:=cF.length pt
  have cg:h6.cell id (off+i)=some (ws.getD i .undef):=by rw[fr.cell (hid (by omega)),hc i hiS]
  have sg:=(Qj hall hiS).mono fr
  have Gp:bG n (S.getD i []):=hS _ (bI hiS)
  generalize ws.getD i .undef=vg at cg sg
  have X:bG n x:=AP' x J.mem
  simp(disch:=omega)only[go_sem,lv,d2,sh.ixa,cg]
  refine (SE vx vg x _ h6 (by rw[X.len];omega) px.si sg (λj hj=>by rw[Gp.len];exact X.fW (by rw[←X.len];exact hj))).mono ?_
  rintro vy h7 ⟨sy,f7,l7⟩
  obtain⟨y,hy⟩:=exI (aV x (S.getD i []))
  have Y:bG n y:=by rw[←hy];exact X.mul Gp
  rw[hy] at sy
  have ta7:=ta.sN f7.next λq hq=>f7.get q (ta.in hq).2
  have tt7:=tt.sN f7.next λq hq=>f7.get q (tt.in hq).2
  have pa7:=kB.fx pa (Fx.of f7:Fx (λq=>eZ va q∨eZ vt q) h6 h7)
  have pt7:=kB.fx pt (Fx.of f7:Fx (λq=>eZ va q∨eZ vt q) h6 h7)
  have px7:=PV.mono px f7
  have hWlt: ∀q,(eZ va q∨eZ vt q)->q<h6.next:=λq hq=>hq.elim (λh=>(ta.in h).2) (λh=>(tt.in h).2)
  have py7:PV (λq=>eZ va q∨eZ vt q) h7 vy y:=PV.fresh sy l7 hWlt
  simp(disch:=omega)only[go_sem]
  refine (JG va vy n A' y h7 (by omega) (by omega) AP' Y J.asc (kB.sp' ta7.sv pa7) sy).mono ?_
  rintro _ h8 ⟨k,rfl,pk,_,f8⟩
  have ta8:=ta7.sN f8.next λq hq=>f8.get q (ta7.in hq).2
  have tt8:=tt7.sN f8.next λq hq=>f8.get q (tt7.in hq).2
  have pa8:=kB.fx pa7 (Fx.of f8:Fx (λq=>eZ va q∨eZ vt q) h7 h8)
  have pt8:=kB.fx pt7 (Fx.of f8:Fx (λq=>eZ va q∨eZ vt q) h7 h8)
  have px8:=PV.mono px7 f8
  have py8:=PV.mono py7 f8
  have fr8:=(fr.trans f7).trans f8
  by_cases hyA:y∈A'
  ·have d3:decide (y∈A')=true:=decide_eq_true hyA
   simp(disch:=omega)only[go_sem,d3]
   rw[jP i]
   exact⟨S.length-(i+1),by omega,i+1,A',Q',va,vt,aB rfl,by omega,J.skip (by rw[hy];exact hyA),⟨⟨wa,wt,ta8,tt8,pa8,pt8⟩,Fp,fr8⟩,px8,hcnt,hle,rfl⟩
  have d3:decide (y∈A')=false:=decide_eq_false hyA
  have J2:=J.step hS hiS (by rw[hy];exact hyA) (by rw[hy];exact pk)
  rw[hy] at J2
  have la2:=zU n5 (Bo J2.asc (n:=n)) (λx hx=>(J2.gen x hx).fI hS)
  rw[xL] at la2
  have lva:dR va=some (aA (A'.length:Int)):=by unfold dR;rw[SV.len ta8.sv (n:=A'.length) (by omega) (by omega)];rfl
  have la3:=hmo _ (Bo J2.asc (n:=n)) J2.gen
  rw[xL] at la3
  have d4:decide ((mo:Int)<=(A'.length:Int))=false:=kU (by omega)
  have hA0:0<A'.length:=List.length_pos_of_mem J.one
  obtain⟨N,hN⟩:=exI h8.next
  obtain⟨h9,e9,n9,g9,o9,f9⟩:=iD hN [.aC]
  have ow9:=(ta8.own (by omega)).fr f9
  obtain⟨h10,a10,p10⟩:=ow9.push (bytes:=24) (SV.one (by omega) g9 (.kn 1)) (n:=A'.length) (m:=1) (by omega) rfl (by omega) (by omega) (by omega)
  have n10:=p10.next
  rw[n9] at a10
  have hk:=pk.le
  have g10:h10.get (N+1)=bX (wa++ [.aC]):=by rw[←n9];exact p10.get
  obtain⟨hb,ehb,nhb,ghb⟩: ∃hb:H,H.mk h10.tr (h10.next+8)=hb/\hb.next=h10.next+8/\ ∀q,hb.get q=h10.get q:=⟨_,rfl,rfl,λ_=>rfl⟩
  have cp:=RT (k:=k) (by omega) ((ghb (N+1)).trans g10)
  rw[lwa] at cp
  obtain⟨h11,e11,n11,g11,o11⟩:=Ju hb (N+1) ((wa++ [V.aC]).take (k+1)++wa.drop k)
  rw[e11] at cp
  have d5:decide ((k:Int)<0)=false:=kU (by omega)
  have d6:decide (((A'.length+1:Nat):Int)<=(k:Int))=false:=kU (by omega)
  have hl11:((wa++ [V.aC]).take (k+1)++wa.drop k).length=A'.length+1:=by
   rw[pQ,Ny,pQ,List.length_drop];simp;omega
  have pt1:=aZ (vs:=(wa++ [V.aC]).take (k+1)++wa.drop k) (off:=k) (by omega) h11 (N+1) vy
  rw[EE (by omega)] at pt1
  obtain⟨h12,e12,n12,g12,o12⟩:=Ju h11 (N+1) (wa.take k++vy::wa.drop k)
  rw[e12] at pt1
  have cvy:=uN sy
  have fT: ∀q,q<N-> ¬eZ va q->h12.get q=h8.get q:=λq h1 h2=>by
   rw[o12 q (by omega),o11 q (by omega),ghb,p10.old q (by omega) (λi o m c e e2=>h2 ⟨o,m,c,e2▸e⟩),o9 q (by omega)]
  have n12':h12.next=N+10:=by omega
  have tt12:=tt8.sN (h':=h12) (by omega) λq hq=>fT q (by have:=(tt8.in hq).2;omega) (λh=>Fp q h hq)
  obtain⟨P,hP⟩:=exI h12.next
  obtain⟨h13,e13,n13,g13,o13,f13⟩:=iD hP [vy]
  have tt13:=tt12.sN f13.next λq hq=>f13.get q (tt12.in hq).2
  have frn:=fr8.next
  obtain⟨vt2,h14,a14,tt14,old14,hn1,hn2,bk14⟩:=tt13.push (S:=P) (c:= .kn 1) (SV.one (by omega) g13 (.kn 1)) (by omega) (by omega)
  simp(disch:=omega)only[go_sem,d3,lva,d4,dO _ (z:= .aC) (v:= .aC) rfl rfl,hN,e9,a10,OE hk,VF hk,ehb,cp,d5,d6,g11,kO cvy.1 cvy.2,pt1,dO _ (z:= .aC) cvy.1 cvy.2,hP,e13,a14]
  rw[jP i]
  have htN: ∀q,eZ vt q->q<N:=λq hq=>by have:=(tt8.in hq).2;omega
  have oldAll: ∀q,q<N-> ¬eZ va q-> ¬eZ vt q->h14.get q=h8.get q:=λq h1 h2 h3=>by
   rw[old14 q (by omega) h3,f13.get q (by omega)];exact fT q h1 h2
  have xx:Fx (λq=>eZ va q∨eZ vt q) h8 h14:=⟨by omega,λq h1 h2=>oldAll q (by omega) (λh=>h2 (.inl h)) (λh=>h2 (.inr h))⟩
  have ww: ∀q,q<h8.next->(eZ (.sl (N+1) 0 (A'.length+1) (.un 1)) q∨eZ vt2 q)->eZ va q∨eZ vt q:=λq h1 h2=>by
   rcases h2 with ⟨_,_,_,e⟩|h2
   ·cases e;omega
   ·rcases bk14 q h2 with h3|h3
    ·exact .inr h3
    ·omega
  have g14:h14.get (N+1)=bX (wa.take k++vy::wa.drop k):=by
   rw[old14 (N+1) (by omega) (λh=>by have:=htN _ h;omega),f13.get (N+1) (by omega)];exact g12
  have py14:PV (λq=>eZ (.sl (N+1) 0 (A'.length+1) (.un 1)) q∨eZ vt2 q) h14 vy y:=PV.go py8 xx ww
  have pa14:=kB.Kh (kB.go pa8 xx ww) py14 (k:=k) (by omega)
  have lia:(wa.take k++vy::wa.drop k).length=A'.length+1:=by rw[cF.length pa14,xL]
  refine⟨S.length-(i+1),by omega,i+1,_,_,_,_,aB rfl,by omega,J2,⟨⟨_,_,⟨N+1,_, [],by rw[lia],by omega,by omega,by rw[List.append_nil];exact g14,.inl rfl⟩,tt14,pa14,(kB.go pt8 xx ww).append (kB.one py14)⟩,λq ⟨_,_,_,e⟩ h2=>?_,⟨by omega,λq hq=>?_⟩⟩,PV.go px8 xx ww,by rw[xL,pQ];simp;omega,by rw[xL];omega,rfl⟩
  ·cases e
   rcases bk14 _ h2 with h3|h3
   ·have:=htN _ h3;omega
   ·omega
  ·rw[oldAll q (by omega) (λh=>by have:=(ta8.in h).1;omega) (λh=>by have:=(tt8.in h).1;omega)]
   exact fr8.get q hq
 clear st' px' J' ptk tt' bt' sl5 Fp fr pa pt ta tt lwa lwt lt5 cx px hct sht vt' g
 rintro vars h6 ⟨A',Q',va,vt,⟨g,rfl⟩,J,st,hle,hms⟩
 simp(disch:=omega)only[go_sem]
 exact⟨_,hms,A',Q',va,vt,aB rfl,J,st,hle,rfl⟩
end
end Go.Proofs.YtapfcpkecmmagaaGreat
namespace Go.Ay
open Go
set_option maxRecDepth 100000
section
variable {e:Nat×V} {y:V}
def Xh (o:Option Ob)(h:H)(id:Nat)(s:vE)(zero k:V):Option (V×H):=match o with
 |some (.wmap sh es)=>if s=sh/\isKey s k=true then
   match fH k es with
   |some e=>some (.tup [e.2,.int .i64 (e.1:Nat)],h)
   |none=>some (.tup [zero,.int .i64 es.length],h.set id (some (.wmap sh (es++ [(k,zero)]))))
  else none
 |_=>none
def WY (s:vE)(zero:V)(h:H)(x k:V):Option (V×H):=match x with
 | .mp id=>Xh (h.get id) h id s zero k
 |_=>none
theorem OP (ρ:X->V)(h:H)(s:vE)(zero:V)(x k:X):cG ρ h (.ent s zero x k)=WY s zero h (ρ x) (ρ k):=by
 simp only[cG,WY,Xh];cases ρ x<;>try rfl
theorem PI (s:vE)(zero:V)(h:H)(id:Nat)(k:V):WY s zero h (.mp id) k=Xh (h.get id) h id s zero k:=rfl
def DK (o:Option Ob)(h:H)(id:Nat)(n:Int)(y:V):Option (V×H):=match o with
 |some (.wmap sh es)=>if 0<=n then
   match es[n.toNat]? with
   |some e=>some (V.undef,h.set id (some (.wmap sh (es.set n.toNat (e.1,y)))))
   |none=>none
  else none
 |_=>none
def YE (h:H)(x s y:V):Option (V×H):=match x,s with
 | .mp id,.int .i64 n=>DK (h.get id) h id n y
 |_,_=>none
theorem QS (ρ:X->V)(h:H)(x s y:X):cG ρ h (.ens x s y)=YE h (ρ x) (ρ s) (ρ y):=by
 simp only[cG,YE,DK];cases ρ x<;>try rfl
theorem SO (h:H)(id:Nat)(n:Int)(y:V):YE h (.mp id) (.int .i64 n) y=DK (h.get id) h id n y:=rfl
attribute [go_sem] OP PI QS SO
section
variable {κ:Type} [DecidableEq κ]
def zZ:List (κ×V)->κ->Option (Nat×V)
 | [],_=>none
 |p::l,a=>if a=p.1 then some (0,p.2) else (zZ l a).map λq=>(q.1+1,q.2)
def iK (enc:κ->V)(l:List (κ×V)):List (V×V):=l.map λp=>(enc p.1,p.2)
def Jq (l:List (κ×V))(a:κ):Option V:=(zZ l a).map (·.2)
def Ns (l:List (κ×V))(a:κ)(y:V):List (κ×V):=match zZ l a with
 |some e=>l.set e.1 (a,y)
 |none=>l++ [(a,y)]
theorem yS {enc:κ->V}{P:κ->Prop}(he: ∀a b,P a->P b->eP (enc a) (enc b)=decide (a=b)){a:κ}(ha:P a): ∀{l:List (κ×V)},(∀p∈l,P p.1)->fH (enc a) (iK enc l)=zZ l a
 | [],_=>rfl
 |p::l,h=>by
  show (if eP (enc a) (enc p.1) then some (0,p.2) else (fH (enc a) (iK enc l)).map λq=>(q.1+1,q.2))=if a=p.1 then some (0,p.2) else (zZ l a).map λq=>(q.1+1,q.2)
  rw[he a p.1 ha (h p (by simp)),yS he ha λq hq=>h q (by simp [hq])]
  by_cases e:a=p.1<;>simp [e]
theorem FZ {l:List (κ×V)}{a:κ}(h:zZ l a=some e):l[e.1]? =some (a,e.2):=by
 induction l generalizing e with
 |nil=>cases h
 |cons p l ih=>
  rw[zZ] at h
  by_cases c:a=p.1
  ·rw[if_pos c] at h
   cases h;simp [c]
  ·rw[if_neg c] at h
   obtain⟨q,hq,rfl⟩:=kV.1 h;simpa using ih hq
theorem PN (a:κ)(l m:List (κ×V))(h:zZ l a=none):zZ (l++m) a=(zZ m a).map λq=>(q.1+l.length,q.2):=by
 induction l with
 |nil=>cases hm:zZ m a<;>simp [hm]
 |cons p l ih=>
  rw[zZ] at h
  by_cases c:a=p.1
  ·rw[if_pos c] at h;cases h
  ·rw[if_neg c] at h
   have h':zZ l a=none:=by cases hl:zZ l a with|none=>rfl|some x=>rw[hl] at h;cases h
   rw[List.cons_append,zZ,if_neg c,ih h',Option.map_map]
   rfl
theorem Ms (a:κ)(l m:List (κ×V))(h:zZ l a=some e):zZ (l++m) a=some e:=by
 induction l generalizing e with
 |nil=>cases h
 |cons p l ih=>
  rw[zZ] at h;rw[List.cons_append,zZ]
  by_cases c:a=p.1
  ·rw[if_pos c] at h ⊢;exact h
  ·rw[if_neg c] at h ⊢
   obtain⟨q,hq,rfl⟩:=kV.1 h;rw[ih hq];rfl
theorem QV (l:List (κ×V)){a:κ}(y:V)(h:zZ l a=some e)(b:κ):Jq (l.set e.1 (a,y)) b=if b=a then some y else Jq l b:=by
 unfold Jq
 induction l generalizing e with
 |nil=>cases h
 |cons p l ih=>
  rw[zZ] at h
  by_cases c:a=p.1
  ·rw[if_pos c] at h
   cases h;show Option.map _ (if b=a then some (0,y) else (zZ l b).map λq=>(q.1+1,q.2))=_
   by_cases d:b=a
   ·rw[if_pos d,if_pos d];rfl
   ·rw[if_neg d,if_neg d,zZ,if_neg (by rw[←c];exact d)]
  ·rw[if_neg c] at h
   obtain⟨q,hq,rfl⟩:=kV.1 h;have ih:=ih hq;show Option.map _ (if b=p.1 then some (0,p.2) else (zZ (l.set q.1 (a,y)) b).map λq=>(q.1+1,q.2))=_
   by_cases d:b=p.1
   ·rw[if_pos d,if_neg (by rw[d];exact λe=>c e.symm),zZ,if_pos d]
   ·rw[if_neg d,Option.map_map,zZ,if_neg d,Option.map_map]
    exact ih
theorem Fw (l:List (κ×V))(a:κ)(y:V)(b:κ):Jq (Ns l a y) b=if b=a then some y else Jq l b:=by
 unfold Ns
 cases h:zZ l a with
 |some e=>exact QV l y h b
 |none=>
  show Jq (l++ [(a,y)]) b=_;unfold Jq
  cases hb:zZ l b with
  |some e=>
   rw[Ms b l _ hb,if_neg (λe=>by rw[e,h] at hb;cases hb)]
  |none=>
   rw[PN b l _ hb];show Option.map _ (Option.map _ (if b=a then some (0,y) else none))=_
   by_cases d:b=a
   ·rw[if_pos d,if_pos d];rfl
   ·rw[if_neg d,if_neg d];rfl
theorem Cs {P:κ->Prop}{l:List (κ×V)}{a:κ}(ha:P a)(hl: ∀p∈l,P p.1): ∀p∈Ns l a y,P p.1:=by
 unfold Ns;intro p hp;split at hp
 ·rcases List.mem_or_eq_of_mem_set hp with h|rfl
  ·exact hl p h
  ·exact ha
 ·rcases Ka.1 hp with h|h
  ·exact hl p h
  ·rw[List.mem_singleton.1 h];exact ha
omit [DecidableEq κ] in
theorem Hx {enc:κ->V}{l:List (κ×V)}{k:Nat}{a:κ}:(iK enc l).set k (enc a,y)=iK enc (l.set k (a,y)):=by
 unfold iK;rw[List.map_set]
omit [DecidableEq κ] in
theorem Lq {enc:κ->V}{l:List (κ×V)}{a:κ}:iK enc l++ [(enc a,y)]=iK enc (l++ [(a,y)]):=by
 unfold iK;rw[List.map_append];rfl
theorem IB {enc:κ->V}{P:κ->Prop}(he: ∀a b,P a->P b->eP (enc a) (enc b)=decide (a=b)){s:vE}(hk: ∀a,P a->isKey s (enc a)=true){l:List (κ×V)}(hl: ∀p∈l,P p.1){a:κ}(ha:P a)(y:V)(h:H)(id:Nat):
  Ty (some (.wmap s (iK enc l))) h id s (enc a) y=some (.undef,h.set id (some (.wmap s (iK enc (Ns l a y))))):=by
 simp only[Ty]
 rw[if_pos ⟨trivial,hk a ha⟩,yS he ha hl]
 unfold Ns
 cases zZ l a with
 |some e=>simp only[Hx]
 |none=>simp only[Lq]
theorem sU {enc:κ->V}{P:κ->Prop}(he: ∀a b,P a->P b->eP (enc a) (enc b)=decide (a=b)){s:vE}(hk: ∀a,P a->isKey s (enc a)=true){l:List (κ×V)}(hl: ∀p∈l,P p.1){a:κ}(ha:P a)(z:V):
  Ke (some (.wmap s (iK enc l))) s z false (enc a)=some ((Jq l a).getD z):=by
 simp only[Ke]
 rw[if_pos ⟨trivial,hk a ha⟩,yS he ha hl]
 unfold Jq
 cases zZ l a<;>rfl
theorem Ys {enc:κ->V}{P:κ->Prop}(he: ∀a b,P a->P b->eP (enc a) (enc b)=decide (a=b)){s:vE}(hk: ∀a,P a->isKey s (enc a)=true){l:List (κ×V)}(hl: ∀p∈l,P p.1){a:κ}(ha:P a)(z y:V)(h:H)(id:Nat)(hg:h.get id=some (.wmap s (iK enc l))):
  ∃(v:V) (n:Nat) (l1:List (κ×V)) (h1:H),Xh (some (.wmap s (iK enc l))) h id s z (enc a)=some (.tup [v,.int .i64 (n:Int)],h1)/\h1.next=h.next/\(∀k,k≠id->h1.get k=h.get k)/\h1.get id=some (.wmap s (iK enc l1))/\(∀p∈l1,P p.1)/\(∀b,(Jq l1 b).getD z=(Jq l b).getD z)/\
   ∀hh,DK (some (.wmap s (iK enc l1))) hh id (n:Int) y=some (.undef,hh.set id (some (.wmap s (iK enc (Ns l a y))))):=by
 have hw:=yS he ha hl
 unfold Ns
 cases hx:zZ l a with
 |some e=>
  rw[hx] at hw;refine⟨e.2,e.1,l,h,?_,rfl,λ_ _=>rfl,hg,hl,λ_=>rfl,λhh=>?_⟩
  ·simp only[Xh];rw[if_pos ⟨trivial,hk a ha⟩,hw]
  ·have hs:=FZ hx
   have:(iK enc l)[(e.1:Int).toNat]? =some (enc a,e.2):=by
    rw[Int.toNat_natCast];unfold iK;rw[List.getElem?_map,hs];rfl
   simp only[DK];rw[if_pos (by omega),this];simp only[Int.toNat_natCast,Hx]
 |none=>
  rw[hx] at hw;refine⟨z,l.length,l++ [(a,z)],h.set id (some (.wmap s (iK enc (l++ [(a,z)])))),?_,rfl,λk hk=>H.aH _ hk _,H.aQ ..,?_,λb=>?_,λhh=>?_⟩
  ·simp only[Xh]
   rw[if_pos ⟨trivial,hk a ha⟩,hw];simp only[Lq];rw[show (iK enc l).length=l.length from by unfold iK;rw[sQ]]
  ·intro p hp
   rcases Ka.1 hp with h|h
   ·exact hl p h
   ·rw[List.mem_singleton.1 h];exact ha
  ·have:=Fw l a z b
   unfold Ns at this;rw[hx] at this;have this:Jq (l++ [(a,z)]) b=if b=a then some z else Jq l b:=this
   rw[this]
   by_cases d:b=a
   ·rw[if_pos d,d];unfold Jq;rw[hx];rfl
   ·rw[if_neg d]
  ·have:(iK enc (l++ [(a,z)]))[(l.length:Int).toNat]? =some (enc a,z):=by
    rw[Int.toNat_natCast];unfold iK;rw[List.getElem?_map];simp
   simp only[DK];rw[if_pos (by omega),this];simp only[Int.toNat_natCast,Hx];simp
end
end
end Go.Ay
namespace Go.Proofs.YtapfcpkecmmagaaGreat
open Go Go.Ay Go.Pm
set_option maxRecDepth 100000
section
variable {h:H} {n:Nat}
theorem UH:([.int .u8 0,.int .u8 0,.int .u8 0,.int .u8 0,.int .u8 0,.int .u8 0,.int .u8 0,.int .u8 0,.int .u8 0,.int .u8 0,.int .u8 0,.int .u8 0,.int .u8 0,.int .u8 0,.int .u8 0,.int .u8 0,.int .u8 0,.int .u8 0,.int .u8 0,.int .u8 0,.int .u8 0,.int .u8 0,.int .u8 0,.int .u8 0,.int .u8 0,.int .u8 0,.int .u8 0,.int .u8 0,.int .u8 0,.int .u8 0,.int .u8 0,.int .u8 0,.int .u8 0,.int .u8 0,.int .u8 0,.int .u8 0,.int .u8 0,.int .u8 0,.int .u8 0,.int .u8 0,.int .u8 0,.int .u8 0,.int .u8 0,.int .u8 0,.int .u8 0,.int .u8 0,.int .u8 0,.int .u8 0,.int .u8 0,.int .u8 0,.int .u8 0,.int .u8 0,.int .u8 0,.int .u8 0,.int .u8 0,.int .u8 0,.int .u8 0,.int .u8 0,.int .u8 0,.int .u8 0,.int .u8 0,.int .u8 0,.int .u8 0,.int .u8 0]:List V)=rc 64 λ_=> .int .u8 0:=rfl
def Ps (x:List Nat):V:= .agg (rc 64 λi=> .int .u8 ((x.getD i 0:Nat):Int))
theorem Fj {id:Nat}{ws:List V}(hl:ws.length=n)(hg:h.get id=some (.cells false ws)):h.row id 0 n=some ws:=by
 unfold H.row;rw[hg];simp only[sub];rw[if_pos (by omega),List.drop_zero,List.take_of_length_le (by omega)]
theorem Rg {vs ws:List V}(h1:vs.length=n)(h2:ws.length=n)(h:H)(id:Nat):fJ (some (.cells false vs)) h id 0 ws=some (h.set id (some (.cells false ws))):=by
 simp only[fJ,putAt];rw[if_pos (by omega),Option.map_some,List.take_zero,List.nil_append,List.drop_of_length_le (by omega),List.append_nil]
theorem JB {f:Nat->V}(hf: ∀i,(f i).one=true):(rc n f).all V.one=true:=by
 rw[List.all_eq_true];intro v hv;obtain⟨i,_,rfl⟩:=wQ.1 hv;exact hf i
set_option maxHeartbeats 8000000
theorem Bz (u:V)(n:Nat)(x:List Nat)(h:H)(hn:n<=64)(X:bG n x)(hu:SI h u (zi x)):
  Ev T 40 [u] h (λv h'=>v=Ps x/\Fr h h'):=by
 refine bL qE rfl rfl ?_
 have lx:=X.len
 have lu:=hu.lens
 rw[aS,lx] at lu
 obtain⟨id,off,sh,hid,hc⟩:=hu.open
 rw[aS,lx] at sh hid hc
 obtain⟨A,hA⟩:=exI h.next
 obtain⟨h1,e1,n1,g1,o1,f1⟩:=iD hA (rc 64 λ_=> .int .u8 0)
 obtain⟨h2,e2,n2,g2,o2,f2⟩:=iD n1 (rc 64 λ_=> .int .u8 0)
 simp(disch:=omega)only[go_sem,qE,aE,UH,hA,e1,n1,e2,lu]
 refine aJ (λk' vars hh=> ∃(i:Nat),(∃j:Nat->V,vars= [j 0,.ptr A 0,.ptr (A+1) 0,j 3,j 4,u,aA n,aA i,j 8])/\i<=n/\
   hh.get (A+1)=some (.cells false (rc 64 λj=> .int .u8 ((if j<i then x.getD j 0 else 0:Nat):Int)))/\hh.get A=some (.cells false (rc 64 λ_=> .int .u8 0))/\hh.next=A+1+1/\Fr h hh/\k'=n-i) n
  ⟨0,aB rfl,lW _,g2,by rw[o2 A (by omega)];exact g1,n2,f1.trans f2,rfl⟩ ?_
 rintro k' vars h3 ⟨i,⟨j,rfl⟩,hi,gB,gA,n3,F,rfl⟩
 by_cases hlt:(i:Int)<(n:Int)
 ·have d1:=oD hlt
  have hi':i<n:=by omega
  have ci:h3.cell id (off+i)=some (aA (x.getD i 0:Nat)):=by rw[F.cell (hid (by omega)),hc i hi'];congr 2;simp [zi,lx,hi']
  have r:x.getD i 0<n:=X.fW hi'
  obtain⟨p,hp⟩:=exI (x.getD i 0)
  rw[hp] at ci r
  have pt:=aZ (vs:=rc 64 λj=> .int .u8 ((if j<i then x.getD j 0 else 0:Nat):Int)) (off:=i) (by rw[dX];omega) h3 (A+1) (.int .u8 (p:Int))
  rw[jL] at pt
  simp(disch:=omega)only[go_sem,d1,sh.ixa,ci,rU,gB,pt]
  rw[jP i]
  refine⟨n-(i+1),by omega,i+1,aB rfl,by omega,?_,?_,n3,F.set (by omega) _,rfl⟩
  ·congr 2
   refine bH λj hj=>?_
   by_cases e:j=i
   ·rw[if_pos e,if_pos (by omega),e,hp]
   ·rw[if_neg e]
    by_cases e2:j<i
    ·rw[if_pos e2,if_pos (by omega)]
    ·rw[if_neg e2,if_neg (by omega)]
  ·exact gA
 have d1:=kU hlt
 obtain rfl:i=n:=by omega
 have rr:=Fj (n:=64) (by rw[dX]) gB
 have ek:(rc 64 λj=>V.int .u8 ((if j<i then x.getD j 0 else 0:Nat):Int))=rc 64 λj=> .int .u8 ((x.getD j 0:Nat):Int):=by
  refine bH λj hj=>?_
  by_cases e:j<i
  ·rw[if_pos e]
  ·rw[if_neg e,List.getD_eq_getElem?_getD,List.getElem?_eq_none (by omega)];rfl
 rw[ek] at rr
 have pa:=Rg (vs:=rc 64 λ_=> .int .u8 0) (ws:=rc 64 λj=> .int .u8 ((x.getD j 0:Nat):Int)) (n:=64) (by rw[dX]) (by rw[dX]) h3 A
 have sa:=yE h3 A 0 64 (rc 64 λj=> .int .u8 ((x.getD j 0:Nat):Int)) (by rw[dX]) (JB λ_=>rfl)
 simp(disch:=omega)only[go_sem,d1,rr,sa,gA,pa]
 have ra:=Fj (h:=h3.set A (some (.cells false (rc 64 λj=> .int .u8 ((x.getD j 0:Nat):Int))))) (n:=64) (by rw[dX]) (H.aQ ..)
 simp(disch:=omega)only[go_sem,ra]
 exact⟨rfl,F.set (by omega) _⟩
theorem NZ (u w:V)(n:Nat)(x y:List Nat)(h:H)(hn:n<=64)(X:bG n x)(Y:bG n y)(hu:SI h u (zi x))(hw:SI h w (zi y)):
  Ev T 80 [u,w] h (λv h'=>v=Ps (aV (dI x) y)/\Fr h h'):=by
 refine bL mQ rfl rfl ?_
 have lx:=X.len
 have lu:=hu.lens
 rw[aS,lx] at lu
 obtain⟨id,off,sh,hid,hc⟩:=hu.open
 rw[aS,lx] at sh hid hc
 have ly:=Y.len
 obtain⟨idy,offy,shy,hidy,hcy⟩:=hw.open
 rw[aS,ly] at shy hidy hcy
 have Q:=X.inv.mul Y
 obtain⟨A,hA⟩:=exI h.next
 obtain⟨h1,e1,n1,g1,o1,f1⟩:=iD hA (rc 64 λ_=> .int .u8 0)
 obtain⟨h2,e2,n2,g2,o2,f2⟩:=iD n1 (rc 64 λ_=> .int .u8 0)
 simp(disch:=omega)only[go_sem,mQ,aE,UH,hA,e1,n1,e2,lu]
 refine aJ (λk' vars hh=> ∃(i:Nat),(∃j:Nat->V,vars= [j 0,w,.ptr A 0,.ptr (A+1) 0,j 4,j 5,u,aA n,aA i,j 9])/\i<=n/\
   hh.get (A+1)=some (.cells false (rc 64 λj=> .int .u8 ((if x.idxOf j<i then (aV (dI x) y).getD j 0 else 0:Nat):Int)))/\hh.get A=some (.cells false (rc 64 λ_=> .int .u8 0))/\hh.next=A+1+1/\Fr h hh/\k'=n-i) n
  ⟨0,aB rfl,lW _,g2,by rw[o2 A (by omega)];exact g1,n2,f1.trans f2,rfl⟩ ?_
 rintro k' vars h3 ⟨i,⟨j,rfl⟩,hi,gB,gA,n3,F,rfl⟩
 by_cases hlt:(i:Int)<(n:Int)
 ·have d1:=oD hlt
  have hi':i<n:=by omega
  have ci:h3.cell id (off+i)=some (aA (x.getD i 0:Nat)):=by rw[F.cell (hid (by omega)),hc i hi'];congr 2;simp [zi,lx,hi']
  have r:x.getD i 0<n:=X.fW hi'
  obtain⟨p,hp⟩:=exI (x.getD i 0)
  rw[hp] at ci r
  have cy:h3.cell idy (offy+i)=some (aA (y.getD i 0:Nat)):=by rw[F.cell (hidy (by omega)),hcy i hi'];congr 2;simp [zi,ly,hi']
  have r2:y.getD i 0<n:=Y.fW hi'
  have ip:x.idxOf p=i:=by rw[←qQ (by omega),←hp];exact rL X hi'
  have qp:(aV (dI x) y).getD p 0=y.getD i 0:=by rw[cH (by rw[X.inv.len];exact r),←hp,rL X hi']
  obtain⟨q,hq⟩:=exI (y.getD i 0)
  rw[hq] at cy r2 qp
  have pt:=aZ (vs:=rc 64 λj=> .int .u8 ((if x.idxOf j<i then (aV (dI x) y).getD j 0 else 0:Nat):Int)) (off:=p) (by rw[dX];omega) h3 (A+1) (.int .u8 (q:Int))
  rw[jL] at pt
  simp(disch:=omega)only[go_sem,d1,sh.ixa,ci,shy.ixa,cy,rU,gB,pt]
  rw[jP i]
  refine⟨n-(i+1),by omega,i+1,aB rfl,by omega,?_,?_,n3,F.set (by omega) _,rfl⟩
  ·congr 2
   refine bH λj hj=>?_
   by_cases e:j=p
   ·rw[if_pos e,if_pos (by rw[e,ip];omega),e,qp]
   ·rw[if_neg e]
    have ne:x.idxOf j≠i:=λh=>e (by
     by_cases hjn:j<n
     ·rw[←hp,←h,←qQ (by omega),UU X hjn]
     ·have:x.idxOf j=x.length:=List.idxOf_eq_length λhm=>hjn (X.lt j hm)
      omega)
    by_cases e2:x.idxOf j<i
    ·rw[if_pos e2,if_pos (by omega)]
    ·rw[if_neg e2,if_neg (by omega)]
  ·exact gA
 have d1:=kU hlt
 obtain rfl:i=n:=by omega
 have rr:=Fj (n:=64) (by rw[dX]) gB
 have ek:(rc 64 λj=>V.int .u8 ((if x.idxOf j<i then (aV (dI x) y).getD j 0 else 0:Nat):Int))=rc 64 λj=> .int .u8 (((aV (dI x) y).getD j 0:Nat):Int):=by
  refine bH λj hj=>?_
  by_cases e:x.idxOf j<i
  ·rw[if_pos e]
  ·have hjn: ¬j<i:=λhjn=>e (by rw[←qQ (by omega)];exact X.inv.fW hjn)
   rw[if_neg e,List.getD_eq_getElem?_getD,List.getElem?_eq_none (by rw[Q.len];omega)];rfl
 rw[ek] at rr
 have pa:=Rg (vs:=rc 64 λ_=> .int .u8 0) (ws:=rc 64 λj=> .int .u8 (((aV (dI x) y).getD j 0:Nat):Int)) (n:=64) (by rw[dX]) (by rw[dX]) h3 A
 have sa:=yE h3 A 0 64 (rc 64 λj=> .int .u8 (((aV (dI x) y).getD j 0:Nat):Int)) (by rw[dX]) (JB λ_=>rfl)
 simp(disch:=omega)only[go_sem,d1,rr,sa,gA,pa]
 have ra:=Fj (h:=h3.set A (some (.cells false (rc 64 λj=> .int .u8 (((aV (dI x) y).getD j 0:Nat):Int))))) (n:=64) (by rw[dX]) (H.aQ ..)
 simp(disch:=omega)only[go_sem,ra]
 exact⟨rfl,F.set (by omega) _⟩
theorem yC {v:V}{L:LN}(s:SP h v L):dR v=some (aA (L.length:Int))/\eP v v=true/\ ∃(id off:Nat) (ws:List V),Sl v 1 L.length id off/\ ∀i,i<L.length->id<h.next/\h.cell id (off+i)=some (ws.getD i V.undef)/\SI h (ws.getD i V.undef) (zi (L.getD i [])):=by
 have lv:=s.lens;rw[sQ] at lv;obtain⟨id,off,ws,sh,hid,hwl,hc,hall⟩:=s.open;rw[sQ] at sh hid hwl hc;obtain⟨ws',sv',_⟩:=s;exact⟨lv,SV.eP sv',id,off,ws,sh,λi hi=>⟨hid (by omega),hc i hi,Qj hall hi⟩⟩
theorem Qi {α:Type}(f g:α->V): ∀l:List α,rD (l.map f) (l.map g)=l.all λi=>eP (f i) (g i)
 | []=>rfl
 |a::l=>by
  rw[List.map_cons,List.map_cons,List.all_cons,←Qi f g l]
  rfl
theorem Ip (hn:n<=64)(a b:List Nat)(A:bG n a)(B:bG n b):eP (Ps a) (Ps b)=decide (a=b):=by
 show rD (rc 64 _) (rc 64 _)=_;unfold rc;rw[Qi,Bool.eq_iff_iff,List.all_eq_true,decide_eq_true_iff];constructor
 ·intro h
  refine List.ext_getElem (by rw[A.len,B.len]) λi h1 h2=>?_
  have:=h i (Na.2 (by have:=A.len;omega));have e:((a.getD i 0:Nat):Int)=((b.getD i 0:Nat):Int):=by simpa [eP] using this
  rw[Pm.cT h1,Pm.cT h2] at e;omega
 ·rintro rfl i _
  simp [eP]
theorem Cc (hn:n<=64)(a:List Nat)(A:bG n a):isKey (.arr 64 .u8) (Ps a)=true:=by
 unfold isKey Ps;simp only;rw[dX,decide_eq_true rfl,Bool.true_and,List.all_eq_true];intro v hv;obtain⟨i,hi,rfl⟩:=wQ.1 hv
 have:a.getD i 0<256:=by
  by_cases h:i<a.length
  ·have:=A.fW (i:=i) (by rw[←A.len];exact h);omega
  ·rw[List.getD_eq_getElem?_getD,List.getElem?_eq_none (by omega)];decide
 have e1:IntKind.min .u8=0:=rfl;have e2:IntKind.max .u8=255:=rfl;simp only[e1,e2,Bool.and_eq_true,decide_eq_true_iff];exact⟨trivial,by omega,by omega⟩
structure Gm (n:Nat)(G:List Nat->Prop)(L:LN)(K:List Nat)(hh:H)(D:Nat):Prop where
 ex: ∃vL vC M l ks,hh.get D=some (.cells false [vL,vC,.mp M])/\D<hh.next/\M<hh.next/\SP hh vL L/\SV hh vC 3 (qK ks)/\cF (KR n G L hh) ks K/\hh.get M=some (.wmap (.arr 64 .u8) (iK Ps l))/\(∀p∈l,bG n p.1)/\ ∀i,i<L.length->Jq l (L.getD i [])=some (aA (jC G L K i:Nat))
theorem Gm.mono {G:List Nat->Prop}{L:LN}{K:List Nat}{h':H}{D:Nat}(d:Gm n G L K h D)(f:Fr h h'):Gm n G L K h' D:=by
 obtain⟨vL,vC,M,l,ks,g,hD,hM,sL,sC,al,gM,kl,lk⟩:=d.ex;exact⟨vL,vC,M,l,ks,by rw[f.get _ hD];exact g,kN hD f.next,kN hM f.next,sL.mono f,sC.mono f,al.mono λ_ _ k=>KR.mono k f,by rw[f.get _ hM];exact gM,kl,lk⟩
theorem Rd (D:Nat)(u:V)(n:Nat)(G:List Nat->Prop)(L:LN)(K:List Nat)(x:List Nat)(h:H)(hn:n<=64)(d:Gm n G L K h D)(X:bG n x)(hx:x∈L)(hu:SI h u (zi x)):
  Ev T 47 [.ptr D 0,u] h (λv h'=>v= aA (jC G L K (L.idxOf x):Nat)/\Fr h h'):=by
 refine bL lN rfl rfl ?_
 obtain⟨vL,vC,M,l,ks,g,hD,hM,sL,sC,al,gM,kl,lk⟩:=d.ex
 have eu:=hu.eP
 simp(disch:=omega)only[go_sem,lN,aE,H.aF g]
 have fb:=(Fr.refl h).bM (n:=h.next+8) (by omega)
 refine (Bz u n x _ hn X (hu.mono fb)).mono ?_
 rintro _ h1 ⟨rfl,f1⟩
 have F:=fb.trans f1
 have g1:h1.get D=some (.cells false [vL,vC,.mp M]):=by rw[F.get _ hD];exact g
 have gM1:h1.get M=some (.wmap (.arr 64 .u8) (iK Ps l)):=by rw[F.get _ hM];exact gM
 have hl:=List.idxOf_lt_length_of_mem hx
 have hxe:L.getD (L.idxOf x) []=x:=by rw[List.getD_eq_getElem?_getD,iI hl];exact List.getElem_idxOf hl
 have lk':=lk (L.idxOf x) hl
 rw[hxe] at lk'
 have lo:=λz=>sU (Ip hn) (λa A=>Cc hn a A) (P:=bG n) kl X z
 rw[lk'] at lo
 simp(disch:=omega)only[go_sem,H.aF g1,eu,gM1,lo]
 exact⟨by simp [eP],rfl,F⟩
end
set_option maxHeartbeats 16000000
theorem FN (vc:V)(d:Int)(O:List (List Int))(R:List (List (List Int)))(h:H)(hc:ET h vc d O R)(hd:d<=7∨64<d)(so:rZ O)(sr:rM R)(hb:sF d O R≠0):
  Ev T 38 [vc] h (λv h'=>v= .tup [.nilp,aA (sF d O R)]/\Fr h h'):=by
 have hc0:=hc
 obtain⟨vO,vR,rfl,sO,sR⟩:=hc
 refine bL lI rfl rfl ?_
 have oneO:vO.one=true:=Tt sO
 have oneR:vR.one=true:=Tq sR
 obtain⟨B,hB⟩:=exI h.next
 obtain⟨h1,e1,n1,g1,o1,f1⟩:=iD hB [aA d,vO,vR]
 have bx:=dB h (v:= aA d) (u:=vO) (w:=vR) rfl oneO oneR
 simp(disch:=omega)only[go_sem,lI,aE,bx,hB,e1,bB g1]
 refine (BN _ d O R h1 (hc0.mono f1) hd so sr hb).mono ?_
 rintro _ h2 ⟨rfl,f2⟩
 have d1:decide (sF d O R≠0)=true:=decide_eq_true hb
 simp(disch:=omega)only[go_sem,d1]
 exact f1.trans f2
theorem QL {v:V}(M:Nat)(hv:v.cells= [v])(h1:v.one=true):vN [.aC,.aC,.nilm] [(1,1,v),(2,1,.mp M)]=some (.agg [.aC,v,.mp M]):=by
 simp [vN,iZ,putAt,hv,h1,show (V.mp M).cells= [V.mp M] from rfl,show (V.mp M).one=true from rfl]
theorem Ar {W0:Nat->Prop}(vc:V)(n:Nat)(O:LN)(R:oQ)(G:List Nat->Prop)(h:H)(gc:GC W0 h vc n O R G)(L:LN)(hL:cV O R n 0 (bZ n)=L):
  Ev T 38 [vc] h (λv h'=> ∃K,Bs n G L K/\Fr h h'/\(64<K.length/\v= .tup [.nilp,aA 5]∨K.length<=64/\ ∃D,v= .tup [.ptr D 0,aA 0]/\Gm n G L K h' D)):=by
 have gc0:=gc
 obtain⟨vO,vR,rfl,sO,sR⟩:=gc.ch
 refine bL lI rfl rfl ?_
 have oneO:vO.one=true:=Tt sO
 have oneR:vR.one=true:=Tq sR
 have n7:=gc.n7
 have hG:=gc.kY
 obtain⟨E,ll⟩:=jH gc.kY gc.isc
 have ll5:=mK gc
 rw[hL] at E ll
 obtain⟨B,hB⟩:=exI h.next
 obtain⟨h1,e1,n1,g1,o1,f1⟩:=iD hB [aA n,vO,vR]
 have bx:=dB h (v:= aA n) (u:=vO) (w:=vR) rfl oneO oneR
 have rB: ∀hh,Fr h1 hh->hh.row B 0 3=some [aA n,vO,vR]:=λhh f=>bB (by rw[f.get B (by omega)];exact g1)
 simp(disch:=omega)only[go_sem,lI,aE,bx,hB,e1,rB h1 (Fr.refl _)]
 refine (KC _ n O R G h1 (gc0.mono f1) L hL).mono ?_
 rintro _ h2 ⟨v4,K,ks,rfl,ik,s4,a4,f2⟩
 have lks:=cF.length a4
 have hwm:K.length<=5040:=by
  rw[ik.perm.length_eq];unfold jS;exact Nat.le_trans (List.length_filter_le _ _) (by rw[List.length_range];omega)
 have lv4:dR v4=some (aA (K.length:Int)):=by unfold dR;rw[SV.len s4 (n:=ks.length) (yJ ks) (by omega),lks];rfl
 have w4:=s4.dZ
 simp(disch:=omega)only[go_sem]
 refine aW (λhc=>(hc rfl).elim) (λ_=>?_)
 by_cases h64:(64:Int)<(K.length:Int)
 ·have d1:decide ((64:Int)<(K.length:Int))=true:=decide_eq_true h64
  simp(disch:=omega)only[go_sem,lv4,d1]
  exact⟨K,ik,f1.trans f2,.inl ⟨by omega,trivial⟩⟩
 have d1:decide ((64:Int)<(K.length:Int))=false:=decide_eq_false h64
 obtain⟨M,hM⟩:=exI h2.next
 obtain⟨h3,e3⟩:=exI (h2.new (.wmap (.arr 64 .u8) []))
 have n3:h3.next=M+1:=by rw[←e3,H.aT,hM]
 have g3:h3.get M=some (.wmap (.arr 64 .u8) []):=by rw[←e3,←hM];exact H.aL h2 _
 have o3: ∀k,k≠M->h3.get k=h2.get k:=λk hk=>by rw[←e3];exact H.aY h2 (by omega) _
 obtain⟨h4,e4,n4,g4,o4,f4⟩:=iD n3 [.aC,v4,.mp M]
 have F24:Fr h2 h4:=⟨by omega,λq hq=>by rw[o4 q (by omega),o3 q (by omega)]⟩
 have F14:=f2.trans F24
 have ba:=xO h3 [.aC,v4,.mp M] (by simp [w4.2.1,show V.aC.one=true from rfl,show (V.mp M).one=true from rfl])
 simp(disch:=omega)only[go_sem,lv4,d1,hM,e3,QL M w4.1 w4.2.1,ba,n3,e4,rB h4 F14]
 refine (Xo _ n O R G h4 (gc0.mono (f1.trans F14))).mono ?_
 rw[hL]
 rintro _ h5 ⟨vL,rfl,nw⟩
 have pl:=nw.pl
 have f5:=nw.fr
 have wL:vL.cells= [vL]/\vL.one=true:=by obtain⟨ws,s,_⟩:=pl;exact⟨s.dZ.1,s.dZ.2.1⟩
 have n5:=f5.next
 have g5:h5.get (M+1)=bX [.aC,v4,.mp M]:=by rw[f5.get _ (by omega)];exact g4
 obtain⟨h6,e6,n6,g6,o6⟩:=Ju h5 (M+1) [vL,v4,.mp M]
 have p6:fJ (bX [.aC,v4,.mp M]) h5 (M+1) 0 [vL]=some h6:=by rw[aZ (by simp),←e6];rfl
 have F26:Fr h2 h6:=⟨by omega,λq hq=>by rw[o6 q (by omega),f5.get q (by omega)];exact F24.get q hq⟩
 have F16:=f2.trans F26
 simp(disch:=omega)only[go_sem,g5,kO wL.1 wL.2,p6,rB h6 F16]
 refine (WC _ n O R G h6 (gc0.mono (f1.trans F16)) L hL).mono ?_
 rintro _ h7 ⟨v7,K',rfl,ik',s7,f7⟩
 obtain rfl:=ik.uniq ik'
 have n7':=f7.next
 have F27:=F26.trans f7
 have g7:h7.get (M+1)=bX [vL,v4,.mp M]:=by rw[f7.get _ (by omega)];exact g6
 have gM7:h7.get M=some (.wmap (.arr 64 .u8) []):=by rw[f7.get _ (by omega),o6 _ (by omega),f5.get _ (by omega),o4 _ (by omega)];exact g3
 have pl7:PL (λid=>id<h4.next) h7 vL L:=by
  refine PL.go pl ⟨by omega,λid h1 h2=>?_⟩ (λid h1 h2=>h2);rw[f7.get _ (by omega),o6 _ (by omega)]
 have sL7:=pl7.sp
 obtain⟨lvL,eL,idL,offL,ws,shL,cL⟩:=yC sL7
 have lnM:(zi (xG G L K)).length=L.length:=by rw[aS];simp [xG]
 obtain⟨idN,offN,shN,hidN,hcN⟩:=s7.open
 rw[lnM] at shN hidN hcN
 have e7':=s7.eP
 simp(disch:=omega)only[go_sem,H.aF g7,lvL]
 have nM: ∀{id off:Nat} {v:V},h7.cell id off=some v->id≠M:=λhc e=>by
  rw[e] at hc;unfold H.cell at hc;rw[gM7] at hc;cases hc
 refine aJ (λk' vars hh=> ∃(i:Nat) (l:List (List Nat×V)),(∃g:Nat->V,vars= [g 0,g 1,g 2,g 3,g 4,g 5,.ptr (M+1) 0,v7,g 8,g 9,g 10,g 11,vL,aA (L.length:Int),aA i,g 15])/\i<=L.length/\hh.get M=some (.wmap (.arr 64 .u8) (iK Ps l))/\(∀p∈l,bG n p.1)/\(∀j,j<i->Jq l (L.getD j [])=some (aA (jC G L K j:Nat)))/\Fx (· =M) h7 hh/\k'=L.length-i) L.length
  ⟨0, [],aB rfl,lW _,gM7,λ_ h=>(by cases h),λj hj=>(by omega),Fx.refl _ _,rfl⟩ ?_
 rintro k' vars h8 ⟨i,l,⟨g,rfl⟩,hi,gM,kl,lk,F,rfl⟩
 have n8:=F.next
 have F28:Fr h2 h8:=⟨by omega,λq hq=>by rw[F.get q (by omega) (by show q≠M;omega)];exact F27.get q hq⟩
 have pl8:PL (λid=>id<h4.next) h8 vL L:=PL.go pl7 ⟨n8,λid h1 h2=>F.get id h1 (λe=>h2 (by rw[e];show M<h4.next;omega))⟩ (λid h1 h2=>h2)
 have g8:h8.get (M+1)=bX [vL,v4,.mp M]:=by rw[F.get _ (by omega) (by show M+1≠M;omega)];exact g7
 by_cases hlt:(i:Int)<(L.length:Int)
 case neg=>
  have d3:=kU hlt;obtain rfl:i=L.length:=by omega
  simp(disch:=omega)only[go_sem,d3];refine⟨K,ik,(f1.trans f2).trans ⟨by omega,λq hq=>F28.get q (by omega)⟩|>.trans (Fr.refl _),.inr ⟨by omega,M+1,rfl,?_⟩⟩;exact⟨vL,v4,M,l,ks,g8,by omega,by omega,pl8.sp,s4.mono F28,a4.mono λ_ _ k=>KR.mono k F28,gM,kl,lk⟩
 have d3:=oD hlt
 have hiL:i<L.length:=by omega
 obtain⟨_,_,idL,offL,ws,shL,cL⟩:=yC pl8.sp
 obtain⟨b1,c1,s1⟩:=cL i hiL
 generalize ws.getD i V.undef=ve at c1 s1
 have X:=mD hG E hiL
 obtain⟨x,hx⟩:=exI (L.getD i [])
 rw[hx] at s1 X
 have c7:=hcN i hiL
 rw[show (zi (xG G L K)).getD i 0=((jC G L K i:Nat):Int) from by simp [xG,zi,hiL]] at c7
 have cN:h8.cell idN (offN+i)=some (aA (jC G L K i:Nat)):=by rw[F.cell (hidN (by omega)) (nM c7)];exact c7
 have ex:=s1.eP
 simp(disch:=omega)only[go_sem,d3,shL.ixa,c1,H.aF g8,shN.ixa,cN]
 have fb:=(Fr.refl h8).bM (n:=h8.next+11) (by omega)
 refine (Bz ve n x _ (by omega) X (s1.mono fb)).mono ?_
 rintro _ h9 ⟨rfl,f9⟩
 have F9:=fb.trans f9
 have g9:h9.get (M+1)=bX [vL,v4,.mp M]:=by rw[F9.get _ (by omega)];exact g8
 have gM9:h9.get M=some (.wmap (.arr 64 .u8) (iK Ps l)):=by rw[F9.get _ (by omega)];exact gM
 have cN9:h9.cell idN (offN+i)=some (aA (jC G L K i:Nat)):=by rw[F9.cell (by have:=hidN (by omega);omega)];exact cN
 have pm:=λhh=>IB (Ip (n:=n) (by omega)) (λa A=>Cc (n:=n) (by omega) a A) kl X (aA (jC G L K i:Nat)) hh M
 simp(disch:=omega)only[go_sem,H.aF g9,cN9,e7',gM9,pm]
 rw[jP i]
 refine⟨by simp [eP],L.length-(i+1),by omega,i+1,_,aB rfl,by omega,rfl,Cs X kl,λj hj=>?_,(F.trans (Fx.of (W:=(· =M)) F9) λ_ _ h=>h).trans (Fx.set h9 (W:=(· =M)) rfl _) (λ_ _ h=>h),rfl⟩
 rw[Fw]
 by_cases e:L.getD j []=x
 ·rw[if_pos e,Jn E.nodup (by omega) hiL (e.trans hx.symm)]
 ·rw[if_neg e]
  refine lk j ?_
  rcases Nat.lt_or_ge j i with h|h
  ·exact h
  ·exact absurd (by rw[show j=i by omega];exact hx) e
noncomputable def Wg (G:List Nat->Prop)(L:LN)(K:List Nat)(a k:Nat):Nat:=jC G L K (L.idxOf (aV (dI (L.getD a [])) (L.getD (K.getD k 0) [])))
noncomputable def Ff (G:List Nat->Prop)(L:LN)(K:List Nat)(i k t j:Nat):Nat:=((List.range t).filter λa=>decide (jC G L K a=i/\Wg G L K a k=j)).length
noncomputable def sM (G:List Nat->Prop)(L:LN)(K:List Nat)(i j k:Nat):Nat:=Ff G L K i k L.length j
section
variable {n:Nat} {G:List Nat->Prop} {L:LN} {K:List Nat}
theorem Dq (i k t j:Nat):Ff G L K i k (t+1) j=Ff G L K i k t j+if jC G L K t=i/\Wg G L K t k=j then 1 else 0:=by
 unfold Ff;rw[List.range_succ,List.filter_append,pQ]
 by_cases h:jC G L K t=i/\Wg G L K t k=j<;>simp [h]
theorem AA (i k t j:Nat):Ff G L K i k t j<=t:=by
 unfold Ff;exact Nat.le_trans (List.length_filter_le _ _) (by rw[List.length_range];exact iL _)
def To (p:Nat×Nat):V:= .agg [aA (p.1:Int),aA (p.2:Int)]
def TX (p:Nat×Nat):Prop:=p.1<1000000/\p.2<1000000
theorem Nq (a b:Nat×Nat)(_:TX a)(_:TX b):eP (To a) (To b)=decide (a=b):=by
 show rD [_,_] [_,_]=_;simp only[rD,eP,Bool.and_true,beq_self_eq_true,Bool.true_and];rw[Bool.eq_iff_iff,Bool.and_eq_true,beq_iff_eq,beq_iff_eq,decide_eq_true_iff,Prod.ext_iff];omega
theorem Ft (a:Nat×Nat)(h:TX a):isKey (.arr 2 .i64) (To a)=true:=by
 obtain⟨h1,h2⟩:=h;unfold isKey To;have e1:IntKind.min .i64= -9223372036854775808:=rfl;have e2:IntKind.max .i64=9223372036854775807:=rfl;simp only[List.all_cons,List.all_nil,e1,e2,Bool.and_true,Bool.and_eq_true,decide_eq_true_iff];exact⟨rfl,⟨trivial,by omega,by omega⟩,trivial,by omega,by omega⟩
theorem IA (x y:Int):vN [aA 0,aA 0] [(0,1,aA x),(1,1,aA y)]=some (.agg [aA x,aA y]):=rfl
theorem ZP {h:H}{id o:Nat}{a b c:V}(ha:h.cell id o=some a)(hb:h.cell id (o+1)=some b)(hc:h.cell id (o+2)=some c):h.row id o 3=some [a,b,c]:=by
 unfold H.cell at ha hb hc;unfold H.row;split at ha
 ·rename_i ro vs e
  rw[e] at hb hc;have hb:vs[o+1]? =some b:=hb;have hc:vs[o+2]? =some c:=hc;obtain⟨la,ea⟩:=List.getElem?_eq_some_iff.1 ha;obtain⟨lb,eb⟩:=List.getElem?_eq_some_iff.1 hb;obtain⟨lc,ec⟩:=List.getElem?_eq_some_iff.1 hc;rw[e];simp only[sub];rw[if_pos (by omega),List.drop_eq_getElem_cons la,List.drop_eq_getElem_cons lb,List.drop_eq_getElem_cons lc,ea,eb,ec]
  rfl
 ·cases ha
theorem nH {hh:H}{vC:V}{ks:List Cls.KE}(hK:K.length<1000000)(s:SV hh vC 3 (qK ks))(al:cF (KR n G L hh) ks K):
  dR vC=some (aA (K.length:Int))/\eP vC vC=true/\ ∃id off,Sl vC 3 K.length id off/\ ∀k,k<K.length->id<hh.next/\ ∃rep,hh.cell id (off+k*3)=some rep/\hh.cell id (off+k*3+2)=some (aA ((iP G L (K.getD k 0)).length:Int))/\hh.row id (off+k*3) 3=some [rep,aA (jR (L.getD (K.getD k 0) []) n:Int),aA ((iP G L (K.getD k 0)).length:Int)]/\SI hh rep (zi (L.getD (K.getD k 0) [])):=by
 have lks:=cF.length al
 have l3:=yJ ks
 obtain⟨id,off,sh,hid,hc⟩:=s.shape K.length (by rw[l3,lks]) (by omega)
 refine⟨by unfold dR;rw[SV.len s (n:=ks.length) l3 (by omega),lks];rfl,s.eP,id,off,sh,λk hk=>?_⟩
 obtain⟨p1,p2,p3⟩:=JH (ks:=ks) (i:=k) (by omega)
 have ka:=cF.get al k (by omega) hk
 rw[←Pm.cT hk] at ka
 have c1:=(hc (k*3) (by omega)).trans p1
 have c2:=(hc (k*3+1) (by omega)).trans p2
 have c3:=(hc (k*3+2) (by omega)).trans p3
 rw[ka.ord] at c2
 rw[ka.size] at c3
 rw[←Nat.add_assoc] at c2 c3
 exact⟨hid (by omega),_,c1,c3,ZP c1 c2 c3,ka.rep⟩
end
section
variable {n i p:Nat} {G:List Nat->Prop} {o:List Nat} {r:LN}
structure Vz (n:Nat)(G:List Nat->Prop)(i p:Nat)(o:List Nat)(r:LN):Prop where
 asc:o.Pairwise (· < ·)
 mem: ∀q,q∈o↔q<p/\ ∃x,G x/\Fix i x/\x.getD i 0=q
 len:r.length=o.length
 rep: ∀t,t<o.length->Er n G i (o.getD t 0) (r.getD t [])
theorem Vz.start (n:Nat)(G:List Nat->Prop)(i:Nat):Vz n G i 0 [] []:=⟨.nil,λq=>by simp,rfl,λt h=>by cases h⟩
theorem Vz.skip (c:Vz n G i p o r)(h: ∀x,G x->Fix i x->x.getD i 0≠p):Vz n G i (p+1) o r:=
 ⟨c.asc,λq=>by
  rw[c.mem];constructor
  ·rintro⟨h1,h2⟩;exact⟨by omega,h2⟩
  ·rintro⟨h1,x,gx,fx,ex⟩
   refine⟨?_,x,gx,fx,ex⟩;rcases Nat.lt_or_ge q p with h2|h2
   ·exact h2
   ·exact absurd (by omega) (h x gx fx),c.len,c.rep⟩
theorem Vz.step (c:Vz n G i p o r){x:List Nat}(hx:Er n G i p x):Vz n G i (p+1) (o++ [p]) (r++ [x]):=by
 refine⟨List.pairwise_append.2 ⟨c.asc,List.pairwise_singleton _ _,λa ha b hb=>?_⟩,λq=>?_,by rw[pQ,pQ,c.len];rfl,λt ht=>?_⟩
 ·rw[List.mem_singleton.1 hb];exact ((c.mem a).1 ha).1
 ·rw[Ka,c.mem,List.mem_singleton]
  constructor
  ·rintro (⟨h1,h2⟩|rfl)
   ·exact⟨by omega,h2⟩
   ·exact⟨by omega,x,hx.mem,hx.fix,hx.maps⟩
  ·rintro⟨h1,h2⟩
   rcases Nat.lt_or_ge q p with h3|h3
   ·exact .inl ⟨h3,h2⟩
   ·exact .inr (by omega)
 ·by_cases e:t=o.length
  ·subst e
   have e1:(o++ [p]).getD o.length 0=p:=by simp [List.getD]
   have e2:(r++ [x]).getD o.length []=x:=by rw[←c.len];exact jW
   rw[e1,e2];exact hx
  ·have ht':t<o.length:=by rw[pQ] at ht;simp at ht;omega
   have e1:(o++ [p]).getD t 0=o.getD t 0:=by simp [List.getD,Jt ht']
   rw[e1,lT (by rw[c.len];exact ht')];exact c.rep t ht'
theorem Vz.le (c:Vz n G i p o r):o.length<=p:=by
 have nd:o.Nodup:=c.asc.imp λh=>by omega
 have:=List.Nodup.length_le_of_subset nd (l₂:=List.range p) λq hq=>Na.2 ((c.mem q).1 hq).1
 rwa [List.length_range] at this
theorem CH {A:LN}(E:fN G A){k:Nat}(hk:k<A.length)(h1:Fix i (A.getD k []))(h2:(A.getD k []).getD i 0=p)(h3: ∀k',k'<k-> ¬((A.getD k' []).getD i 0=p/\Fix i (A.getD k' []))):Er n G i p (A.getD k []):=by
 refine⟨Dk E hk,h1,h2,λy gy fy my=>?_⟩;obtain⟨m,hm,em⟩:=Fg.1 ((E.mem y).2 gy);have em':A.getD m []=y:=by rw[List.getD_eq_getElem?_getD,iI hm];exact em
 rcases Nat.lt_trichotomy m k with h|h|h
 ·exact absurd ⟨by rw[em'];exact my,by rw[em'];exact fy⟩ (h3 m h)
 ·subst h;rw[em'];exact .inl rfl
 ·rw[←em']
  have:=List.pairwise_iff_getElem.1 E.asc k m hk hm h;rw[List.getD_eq_getElem?_getD,iI hk,List.getD_eq_getElem?_getD,iI hm];exact .inr this
end
set_option maxHeartbeats 64000000
def VJ (b:Nat)(vo vr:V)(q:Nat):Prop:=q<b∨eZ vo q∨eZ vr q
theorem Gw (vA:V)(n:Nat)(G:List Nat->Prop)(A:LN)(h:H)(h0:0<n)(hn:n<=7)(hG:tL n G)(E:fN G A)(hA:A.length<=5040)(sA:SP h vA A):
  Ev T 19 [aA n,vA] h (λv h'=> ∃O R',FG (λid=>id<h.next) h' v n O R'/\eJ n G O R'/\Fr h h'):=by
 refine bL tJ rfl rfl ?_
 obtain⟨lvA,eA,idA,offA,wA,shA,cA⟩:=yC sA
 obtain⟨m,hm⟩:=exI A.length
 rw[hm] at lvA shA cA
 obtain⟨B,hB⟩:=exI h.next
 have bl:vN [aA 0,.aC,.aC] [(0,1,aA n)]=some (.agg [aA n,.aC,.aC]):=by
  have e1:putAt [aA 0,.aC,.aC] 0 [aA n]=some [aA n,.aC,.aC]:=by simp [putAt]
  simp [vN,iZ,e1,V.cells,V.one]
 obtain⟨ha,ea,na,ga,oa,fa⟩:=iD hB [aA 0,.aC,.aC]
 obtain⟨h1,e1,n1,g1,o1,f1'⟩:=iD na [aA 0,.aC,.aC]
 obtain⟨h2,e2,n2,g2,o2⟩:=Ju h1 (B+1) [aA n,.aC,.aC]
 have f2:Fr h h2:=⟨by omega,λq hq=>by rw[o2 q (by omega),o1 q (by omega),oa q (by omega)]⟩
 have n2':h2.next=B+2:=by omega
 have g20:h2.get B=some (.cells false [aA 0,.aC,.aC]):=by rw[o2 B (by omega),o1 B (by omega)];exact ga
 simp(disch:=omega)only[go_sem,tJ,aE,hB,ea,na,e1,bl,mL h1 (B+1) 0 (v:= aA n) (u:= .aC) (w:= .aC) rfl rfl rfl,g1,kA,e2]
 refine aJ (λk' vars hh=> ∃(i:Nat) (W:Nat->Prop) (O:LN) (R':oQ) (vO vR:V) (wsO wsR:List V),(∃g:Nat->V,vars= [aA n,vA,.ptr B 0,.ptr (B+1) 0,aA i,g 5,g 6,g 7,g 8,g 9,g 10,g 11,g 12,g 13,g 14,g 15])/\i<=n/\xJ h hh (B+1) B W n O R' vO vR wsO wsR/\
   hh.get B=some (.cells false [aA 0,.aC,.aC])/\O.length=i/\R'.length=i/\(∀j,j<i->Vz n G j n (O.getD j []) (R'.getD j []))/\k'=n-i) n
  ⟨0,_, [], [],_,_,_,_,aB rfl,lW _,xJ.start (by omega) (by omega) (by omega) (by omega) (by omega) f2 g2,g20,rfl,rfl,λj hj=>by omega,rfl⟩ ?_
 clear f2 g2 g20 n2 n2' o2 e2 g1 o1 e1 n1 f1' ga oa ea na fa
 rintro k' vars h2 ⟨i,W,O,R',vO,vR,wsO,wsR,⟨g,rfl⟩,hi,AC,gB,lO,lR,hC,rfl⟩
 by_cases hlt:(i:Int)<(n:Int)
 case neg=>
  have e1:=kU hlt;obtain rfl:i=n:=by omega
  have hr:=bB AC.get;have nB:=AC.fr.next;simp(disch:=omega)only[go_sem,e1,hr,mL h2 B 0 (v:= aA i) (u:=vO) (w:=vR) rfl (SV.dZ AC.oO.sv).2.1 (SV.dZ AC.oR.sv).2.1,gB,kA];have hr2:=bB (h:=h2.set B (some (.cells false [aA i,vO,vR]))) (H.aQ ..);have fB:Fx (· =B) h2 (h2.set B (some (.cells false [aA i,vO,vR]))):=Fx.set h2 (W:=(· =B)) rfl _;simp(disch:=omega)only[go_sem,hr2]
  obtain⟨h3,h3e⟩: ∃h3,h3=h2.set B (some (.cells false [aA i,vO,vR])):=⟨_,rfl⟩
  rw[←h3e] at fB ⊢;have A3:=AC.box h3e;refine⟨O,R',by rw[←hB];exact A3.chw,⟨lO,lR,λj hj=>(hC j hj).asc,λj hj p=>?_,λj hj=>(hC j hj).len,λj hj=>(hC j hj).rep⟩,A3.fr⟩;rw[(hC j hj).mem];constructor
  ·exact λh=>h.2
  ·rintro⟨x,gx,fx,ex⟩
   exact⟨by rw[←ex];exact (hG.fI gx).fW hj,x,gx,fx,ex⟩
 have e1:=oD hlt
 have hin:i<n:=by omega
 have sAi:=sA.mono AC.fr
 simp(disch:=omega)only[go_sem,e1]
 obtain⟨h4,h4e⟩:=exI h2
 subst h4e
 refine cU (λvs hh=> ∃(vo vr:V) (q:List Nat) (r:LN),(∃g:Nat->V,vs= [aA n,vA,.ptr B 0,.ptr (B+1) 0,aA i,vo,vr,g 7,g 8,g 9,g 10,g 11,g 12,g 13,g 14,g 15])/\PV W hh vo q/\PL W hh vr r/\Vz n G i n q r/\Fr h2 hh) ?_ ?_
 ·refine aJ (λk' vs hh=> ∃(p:Nat) (vo vr:V) (ws:List V) (q:List Nat) (r:LN),(∃g:Nat->V,vs= [aA n,vA,.ptr B 0,.ptr (B+1) 0,aA i,vo,vr,aA p,g 8,g 9,g 10,g 11,g 12,g 13,g 14,g 15])/\p<=n/\eX hh vo 1 (ints (zi q)) h2.next/\eX hh vr 1 ws h2.next/\kB (VJ h2.next vo vr) hh ws r/\(∀x,eZ vo x-> ¬eZ vr x)/\Vz n G i p q r/\Fr h2 hh/\k'=n-p) n
   ⟨0,.aC,.aC, [], [], [],aB rfl,lW _,eX.aC _ _ _,eX.aC _ _ _,trivial,(λ_ ⟨_,_,_,e⟩=>by cases e),Vz.start n G i,Fr.refl _,rfl⟩ ?_
  rintro k' vars h5 ⟨p,vo,vr,ws,q,r,⟨g,rfl⟩,hp,oo,ow,pvs,Fp,cp,f5,rfl⟩
  by_cases hlt2:(p:Int)<(n:Int)
  case neg=>
   have d2:=kU hlt2;obtain rfl:p=n:=by omega
   simp(disch:=omega)only[go_sem,d2];refine⟨vo,vr,q,r,aB rfl,⟨oo.sv,?_⟩,⟨ws,ow.sv,?_,pvs.sK (λid _ h=> .inl (AC.wb id h)),eX.IX ow⟩,cp,f5⟩
   ·cases vo with
    |sl id off m c=>exact λh=>by have:=(oo.in _ _ _ _ rfl).2.1;have:=AC.wb id h;omega
    |_=>trivial
   ·cases vr with
    |sl id off m c=>exact λh=>by have:=(ow.in _ _ _ _ rfl).2.1;have:=AC.wb id h;omega
    |_=>trivial
  have d2:=oD hlt2
  have hpn:p<n:=by omega
  simp(disch:=omega)only[go_sem,d2]
  refine Bt (λvs hh=> ∃(vo vr:V) (ws:List V) (q:List Nat) (r:LN),(∃g:Nat->V,vs= [aA n,vA,.ptr B 0,.ptr (B+1) 0,aA i,vo,vr,aA p,g 8,g 9,g 10,g 11,g 12,g 13,g 14,g 15])/\eX hh vo 1 (ints (zi q)) h2.next/\eX hh vr 1 ws h2.next/\kB (VJ h2.next vo vr) hh ws r/\(∀x,eZ vo x-> ¬eZ vr x)/\Vz n G i (p+1) q r/\Fr h2 hh) ?_ ?_
  ·refine aJ (λk' vs hh=> ∃(k:Nat),(∃g:Nat->V,vs= [aA n,vA,.ptr B 0,.ptr (B+1) 0,aA i,vo,vr,aA p,aA k,g 9,g 10,g 11,g 12,g 13,g 14,g 15])/\k<=m/\(∀k',k'<k-> ¬((A.getD k' []).getD i 0=p/\Fix i (A.getD k' [])))/\eX hh vo 1 (ints (zi q)) h2.next/\eX hh vr 1 ws h2.next/\kB (VJ h2.next vo vr) hh ws r/\Fr h2 hh/\k'=m-k) m
    ⟨0,aB rfl,lW _,λk' h=>by omega,oo,ow,pvs,f5,rfl⟩ ?_
   clear oo ow pvs f5
   rintro k' vars h6 ⟨k,⟨g',rfl⟩,hk,hno,oo,ow,pvs,f6,rfl⟩
   by_cases hlk:(k:Int)<(m:Int)
   case neg=>
    have d3:decide ((k:Int)<(m:Int))=false:=decide_eq_false hlk;obtain rfl:k=m:=by omega
    simp(disch:=omega)only[go_sem,lvA,d3];refine⟨vo,vr,ws,q,r,aB rfl,oo,ow,pvs,Fp,cp.skip λx gx fx ex=>?_,f6⟩;obtain⟨j,hj,ej⟩:=Fg.1 ((E.mem x).2 gx);have ej':A.getD j []=x:=by rw[List.getD_eq_getElem?_getD,iI hj];exact ej
    exact hno j (by omega) ⟨by rw[ej'];exact ex,by rw[ej'];exact fx⟩
   have d3:decide ((k:Int)<(m:Int))=true:=decide_eq_true hlk
   have hkm:k<m:=by omega
   obtain⟨bA,cAk,sx⟩:=cA k hkm
   have F6:=AC.fr.trans f6
   generalize wA.getD k V.undef=vx at cAk sx
   have X:=mD hG E (show k<A.length by omega)
   obtain⟨x,hx⟩:=exI (A.getD k [])
   rw[hx] at sx X
   have cx:h6.cell idA (offA+k)=some vx:=by rw[F6.cell bA];exact cAk
   obtain⟨idx,offx,shx,hidx,hcx⟩:=(sx.mono F6).open
   have lxn:(zi x).length=n:=by rw[aS,X.len]
   rw[lxn] at shx hidx hcx
   have cxj: ∀j,j<n->h6.cell idx (offx+j)=some (aA (x.getD j 0:Nat)):=λj hj=>by
    rw[hcx j hj];congr 2;simp [zi,X.len,hj]
   simp(disch:=omega)only[go_sem,lvA,d3,shA.ixa,cx,shx.ixa,cxj i hin]
   refine cU (λvs hh=>hh=h6/\ ∃b:Bool,(∃g:Nat->V,vs= [aA n,vA,.ptr B 0,.ptr (B+1) 0,aA i,vo,vr,aA p,aA k,.bool b,g 10,g 11,g 12,g 13,g 14,g 15])/\(b=true↔x.getD i 0=p/\Fix i x)) ?_ ?_
   ·refine aJ (λk' vs hh=>hh=h6/\ ∃(j:Nat) (b:Bool),(∃g:Nat->V,vs= [aA n,vA,.ptr B 0,.ptr (B+1) 0,aA i,vo,vr,aA p,aA k,.bool b,aA j,g 11,g 12,g 13,g 14,g 15])/\j<=i/\(b=true↔x.getD i 0=p/\Fix j x)/\k'=i-j) i
     ⟨rfl,0,_,aB rfl,lW _,by rw[decide_eq_true_iff];exact⟨λh=>⟨by omega,λj hj=>by omega⟩,λh=>by rw[h.1]⟩,rfl⟩ ?_
    rintro k' vars hh ⟨rfl,j,b,⟨g,rfl⟩,hj,hb,rfl⟩
    cases b with
    |false=>
     simp(disch:=omega)only[go_sem,Iz];refine⟨false,aB rfl,⟨λh=>(by cases h),λh=>?_⟩⟩;exact hb.2 ⟨h.1,λj' hj'=>h.2 j' (by omega)⟩
    |true=>
     have hb1:=hb.1 rfl
     by_cases hji:(j:Int)<(i:Int)
     ·have d4:decide ((j:Int)<(i:Int))=true:=decide_eq_true hji
      simp(disch:=omega)only[go_sem,d4,shA.ixa,cx,shx.ixa,cxj j (by omega)];rw[jP j];refine⟨i-(j+1),by omega,j+1,_,aB rfl,by omega,?_,rfl⟩;rw[decide_eq_true_iff];constructor
      ·intro h
       refine⟨hb1.1,λj' hj'=>?_⟩
       by_cases e:j'=j
       ·subst e;omega
       ·exact hb1.2 j' (by omega)
      ·intro h
       rw[h.2 j (by omega)]
     ·have d4:decide ((j:Int)<(i:Int))=false:=decide_eq_false hji
      obtain rfl:j=i:=by omega
      simp(disch:=omega)only[go_sem,d4];exact⟨true,aB rfl,hb⟩
   rintro vars hh ⟨rfl,b,⟨g,rfl⟩,hb⟩
   cases b with
   |false=>
    simp(disch:=omega)only[go_sem];rw[jP k];refine⟨m-(k+1),by omega,k+1,aB rfl,by omega,λk' hk' h=>?_,oo,ow,pvs,f6,rfl⟩
    by_cases e:k'=k
    ·rw[e,hx] at h
     have:=hb.2 h;cases this
    ·exact hno k' (by omega) h
   |true=>
    have hb1:=hb.1 rfl;have rep:=CH (n:=n) E (show k<A.length by omega) (by rw[hx];exact hb1.2) (by rw[hx];exact hb1.1) hno;rw[hx] at rep;simp(disch:=omega)only[go_sem,shA.ixa,cx,Iy]
    obtain⟨hd,hde⟩: ∃hd:H,hd=H.mk ((H.mk hh.tr (hh.next+2)).new (Ob.cells false (ints [(p:Int)]))).tr (hh.next+14):=⟨_,rfl⟩
    rw[←hde];obtain⟨Q,hQ⟩:=exI (hh.next+2);rw[hQ] at hde ⊢;have gd:hd.get Q=some (.cells false (ints [(p:Int)])):=by rw[hde];exact H.aL (H.mk hh.tr Q) _
    have od: ∀k,k≠Q->hd.get k=hh.get k:=λk hk=>by rw[hde];exact H.aY (H.mk hh.tr Q) hk _
    have nd:hd.next=hh.next+14:=by rw[hde]
    have fd:Fr hh hd:=⟨by omega,λk hk=>od k (by omega)⟩
    have n6:=f6.next;have cpl:=cp.le;have ood:=oo.fr fd;have owd:=ow.fr fd;have hin1:=λid off m c (e:vo=V.sl id off m c)=>oo.in id off m c e
    have hin2:=λid off m c (e:vr=V.sl id off m c)=>ow.in id off m c e
    obtain⟨h7,a7,p7⟩:=ood.push (bytes:=8) (SV.one (v:= aA p) (id:=Q) (by omega) gd (.kn 1)) (n:=q.length) (m:=1) (by rw[aM,aS,Nat.mul_one]) rfl (by omega) (by omega) (by omega);have n7:=p7.next;have old7: ∀k,k<hh.next->dS vo k->h7.get k=hh.get k:=λk h1 h2=>by rw[p7.old k (by omega) h2,od k (by omega)]
    have apo: ∀k,k<h2.next->dS vo k:=λk hk id off m c e e2=>by have:=hin1 _ _ _ _ e;omega
    have F7:Fr h2 h7:=⟨by omega,λk hk=>by rw[old7 k (by omega) (apo k hk)];exact f6.get k hk⟩
    have F07:=AC.fr.trans F7;have cx7:h7.cell idA (offA+k)=some vx:=by rw[F07.cell bA];exact cAk
    have evx:=sx.eP;have ow7:eX h7 vr 1 ws h2.next:=owd.mono (by omega) λid off m c e _ hid=>p7.old id (by omega) λid' off' m' c' e' e2=>Fp id ⟨off',m',c',by rw[e2];exact e'⟩ ⟨off,m,c,e⟩
    simp(disch:=omega)only[go_sem,a7,cx7,evx];refine (VS vx (zi x) h7 (sx.mono F07) (by rw[lxn];omega)).mono ?_;rintro v25 h8 ⟨ow25,f8,_⟩;have c25:=uN (show SI h8 v25 (zi x) from ow25.sv);have n8:=f8.next;simp(disch:=omega)only[go_sem,dO _ (z:= .aC) c25.1 c25.2]
    obtain⟨he,hee⟩: ∃he:H,he=H.mk ((H.mk h8.tr (hh.next+10)).new (Ob.cells false [v25])).tr h8.next:=⟨_,rfl⟩
    rw[←hee];obtain⟨S,hS⟩:=exI (hh.next+10);rw[hS] at hee ⊢;have ge:he.get S=some (.cells false [v25]):=by rw[hee];exact H.aL (H.mk h8.tr S) _
    have oe: ∀k,k≠S->he.get k=h8.get k:=λk hk=>by rw[hee];exact H.aY (H.mk h8.tr S) hk _
    have ne:he.next=h8.next:=by rw[hee]
    have hin3:=λid off m c (e:v25=V.sl id off m c)=>ow25.in id off m c e
    have ow8:eX he vr 1 ws h2.next:=ow7.mono (by omega) λid off m c e h1 hid=>by
     have:=(hin2 _ _ _ _ e).1;rw[oe id (by omega),f8.get id hid]
    have hws:=cF.length pvs;obtain⟨h9,a9,p9⟩:=ow8.push (bytes:=24) (SV.one (v:=v25) (id:=S) (by omega) ge (.kn 1)) (n:=q.length) (m:=1) (by rw[hws,cp.len,Nat.mul_one]) rfl (by omega) (by omega) (by omega);have n9:=p9.next;simp(disch:=omega)only[go_sem,a9];have apv: ∀{v:V} {k:Nat},¬eZ v k->dS v k:=λhk id off m c e e2=>hk ⟨off,m,c,by rw[e2];exact e⟩
    have old9: ∀k,k<hh.next->dS vo k->dS vr k->h9.get k=hh.get k:=λk h1 h2 h3=>by rw[p9.old k (by omega) h3,oe k (by omega),f8.get k (by omega),old7 k h1 h2]
    have apr: ∀k,k<h2.next->dS vr k:=λk hk id off m c e e2=>by have:=hin2 _ _ _ _ e;omega
    have fx:Fx (VJ h2.next vo vr) hh h9:=⟨by omega,λk h1 h2=>old9 k h1 (apv λh=>h2 (.inr (.inl h))) (apv λh=>h2 (.inr (.inr h)))⟩
    have hw: ∀k,k<hh.next->VJ h2.next (.sl hd.next 0 (q.length+1) (.un 1)) (.sl he.next 0 (q.length+1) (.un 1)) k->VJ h2.next vo vr k:=λk h1 h2=>by
     rcases h2 with h|⟨_,_,_,e⟩|⟨_,_,_,e⟩
     ·exact .inl h
     ·cases e;omega
     ·cases e;omega
    have pnew:PV (VJ h2.next (.sl hd.next 0 (q.length+1) (.un 1)) (.sl he.next 0 (q.length+1) (.un 1))) h9 v25 x:=by
     have s8:SI h8 v25 (zi x):=ow25.sv;refine⟨SV.fx (W:=λk=>k=S∨eZ vr k) s8 ?_ ⟨by omega,λk h1 h2=>by rw[p9.old k (by omega) (apv λh=>h2 (.inr h)),oe k λe=>h2 (.inl e)]⟩,?_⟩
     ·cases v25 with
      |sl id off m c=>
       have h3:=hin3 _ _ _ _ rfl;rintro (e|⟨_,_,_,e⟩)
       ·omega
       ·have:=hin2 _ _ _ _ e;omega
      |_=>trivial
     ·cases v25 with
      |sl id off m c=>
       have h3:=hin3 _ _ _ _ rfl;rintro (e|⟨_,_,_,e⟩|⟨_,_,_,e⟩)
       ·omega
       ·cases e;omega
       ·cases e;omega
      |_=>trivial
    have o7:=p7.own (b:=h2.next) (by rw[aM,aS,Nat.mul_one]) rfl (by omega);have e7:ints (zi q)++ [aA p]=ints (zi (q++ [p])):=by rw[Pg,mX];rfl
    rw[e7] at o7;refine⟨_,_,ws++ [v25],q++ [p],r++ [x],aB rfl,o7.mono (by omega) λid off m c e _ h1=>by cases e;rw[p9.old _ (by omega) (λid off m c e e2=>by have:=hin2 _ _ _ _ e;omega),oe _ (by omega),f8.get _ (by omega)],p9.own (by rw[hws,cp.len,Nat.mul_one]) rfl (by omega),(kB.go pvs fx hw).append (kB.one pnew),λk ⟨_,_,_,e1⟩ ⟨_,_,_,e2⟩=>by have a:=(V.sl.inj e1).1;have b:=(V.sl.inj e2).1;omega,cp.step rep,⟨by omega,λk hk=>by rw[old9 k (by omega) (apo k hk) (apr k hk)];exact f6.get k hk⟩⟩
  rintro vars h6 ⟨vo',vr',ws',q',r',⟨g',rfl⟩,oo',ow',pvs',dis',cp',f6⟩
  simp(disch:=omega)only[go_sem]
  rw[jP p]
  exact⟨n-(p+1),by omega,p+1,vo',vr',ws',q',r',aB rfl,by omega,oo',ow',pvs',dis',cp',f6,rfl⟩
 rintro vars h5 ⟨vo,vr,q,r,⟨g,rfl⟩,pq5,pl,hcl,f5⟩
 have A5:=AC.mono f5
 have wo:vo.cells= [vo]/\vo.one=true:=pq5.iO
 have gB5:h5.get B=some (.cells false [aA 0,.aC,.aC]):=by rw[f5.get B (AC.wb B AC.d)];exact gB
 have cO:h5.cell (B+1) 1=some vO:=by rw[H.aF A5.get];rfl
 have cR:h5.cell (B+1) 2=some vR:=by rw[H.aF A5.get];rfl
 obtain⟨ws,pl1,pl2,pl3,pl4⟩:=pl
 have pl:PL W h5 vr r:=⟨ws,pl1,pl2,pl3,pl4⟩
 have fn5:=A5.fr.next
 have cn5:=A5.wb _ A5.c
 simp(disch:=omega)only[go_sem,cO,cR,dO _ (z:= .aC) (v:=vo) wo.1 wo.2]
 obtain⟨h6,h6e⟩: ∃h6:H,h6=H.mk ((H.mk h5.tr (h5.next+3)).new (Ob.cells false [vo])).tr (h5.next+14):=⟨_,rfl⟩
 rw[←h6e]
 have g6:h6.get (h5.next+3)=some (.cells false [vo]):=by rw[h6e];exact H.aL (H.mk h5.tr (h5.next+3)) _
 have n6:h6.next=h5.next+14:=by rw[h6e]
 have o6: ∀k,k≠h5.next+3->h6.get k=h5.get k:=λk hk=>by rw[h6e];exact H.aY (H.mk h5.tr (h5.next+3)) (by simpa using hk) _
 have f6:Fr h5 h6:=⟨by omega,λid hid=>o6 id (by omega)⟩
 have hwO:=cF.length A5.aO
 have hwR:=cF.length A5.aR
 obtain⟨h7,a7,p7⟩:=(A5.oO.fr f6).push (bytes:=24) (SV.one (by omega) g6 (.kn 1)) (n:=i) (m:=1) (by omega) rfl (by omega) (by omega) (by omega)
 have n7:=p7.next
 have oldO: ∀k,k<h5.next->dS vO k->h7.get k=h5.get k:=λk h1 h2=>by rw[p7.old k (by omega) h2,o6 k (by omega)]
 have cR7:h7.cell (B+1) 2=some vR:=by unfold H.cell;rw[oldO (B+1) cn5 A5.pO,A5.get];rfl
 have eR:eP vR vR=true:=A5.oR.sv.eP
 have svr:vr.cells= [vr]/\vr.one=true:=⟨(SV.dZ pl1).1,(SV.dZ pl1).2.1⟩
 simp(disch:=omega)only[go_sem,a7,cR7,eR,dO _ (z:= .aC) svr.1 svr.2]
 obtain⟨h8,h8e⟩: ∃h8:H,h8=H.mk ((H.mk h7.tr (h5.next+8)).new (Ob.cells false [vr])).tr h7.next:=⟨_,rfl⟩
 rw[←h8e]
 have g8:h8.get (h5.next+8)=some (.cells false [vr]):=by rw[h8e];exact H.aL (H.mk h7.tr (h5.next+8)) _
 have n8:h8.next=h7.next:=by rw[h8e]
 have o8: ∀k,k≠h5.next+8->h8.get k=h7.get k:=λk hk=>by rw[h8e];exact H.aY (H.mk h7.tr (h5.next+8)) (by simpa using hk) _
 have oR8:eX h8 vR 1 wsR h.next:=A5.oR.mono (by omega) λid off m c e _ hid=>by
  rw[o8 id (by omega),oldO id hid (λid' off' n' c' e' e2=>A5.Fp _ _ _ _ e' _ _ _ _ e e2.symm)]
 obtain⟨h9,a9,p9⟩:=oR8.push (bytes:=24) (SV.one (by omega) g8 (.kn 1)) (n:=i) (m:=1) (by omega) rfl (by omega) (by omega) (by omega)
 have n9:=p9.next
 have apR: ∀k,h5.next<=k->dS vR k:=λk hk id off m c e e2=>by have:=(A5.oR.in _ _ _ _ e).1;omega
 have old9: ∀k,k<h5.next->dS vO k->dS vR k->h9.get k=h5.get k:=λk h1 h2 h3=>by rw[p9.old k (by omega) h3,o8 k (by omega),oldO k h1 h2]
 have gC9:h9.get (B+1)=some (.cells false [aA n,vO,vR]):=by rw[old9 _ cn5 A5.pO A5.pR];exact A5.get
 have pt1: ∀(hh:H) (x:V),fJ (some (.cells false [aA n,vO,vR])) hh (B+1) 1 [x]=some (hh.set (B+1) (some (.cells false [aA n,x,vR]))):=λhh x=>aZ (by simp) hh _ x
 have pt2: ∀(hh:H) (x y:V),fJ (some (.cells false [aA n,x,vR])) hh (B+1) 2 [y]=some (hh.set (B+1) (some (.cells false [aA n,x,y]))):=λhh x y=>aZ (by simp) hh _ y
 simp(disch:=omega)only[go_sem,a9,gC9,pt1,pt2]
 rw[jP i]
 obtain⟨ha,hb⟩:h6.next=h5.next+14/\h8.next=h5.next+15:=⟨n6,by omega⟩
 rw[ha,hb]
 obtain⟨h10,h10e⟩: ∃h10,h10=(h9.set (B+1) (some (.cells false [aA n,.sl (h5.next+14) 0 (i+1) (.un 1),vR]))).set (B+1) (some (.cells false [aA n,.sl (h5.next+14) 0 (i+1) (.un 1),.sl (h5.next+15) 0 (i+1) (.un 1)])):=⟨_,rfl⟩
 rw[←h10e]
 have o10: ∀k,k≠B+1->h10.get k=h9.get k:=λk hk=>by rw[h10e,H.aH _ hk,H.aH _ hk]
 have n10:h10.next=h5.next+16:=by rw[h10e];show h9.next=_;omega
 have A10:=A5.step (v4:=vo) (v5:=vr) (o:=q) (r:=r) (h6:=h10) (a:=h5.next+14) (b:=h5.next+15) (k1:=i+1) (k2:=i+1) pq5 pl (by omega) (by omega) (by omega) (by omega) (by omega) (by omega) (by omega) (by rw[h10e,H.aQ])
  (by rw[o10 _ (by omega),p9.old _ (by omega) (apR _ (by omega)),o8 _ (by omega),←ha];exact p7.get) (by rw[o10 _ (by omega),←hb];exact p9.get) (λk h1 h2 h3 h4=>by rw[o10 k h2];exact old9 k h1 h3 h4)
 refine⟨n-(i+1),by omega,i+1,_,_,_,_,_,_,_,aB rfl,by omega,A10,?_,by rw[pQ,lO];rfl,by rw[pQ,lR];rfl,λj hj=>?_,rfl⟩
 ·rw[old9 B (A5.wb B A5.d) A5.qO A5.qR];exact gB5
 ·by_cases e:j=i
  ·subst e
   have e1:(O++ [q]).getD j []=q:=by rw[←lO];exact jW
   have e2:(R'++ [r]).getD j []=r:=by rw[←lR];exact jW
   rw[e1,e2]
   exact hcl
  ·rw[lT (by omega),lT (by omega)]
   exact hC j (by omega)
theorem KA (n:Nat)(c:Int)(p:Nat->Prop)[DecidablePred p]:sm n (λa=>if p a then c else 0)=c*(((List.range n).filter λa=>decide (p a)).length:Nat):=by
 induction n with
 |zero=>simp [Yy]
 |succ n ih=>
  rw[sT,ih,List.range_succ,List.filter_append,pQ]
  by_cases h:p n
  ·simp [h,Int.mul_add]
  ·simp [h]
theorem Sq {n:Nat}{B:Nat}{f:Nat->Int}(h: ∀a,a<n-> -(B:Int)<=f a/\f a<=B): -((n*B:Nat):Int)<=sm n f/\sm n f<=((n*B:Nat):Int):=by
 induction n with
 |zero=>simp [Yy]
 |succ n ih=>
  have h1:=ih λa ha=>h a (by omega)
  have h2:=h n (by omega);rw[sT,Nat.succ_mul];generalize n*B=c at*;omega
theorem Ds {x y:Int}{X Y:Nat}(hx: -(X:Int)<=x/\x<=X)(hy: -(Y:Int)<=y/\y<=Y): -((X*Y:Nat):Int)<=x*y/\x*y<=((X*Y:Nat):Int):=by
 have h:(x*y).natAbs<=X*Y:=by
  rw[Int.natAbs_mul];exact Nat.mul_le_mul (by omega) (by omega)
 omega
noncomputable def Fl (G:List Nat->Prop)(L:LN)(K:List Nat)(x y:List Int)(k i j:Nat):Int:=sm L.length λa=>if jC G L K a<i∨jC G L K a=i/\Wg G L K a k<j then x.getD (jC G L K a) 0*y.getD (Wg G L K a k) 0 else 0
noncomputable def FB (G:List Nat->Prop)(L:LN)(K:List Nat)(x y:List Int)(k:Nat):Int:=sm L.length λa=>x.getD (jC G L K a) 0*y.getD (Wg G L K a k) 0
section
variable {n:Nat} {G:List Nat->Prop} {L:LN} {K:List Nat} {x y:List Int}
theorem LD (k:Nat):Fl G L K x y k 0 0=0:=by
 unfold Fl;exact GZ λa _=>by rw[if_neg (by omega)]
theorem Qq (k i j:Nat):Fl G L K x y k i (j+1)=Fl G L K x y k i j+x.getD i 0*y.getD j 0*(sM G L K i j k:Nat):=by
 unfold Fl sM Ff;rw[←KA L.length (x.getD i 0*y.getD j 0) λa=>jC G L K a=i/\Wg G L K a k=j,←VK];refine uS λa _=>?_
 by_cases h:jC G L K a=i/\Wg G L K a k=j
 ·obtain⟨h1,h2⟩:=h
  subst h1;subst h2;rw[if_pos (by omega),if_neg (by omega),if_pos ⟨rfl,rfl⟩,Int.zero_add]
 ·rw[if_neg h,Int.add_zero]
  by_cases h2:jC G L K a<i∨jC G L K a=i/\Wg G L K a k<j
  ·rw[if_pos h2,if_pos (by omega)]
  ·rw[if_neg h2,if_neg (by omega)]
theorem RO {k r:Nat}(hq: ∀a,a<L.length->Wg G L K a k<r)(i:Nat):Fl G L K x y k i r=Fl G L K x y k (i+1) 0:=by
 unfold Fl;refine uS λa ha=>?_
 have:=hq a ha
 by_cases h:jC G L K a<i∨jC G L K a=i
 ·rw[if_pos (by omega),if_pos (by omega)]
 ·rw[if_neg (by omega),if_neg (by omega)]
theorem LK {i:Nat}(h0:x.getD i 0=0)(k:Nat):Fl G L K x y k i 0=Fl G L K x y k (i+1) 0:=by
 unfold Fl;refine uS λa _=>?_
 by_cases h:jC G L K a=i
 ·rw[if_neg (by omega),if_pos (by omega),h,h0,Int.zero_mul]
 ·by_cases h2:jC G L K a<i
  ·rw[if_pos (by omega),if_pos (by omega)]
  ·rw[if_neg (by omega),if_neg (by omega)]
theorem TQ {r:Nat}(hn: ∀a,a<L.length->jC G L K a<r)(k:Nat):Fl G L K x y k r 0=FB G L K x y k:=by
 unfold Fl FB;exact uS λa ha=>by rw[if_pos (.inl (hn a ha))]
theorem uD {l:List Int}{B:Nat}(h: ∀v∈l, -(B:Int)<=v/\v<=B)(i:Nat): -(B:Int)<=l.getD i 0/\l.getD i 0<=B:=by
 by_cases hi:i<l.length
 ·exact h _ (bI hi)
 ·rw[List.getD_eq_getElem?_getD,List.getElem?_eq_none (by omega)];simp
theorem Mg {X Y:Nat}(hx: ∀v∈x, -(X:Int)<=v/\v<=X)(hy: ∀v∈y, -(Y:Int)<=v/\v<=Y)(k i j:Nat): -((L.length*(X*Y):Nat):Int)<=Fl G L K x y k i j/\Fl G L K x y k i j<=((L.length*(X*Y):Nat):Int):=by
 refine Sq λa _=>?_
 split
 ·exact Ds (uD hx _) (uD hy _)
 ·omega
theorem CO {X Y:Nat}(hx: ∀v∈x, -(X:Int)<=v/\v<=X)(hy: ∀v∈y, -(Y:Int)<=v/\v<=Y)(k:Nat): -((L.length*(X*Y):Nat):Int)<=FB G L K x y k/\FB G L K x y k<=((L.length*(X*Y):Nat):Int):=
 Sq λ_ _=>Ds (uD hx _) (uD hy _)
theorem VP (hG:tL n G)(E:fN G L)(ik:Bs n G L K){a k:Nat}(ha:a<L.length)(hk:k<K.length):Wg G L K a k<K.length:=by
 unfold Wg;have hKk:=ik.lt (bI (d:=0) hk);have hy:G (aV (dI (L.getD a [])) (L.getD (K.getD k 0) [])):=hG.mul (hG.inv (Dk E ha)) (Dk E hKk);exact (Po hG E ik (LQ E hy).1).1
end
structure YC (G:List Nat->Prop)(L:LN)(K:List Nat)(i b:Nat)(hh:H)(v:V):Prop where
 ex: ∃(Q:Nat) (ρ:Nat->Nat),v= .sl Q 0 K.length (.kn K.length)/\b<=Q/\Q<hh.next/\hh.get Q=some (.cells false (rc K.length λa=> .sl (ρ a) 0 K.length (.kn K.length)))/\ ∀a,a<K.length->Q<ρ a/\ρ a<hh.next/\hh.get (ρ a)=some (.cells false (rc K.length λk=> aA (sM G L K i a k:Nat)))
theorem YC.sr {G:List Nat->Prop}{L:LN}{K:List Nat}{i b:Nat}{hh:H}{v:V}(c:YC G L K i b hh v):SR hh v ((List.range K.length).map λj=>zi ((List.range K.length).map (sM G L K i j))):=by
 obtain⟨Q,ρ,rfl,_,nQ,gQ,rows⟩:=c.ex;refine⟨(List.range K.length).map λa=> .sl (ρ a) 0 K.length (.kn K.length),?_,?_⟩
 ·exact SV.all (by rw[dX,Nat.mul_one]) nQ gQ _
 ·refine cF.oA (by simp) λa h1 h2=>?_
  have ha:a<K.length:=by simpa using h1
  simp only[List.getElem_map,List.getElem_range];obtain⟨_,r2,r3⟩:=rows a ha
  have e:(rc K.length λk=>aA (sM G L K i a k:Nat))=ints (zi ((List.range K.length).map (sM G L K i a))):=by
   simp [rc,ints,zi,Function.comp_def]
  rw[e] at r3;exact SV.all (by rw[aM,aS,sQ,List.length_range,Nat.mul_one]) r2 r3 _
set_option maxHeartbeats 64000000
theorem Cx (D i:Nat)(n:Nat)(G:List Nat->Prop)(L:LN)(K:List Nat)(h:H)(n7:n<=7)(hG:tL n G)(E:fN G L)(ik:Bs n G L K)(hl:L.length<=5040)(hr:K.length<=64)(d:Gm n G L K h D):
  Ev T 46 [.ptr D 0,aA i] h (λv h'=>YC G L K i h.next h' v/\Fr h h'):=by
 refine bL iX rfl rfl ?_
 obtain⟨vL,vC,Mn,ln,ks,gD,hD,hMn,sL,sC,al,gMn,kln,lkn⟩:=d.ex
 obtain⟨M,hM⟩:=exI h.next
 obtain⟨h1,e1⟩:=exI (h.new (.wmap (.arr 2 .i64) []))
 have n1:h1.next=M+1:=by rw[←e1,H.aT,hM]
 have g1:h1.get M=some (.wmap (.arr 2 .i64) []):=by rw[←e1,←hM];exact H.aL h _
 have o1: ∀k,k≠M->h1.get k=h.get k:=λk hk=>by rw[←e1];exact H.aY h (by omega) _
 have f1:Fr h h1:=⟨by omega,λq hq=>o1 q (by omega)⟩
 obtain⟨r,hrr⟩:=exI K.length
 obtain⟨m0,hm0⟩: ∃m,L.length=m:=⟨_,rfl⟩
 obtain⟨lvL,eL,idL,offL,ws,shL,cL⟩:=yC sL
 obtain⟨lvC,eC,idC,offC,shC,cC⟩:=nH (by omega) sC al
 rw[hrr] at lvC shC cC hr
 rw[hm0] at lvL shL cL lkn
 have gD1: ∀hh,Fr h hh->hh.get D=some (.cells false [vL,vC,.mp Mn]):=λhh f=>by rw[f.get _ hD];exact gD
 simp(disch:=omega)only[go_sem,iX,aE,hM,e1,H.aF (gD1 h1 f1),lvL]
 refine cU (λvs hh=> ∃(m:List ((Nat×Nat)×V)),(∃g:Nat->V,vs= [.ptr D 0,aA i,g 2,.mp M,g 4,g 5,g 6,g 7,g 8,g 9,g 10,g 11,g 12,g 13,g 14,g 15,g 16,g 17,g 18,g 19,g 20,g 21,g 22,g 23,g 24])/\hh.get M=some (.wmap (.arr 2 .i64) (iK To m))/\(∀p∈m,TX p.1)/\(∀j k,k<r->(Jq m (j,k)).getD (aA 0)= aA (Ff G L K i k L.length j:Nat))/\M<hh.next/\Fr h hh) ?_ ?_
 ·refine aJ (λk' vars hh=> ∃(t:Nat) (m:List ((Nat×Nat)×V)),(∃g:Nat->V,vars= [.ptr D 0,aA i,g 2,.mp M,g 4,g 5,g 6,g 7,g 8,g 9,vL,aA m0,aA t,g 13,g 14,g 15,g 16,g 17,g 18,g 19,g 20,g 21,g 22,g 23,g 24])/\t<=m0/\hh.get M=some (.wmap (.arr 2 .i64) (iK To m))/\(∀p∈m,TX p.1)/\(∀j k,k<r->(Jq m (j,k)).getD (aA 0)= aA (Ff G L K i k t j:Nat))/\M<hh.next/\Fr h hh/\k'=m0-t) m0
   ⟨0, [],aB rfl,lW _,g1,λ_ h=>(by cases h),λj k _=>rfl,by omega,f1,rfl⟩ ?_
  rintro k' vars h2 ⟨t,m,⟨g,rfl⟩,ht,gM,pm,lk,nM,F,rfl⟩
  by_cases hlt:(t:Int)<(m0:Int)
  case neg=>
   have d1:=kU hlt;obtain rfl:t=m0:=by omega
   simp(disch:=omega)only[go_sem,d1];exact⟨m,aB rfl,gM,pm,by rw[hm0];exact lk,nM,F⟩
  have d1:=oD hlt
  have htl:t<m0:=by omega
  obtain⟨b1,c1,s1⟩:=cL t htl
  generalize ws.getD t V.undef=ve at c1 s1
  have X:=mD hG E (show t<L.length by omega)
  have hxL:L.getD t []∈L:=bI (by omega)
  have ix:L.idxOf (L.getD t [])=t:=by
   rw[List.getD_eq_getElem?_getD,iI (by omega)];exact E.nodup.idxOf_getElem _ _
  obtain⟨x,hx⟩:=exI (L.getD t [])
  rw[hx] at s1 X hxL ix
  have c2:h2.cell idL (offL+t)=some ve:=by rw[F.cell b1];exact c1
  simp(disch:=omega)only[go_sem,d1,shL.ixa,c2]
  refine (Rd D ve n G L K x h2 (by omega) (d.mono F) X hxL (s1.mono F)).mono ?_
  rw[ix]
  rintro _ h3 ⟨rfl,f3⟩
  have F3:=F.trans f3
  have gM3:h3.get M=some (.wmap (.arr 2 .i64) (iK To m)):=by rw[f3.get _ nM];exact gM
  have n3:=f3.next
  by_cases hi:jC G L K t=i
  case neg=>
   have d2:decide (((jC G L K t:Nat):Int)≠(i:Int))=true:=oD (by omega);simp(disch:=omega)only[go_sem,d2];rw[jP t];refine⟨m0-(t+1),by omega,t+1,m,aB rfl,by omega,gM3,pm,λj k hk=>?_,by omega,F3,rfl⟩;rw[lk j k hk,Dq,if_neg (λe=>hi e.1),Nat.add_zero]
  have d2:decide (((jC G L K t:Nat):Int)≠(i:Int))=false:=kU (by omega)
  simp(disch:=omega)only[go_sem,d2,H.aF (gD1 h3 F3),lvC]
  refine aJ (λk' vars hh=> ∃(k:Nat) (m:List ((Nat×Nat)×V)),(∃g:Nat->V,vars= [.ptr D 0,aA i,g 2,.mp M,ve,g 5,g 6,g 7,g 8,g 9,vL,aA m0,aA t,g 13,g 14,vC,aA r,aA k,g 18,g 19,g 20,g 21,g 22,g 23,g 24])/\k<=r/\hh.get M=some (.wmap (.arr 2 .i64) (iK To m))/\(∀p∈m,TX p.1)/\(∀j k',k'<r->(Jq m (j,k')).getD (aA 0)= aA (Ff G L K i k' (if k'<k then t+1 else t) j:Nat))/\M<hh.next/\Fr h hh/\k'=r-k) r
   ⟨0,m,aB rfl,lW _,gM3,pm,λj k hk=>by rw[if_neg (by omega)];exact lk j k hk,by omega,F3,rfl⟩ ?_
  clear gM pm lk nM F f3 F3 gM3 n3
  rintro k' vars h4 ⟨k,m,⟨g',rfl⟩,hk,gM,pm,lk,nM,F,rfl⟩
  by_cases hlk:(k:Int)<(r:Int)
  case neg=>
   have d3:decide ((k:Int)<(r:Int))=false:=decide_eq_false hlk;obtain rfl:k=r:=by omega
   simp(disch:=omega)only[go_sem,d3];rw[jP t];exact⟨m0-(t+1),by omega,t+1,m,aB rfl,by omega,gM,pm,λj k' hk'=>by rw[lk j k' hk',if_pos hk'],nM,F,rfl⟩
  have d3:decide ((k:Int)<(r:Int))=true:=decide_eq_true hlk
  have hkr:k<r:=by omega
  obtain⟨bC,rep,cr,_,rw3,sr⟩:=cC k hkr
  obtain⟨z,hz⟩:=exI (L.getD (K.getD k 0) [])
  rw[hz] at sr rw3
  have hKk:K.getD k 0<L.length:=ik.lt (bI (by omega))
  have Z:bG n z:=by rw[←hz];exact mD hG E hKk
  have hzL:z∈L:=by rw[←hz];exact bI hKk
  have w3:=sr.dZ
  have r4:h4.row idC (offC+k*3) 3=some [rep,aA (jR z n:Int),aA ((iP G L (K.getD k 0)).length:Int)]:=by
   have:h4.row idC (offC+k*3) 3=h.row idC (offC+k*3) 3:=by unfold H.row;rw[F.get _ bC]
   rw[this];exact rw3
  obtain⟨A,hA⟩:=exI h4.next
  obtain⟨h5,e5,n5,g5,o5,f5⟩:=iD hA [.aC,aA 0,aA 0]
  obtain⟨h6,e6,n6,g6,o6⟩:=Ju h5 A [rep,aA (jR z n:Int),aA ((iP G L (K.getD k 0)).length:Int)]
  have f46:Fr h4 h6:=⟨by omega,λq hq=>by rw[o6 q (by omega),o5 q (by omega)]⟩
  have F6:=F.trans f46
  have gM6:h6.get M=some (.wmap (.arr 2 .i64) (iK To m)):=by rw[f46.get _ nM];exact gM
  have evx:=s1.eP
  have evr:=sr.eP
  simp(disch:=omega)only[go_sem,d3,shC.ixa,r4,hA,e5,mL h5 A 0 (v:=rep) (u:= aA (jR z n:Int)) (w:= aA ((iP G L (K.getD k 0)).length:Int)) w3.2.1 rfl rfl,g5,kA,e6,H.aF (gD1 h6 F6),H.aF g6]
  have fb:=(Fr.refl h6).bM (n:=h6.next+17) (by omega)
  refine (NZ ve rep n x z _ (by omega) X Z (s1.mono (F6.trans fb)) (sr.mono (F6.trans fb))).mono ?_
  rintro _ h7 ⟨rfl,f7⟩
  have f67:=fb.trans f7
  have F7:=F6.trans f67
  have gM7:h7.get M=some (.wmap (.arr 2 .i64) (iK To m)):=by rw[f67.get _ (by have:=f46.next;omega)];exact gM6
  have gN7:h7.get Mn=some (.wmap (.arr 64 .u8) (iK Ps ln)):=by rw[F7.get _ hMn];exact gMn
  have Qx:=X.inv.mul Z
  have hGx:G (aV (dI x) z):=hG.mul (hG.inv ((E.mem x).1 hxL)) ((E.mem z).1 hzL)
  obtain⟨iq,eq'⟩:=LQ E hGx
  obtain⟨q,hq⟩:=exI (jC G L K (L.idxOf (aV (dI x) z)))
  have hqr:q<r:=by rw[←hq,←hrr];exact (Po hG E ik iq).1
  have lk1:=lkn _ (show L.idxOf (aV (dI x) z)<m0 by omega)
  rw[eq',hq] at lk1
  have lo:=λw=>sU (Ip (n:=n) (by omega)) (λa A=>Cc (n:=n) (by omega) a A) kln Qx w
  rw[lk1] at lo
  have PQ:TX (q,k):=⟨by show q<1000000;omega,by show k<1000000;omega⟩
  have ql:Wg G L K t k=q:=by unfold Wg;rw[hx,hz];exact hq
  have lc:=lk q k hkr
  rw[if_neg (by omega)] at lc
  obtain⟨c,hc⟩:=exI (Ff G L K i k t q)
  rw[hc] at lc
  have cle:c<=t:=by rw[←hc];exact AA ..
  have lo2:=sU Nq Ft pm PQ (aA 0)
  rw[lc] at lo2
  have epk:V.agg [aA q,aA k]=To (q,k):=rfl
  obtain⟨we,ni,m1,h8,ee,n8,o8,gM8,pm1,lk8,en⟩:=Ys Nq Ft pm PQ (aA 0) (aA (c+1:Nat)) h7 M gM7
  have lo3:=sU Nq Ft pm1 PQ (aA 0)
  rw[lk8,lc] at lo3
  have lo2':Ke (some (.wmap (.arr 2 .i64) (iK To m))) (.arr 2 .i64) (aA 0) false (V.agg [aA q,aA k])=_:=lo2
  have lo3':Ke (some (.wmap (.arr 2 .i64) (iK To m1))) (.arr 2 .i64) (aA 0) false (V.agg [aA q,aA k])=_:=lo3
  have ee':Xh (some (.wmap (.arr 2 .i64) (iK To m))) h7 M (.arr 2 .i64) (aA 0) (V.agg [aA q,aA k])=_:=ee
  have gD7:=gD1 h7 F7
  have gD8:h8.get D=some (.cells false [vL,vC,.mp Mn]):=by rw[o8 D (by omega)];exact gD7
  simp(disch:=omega)only[go_sem,H.aF gD7,gN7,lo,Option.getD_some,IA,gM7,lo2',show (c:Int)+1=((c+1:Nat):Int) from rfl,ee',gM8,lo3',en]
  have ok:SC h8 (.lkw (.arr 2 .i64) (aA 0) false (.c (.mp M)) (.c (.agg [aA q,aA k]))) (aA c)=true:=by
   simp only[SC,Mw,xv,Oj,gM8,lo3',Option.map_some,ZF];simp [eP]
  rw[jP k]
  have n7':=F7.next
  refine⟨by simp [eP],ok,r-(k+1),by omega,k+1,_,aB rfl,by omega,rfl,Cs PQ pm,λj k' hk'=>?_,by rw[n8];have:=f67.next;omega,⟨by show h.next<=h8.next;omega,λp hp=>by rw[H.aH _ (by omega),o8 p (by omega)];exact F7.get p hp⟩,rfl⟩
  rw[Fw]
  by_cases e:(j,k')=(q,k)
  ·cases e
   rw[if_pos rfl,if_pos (by omega),Dq,if_pos ⟨hi,ql⟩,hc]
   rfl
  ·rw[if_neg e,lk j k' hk']
   by_cases ek:k'=k
   ·subst ek
    rw[if_neg (by omega),if_pos (by omega),Dq,if_neg (λh=>e (by rw[←h.2,ql]))]
    rfl
   ·by_cases e2:k'<k
    ·rw[if_pos e2,if_pos (by omega)]
    ·rw[if_neg e2,if_neg (by omega)]
 rintro vars hA ⟨m,⟨g,rfl⟩,gM,pm,lk,nM,FA⟩
 obtain⟨Q,hQ⟩:=exI hA.next
 obtain⟨hB,eB,nB,gB,oB,fB⟩:=iD hQ (rc r λ_=> .aC)
 simp(disch:=omega)only[go_sem,H.aF (gD1 hA FA),lvC,LJ hA r (by omega),hQ,eB]
 refine aJ (λk' vars hh=> ∃(j:Nat) (ρ:Nat->Nat),(∃g:Nat->V,vars= [.ptr D 0,g 1,g 2,.mp M,g 4,g 5,g 6,.sl Q 0 r (.kn r),g 8,g 9,g 10,g 11,g 12,g 13,g 14,g 15,g 16,g 17,g 18,aA r,aA j,g 21,g 22,g 23,g 24])/\j<=r/\hh.get Q=some (.cells false (rc r λa=>if a<j then .sl (ρ a) 0 r (.kn r) else .aC))/\(∀a,a<j->Q<ρ a/\ρ a<hh.next/\hh.get (ρ a)=some (.cells false (rc r λk=> aA (sM G L K i a k:Nat))))/\Fr hA hh/\Q<hh.next/\k'=r-j) r
  ⟨0,λ_=>0,aB rfl,lW _,by rw[gB];rfl,λa h=>by omega,fB,by omega,rfl⟩ ?_
 rintro k' vars h2 ⟨j,ρ,⟨g',rfl⟩,hj,gQ,rows,F,nQ,rfl⟩
 have F0:=FA.trans F
 by_cases hlt:(j:Int)<(r:Int)
 case neg=>
  have d1:=kU hlt;obtain rfl:j=r:=by omega
  simp(disch:=omega)only[go_sem,d1];refine⟨⟨Q,ρ,by rw[hrr],by have:=FA.next;omega,nQ,?_,by rw[hrr];exact rows⟩,F0⟩;rw[gQ,hrr];congr 2;exact bH λa ha=>by rw[if_pos ha]
 have d1:=oD hlt
 have hjr:j<r:=by omega
 obtain⟨S,hS⟩:=exI h2.next
 obtain⟨h3,e3,n3,g3,o3,f3⟩:=iD hS (rc r λ_=> aA 0)
 have gQ3:h3.get Q=some (.cells false (rc r λa=>if a<j then .sl (ρ a) 0 r (.kn r) else .aC)):=by rw[o3 Q (by omega)];exact gQ
 obtain⟨h4,e4,n4,g4,o4⟩:=Ju h3 Q (rc r λa=>if a<j+1 then .sl (if a=j then S else ρ a) 0 r (.kn r) else .aC)
 have p4:fJ (some (.cells false (rc r λa=>if a<j then .sl (ρ a) 0 r (.kn r) else .aC))) h3 Q j [.sl S 0 r (.kn r)]=some h4:=by
  rw[aZ (by rw[dX];exact hjr),jL,←e4];congr 4;refine bH λa ha=>?_
  by_cases e:a=j
  ·rw[if_pos e,if_pos (by omega),if_pos e]
  ·rw[if_neg e]
   by_cases e2:a<j
   ·rw[if_pos e2,if_pos (by omega),if_neg e]
   ·rw[if_neg e2,if_neg (by omega)]
 have F4:Fr hA h4:=⟨by have:=F.next;omega,λq hq=>by rw[o4 q (by omega),o3 q (by omega)];exact F.get q hq⟩
 have cQ4:h4.cell Q j=some (.sl S 0 r (.kn r)):=by
  rw[H.aF g4,oT hjr,if_pos (by omega),if_pos rfl]
 simp(disch:=omega)only[go_sem,d1,H.aF (gD1 h2 F0),lvC,lU h2 r (by omega),hS,e3,gQ3,p4,cQ4]
 refine aJ (λk' vars hh=> ∃(k:Nat),(∃g:Nat->V,vars= [.ptr D 0,g 1,g 2,.mp M,g 4,g 5,g 6,.sl Q 0 r (.kn r),aA j,g 9,g 10,g 11,g 12,g 13,g 14,g 15,g 16,g 17,g 18,aA r,aA j,g 21,aA r,aA k,g 24])/\k<=r/\hh.get S=some (.cells false (rc r λa=> aA (if a<k then sM G L K i j a else 0:Nat)))/\Fx (· =S) h4 hh/\k'=r-k) r
  ⟨0,aB rfl,lW _,by rw[o4 S (by omega),g3];rfl,Fx.refl _ _,rfl⟩ ?_
 rintro k' vars h5 ⟨k,⟨g'',rfl⟩,hk,gS,F5,rfl⟩
 have n5:=F5.next
 have gQ5:h5.get Q=some (.cells false (rc r λa=>if a<j+1 then .sl (if a=j then S else ρ a) 0 r (.kn r) else .aC)):=by rw[F5.get Q (by omega) (by show Q≠S;omega)];exact g4
 have FA5:Fr hA h5:=⟨by have:=F4.next;omega,λq hq=>by rw[F5.get q (by have:=F4.next;omega) (by show q≠S;have:=F.next;omega)];exact F4.get q hq⟩
 by_cases hlk:(k:Int)<(r:Int)
 case neg=>
  have d3:decide ((k:Int)<(r:Int))=false:=decide_eq_false hlk;obtain rfl:k=r:=by omega
  simp(disch:=omega)only[go_sem,d3];rw[jP j];refine⟨k-(j+1),by omega,j+1,λa=>if a=j then S else ρ a,aB rfl,by omega,gQ5,λa ha=>?_,FA5,by omega,rfl⟩;show Q<(if a=j then S else ρ a)/\(if a=j then S else ρ a)<h5.next/\h5.get (if a=j then S else ρ a)=_
  by_cases e:a=j
  ·subst e
   rw[if_pos rfl];refine⟨by omega,by omega,?_⟩;rw[gS];congr 2;exact bH λb hb=>by rw[if_pos hb]
  ·rw[if_neg e]
   obtain⟨r1,r2,r3⟩:=rows a (by omega);exact⟨r1,by omega,by rw[F5.get _ (by omega) (by show ρ a≠S;omega),o4 _ (by omega),o3 _ (by omega)];exact r3⟩
 have d3:decide ((k:Int)<(r:Int))=true:=decide_eq_true hlk
 have hkr:k<r:=by omega
 have gM5:h5.get M=some (.wmap (.arr 2 .i64) (iK To m)):=by rw[FA5.get _ nM];exact gM
 have PQ:TX (j,k):=⟨by show j<1000000;omega,by show k<1000000;omega⟩
 have lo2:=sU Nq Ft pm PQ (aA 0)
 rw[lk j k hkr] at lo2
 have lo2':Ke (some (.wmap (.arr 2 .i64) (iK To m))) (.arr 2 .i64) (aA 0) false (V.agg [aA j,aA k])=some (aA (sM G L K i j k:Nat)):=lo2
 have cQ5:h5.cell Q j=some (.sl S 0 r (.kn r)):=by
  rw[H.aF gQ5,oT hjr,if_pos (by omega),if_pos rfl]
 have pS:=λhh=>aZ (vs:=rc r λa=> aA (if a<k then sM G L K i j a else 0:Nat)) (off:=k) (by rw[dX];exact hkr) hh S (aA (sM G L K i j k:Nat))
 simp(disch:=omega)only[go_sem,d3,cQ5,IA,gM5,lo2',gS,pS]
 rw[jP k]
 refine⟨r-(k+1),by omega,k+1,aB rfl,by omega,?_,?_,rfl⟩
 ·rw[jL]
  congr 2
  refine bH λa ha=>?_
  by_cases e:a=k
  ·rw[if_pos e,if_pos (by omega),e]
  ·rw[if_neg e]
   by_cases e2:a<k
   ·rw[if_pos e2,if_pos (by omega)]
   ·rw[if_neg e2,if_neg (by omega)]
 ·refine (F5.trans (Fx.of (W:=(· =S)) ((Fr.refl h5).bM (n:=h5.next+12) (by omega))) λ_ _ h=>h).trans ?_ (λ_ _ h=>h)
  exact Fx.set _ (W:=(· =S)) rfl _
set_option maxHeartbeats 32000000
theorem Ru (f:Nat)(cs:List V)(vl vo:V)(l:List Int)(h:H)(ll:l.length<1000000)(I:Nat->V->H->Prop)(hI: ∀i v hh,I i v hh->SI hh vl l)(h0:I 0 vo h)
  (step: ∀i v hh,i<l.length->I i v hh->Ev T f ([v,aA i,aA (l.getD i 0)]++cs) hh (λv' h'=>I (i+1) v' h')):
  Ev T 64 [vl,vo,.fn f [] cs] h (λv h'=>I l.length v h'):=by
 refine bL jT rfl rfl ?_
 have lv:=(hI _ _ _ h0).lens
 simp(disch:=omega)only[go_sem,jT,aE,lv]
 refine aJ (λk' vars hh=> ∃(i:Nat) (v:V),(∃g:Nat->V,vars= [g 0,v,.fn f [] cs,g 3,g 4,g 5,vl,aA (l.length:Int),aA i,g 9])/\i<=l.length/\I i v hh/\k'=l.length-i) l.length
  ⟨0,vo,aB rfl,lW _,h0,rfl⟩ ?_
 rintro k' vars hh ⟨i,v,⟨g,rfl⟩,hi,inv,rfl⟩
 by_cases hlt:(i:Int)<(l.length:Int)
 ·have d1:=oD hlt
  have hi':i<l.length:=by omega
  obtain⟨id,off,sh,hid,hc⟩:=(hI _ _ _ inv).open
  have c1:=hc i hi'
  simp(disch:=omega)only[go_sem,d1,sh.ixa,c1]
  refine (step i v hh hi' inv).mono ?_
  rintro v' h2 inv2
  simp(disch:=omega)only[go_sem]
  rw[jP i]
  exact⟨l.length-(i+1),by omega,i+1,v',aB rfl,by omega,inv2,rfl⟩
 have d1:=kU hlt
 obtain rfl:i=l.length:=by omega
 simp(disch:=omega)only[go_sem,d1]
 exact inv
theorem QQ (D S B1 B2 i:Nat)(vy:V)(n:Nat)(G:List Nat->Prop)(L:LN)(K:List Nat)(x y:List Int)(X Y:Nat)(h:H)(n7:n<=7)(hG:tL n G)(E:fN G L)(ik:Bs n G L K)(hl:L.length<=5040)(hr:K.length<=64)(d:Gm n G L K h D)
  (hx: ∀v∈x, -(X:Int)<=v/\v<=X) (hy: ∀v∈y, -(Y:Int)<=v/\v<=Y) (hXY:X*Y*5040<=4000000000000000000) (ly:y.length=K.length) (sy:SI h vy y) (hy': ∀id off m c,vy= .sl id off m c->id≠S) (hi:i<K.length)
  (g1:h.get B1=some (.cells false [.ptr D 0])) (g2:h.get B2=some (.cells false [vy])) (h1:B1<h.next) (h2:B2<h.next) (nS:S<h.next) (e1:B1≠S) (e2:B2≠S) (gS:h.get S=some (.cells false (rc K.length λk=> aA (Fl G L K x y k i 0)))):
  Ev T 96 [.sl S 0 K.length (.kn K.length),aA i,aA (x.getD i 0),.ptr B1 0,.ptr B2 0] h (λv h'=>v= .sl S 0 K.length (.kn K.length)/\h'.get S=some (.cells false (rc K.length λk=> aA (Fl G L K x y k (i+1) 0)))/\Fx (· =S) h h'):=by
 obtain⟨r,hrr⟩:=exI K.length
 refine bL iS rfl rfl ?_
 by_cases h0:x.getD i 0=0
 ·have d1:decide (x.getD i 0=0)=true:=decide_eq_true h0
  simp(disch:=omega)only[go_sem,iS,aE,d1]
  exact⟨by rw[gS];congr 2;exact bH λk _=>by rw[LK h0],Fx.refl _ _⟩
 have d1:decide (x.getD i 0=0)=false:=decide_eq_false h0
 simp(disch:=omega)only[go_sem,iS,aE,d1,H.aF g1]
 refine (Cx D i n G L K h n7 hG E ik hl hr d).mono ?_
 rintro vm ha ⟨⟨Q,ρ,rfl,bQ,nQ,gQ,rows⟩,fa⟩
 rw[hrr] at gS hr ly hi gQ rows
 have na:=fa.next
 have gSa:ha.get S=some (.cells false (rc r λk=> aA (Fl G L K x y k i 0))):=by rw[fa.get S nS];exact gS
 have hM:L.length*(X*Y)<=4000000000000000000:=Nat.le_trans (Nat.mul_le_mul_right _ hl) (by rw[Nat.mul_comm];exact hXY)
 have hsy:=λhh (f:Fx (· =S) ha hh)=>(show SI hh vy y from by
  have s2:=sy.mono fa;refine SV.fx s2 ?_ f
  cases vy with
  |sl q off m c=>exact λe=>hy' _ _ _ _ rfl e
  |_=>trivial)
 rw[hrr]
 simp(disch:=omega)only[go_sem]
 refine aJ (λk' vars hh=> ∃(j:Nat),(∃g:Nat->V,vars= [.sl S 0 r (.kn r),g 1,aA (x.getD i 0),g 3,.ptr B2 0,g 5,g 6,g 7,g 8,g 9,g 10,.sl Q 0 r (.kn r),aA r,aA j,g 14,g 15,g 16,g 17,g 18])/\j<=r/\hh.get S=some (.cells false (rc r λk=> aA (Fl G L K x y k i j)))/\Fx (· =S) ha hh/\k'=r-j) r
  ⟨0,aB rfl,lW _,gSa,Fx.refl _ _,rfl⟩ ?_
 rintro k' vars hb ⟨j,⟨g,rfl⟩,hj,gSb,Fb,rfl⟩
 have nb:=Fb.next
 by_cases hlt:(j:Int)<(r:Int)
 case neg=>
  have d2:=kU hlt;obtain rfl:j=r:=by omega
  simp(disch:=omega)only[go_sem,d2];refine⟨?_,⟨by omega,λid h1 h2=>by rw[Fb.get id (by omega) h2,fa.get id h1]⟩⟩;rw[gSb];congr 2;exact bH λk hk=>by rw[←hrr,RO (λa ha=>VP hG E ik ha (by omega))]
 have d2:=oD hlt
 have hjr:j<r:=by omega
 obtain⟨rq,rn,rg⟩:=rows j hjr
 have cQ:hb.cell Q j=some (.sl (ρ j) 0 r (.kn r)):=by
  rw[Fb.cell nQ (by show Q≠S;omega),H.aF gQ,oT hjr]
 simp(disch:=omega)only[go_sem,d2,cQ]
 refine aJ (λk' vars hh=> ∃(k:Nat),(∃g:Nat->V,vars= [.sl S 0 r (.kn r),g 1,aA (x.getD i 0),g 3,.ptr B2 0,g 5,aA j,g 7,g 8,g 9,g 10,.sl Q 0 r (.kn r),aA r,aA j,g 14,.sl (ρ j) 0 r (.kn r),aA r,aA k,g 18])/\k<=r/\hh.get S=some (.cells false (rc r λa=> aA (Fl G L K x y a i (if a<k then j+1 else j))))/\Fx (· =S) ha hh/\k'=r-k) r
  ⟨0,aB rfl,lW _,gSb,Fb,rfl⟩ ?_
 rintro k' vars hc ⟨k,⟨g',rfl⟩,hk,gSc,Fc,rfl⟩
 have nc:=Fc.next
 by_cases hlk:(k:Int)<(r:Int)
 case neg=>
  have d3:decide ((k:Int)<(r:Int))=false:=decide_eq_false hlk;obtain rfl:k=r:=by omega
  simp(disch:=omega)only[go_sem,d3];rw[jP j];refine⟨k-(j+1),by omega,j+1,aB rfl,by omega,?_,Fc,rfl⟩;rw[gSc];congr 2;exact bH λa ha=>by rw[if_pos ha]
 have d3:decide ((k:Int)<(r:Int))=true:=decide_eq_true hlk
 have hkr:k<r:=by omega
 have cR:hc.cell (ρ j) k=some (aA (sM G L K i j k:Nat)):=by
  rw[Fc.cell rn (by show ρ j≠S;omega),H.aF rg,oT hkr]
 have cS:hc.cell S k=some (aA (Fl G L K x y k i j)):=by
  rw[H.aF gSc,oT hkr,if_neg (by omega)]
 have cB:hc.cell B2 0=some vy:=by
  rw[Fc.cell (by omega) (by show B2≠S;omega),fa.cell h2,H.aF g2];rfl
 obtain⟨idy,offy,shy,hidy,hcy⟩:=(hsy hc Fc).open
 rw[ly] at shy hidy hcy
 have cY:=hcy j hjr
 have b1:=Ds (uD hx i) (uD hy j)
 have b2:=Mg (G:=G) (L:=L) (K:=K) hx hy k i j
 have b3:=Mg (G:=G) (L:=L) (K:=K) hx hy k i (j+1)
 rw[Qq] at b3
 have hXYs:X*Y<=L.length*(X*Y):=Nat.le_mul_of_pos_left _ (by have:=ik.lt (bI (d:=0) (show 0<K.length by omega));omega)
 obtain⟨u,hu⟩:=exI (x.getD i 0*y.getD j 0)
 obtain⟨w,hw⟩:=exI (u*((sM G L K i j k:Nat):Int))
 obtain⟨s,hs⟩:=exI (Fl G L K x y k i j)
 rw[hu,hs] at b3
 rw[hu] at b1
 rw[hs] at b2 cS
 rw[hw] at b3
 have pS:=λhh=>aZ (vs:=rc r λa=> aA (Fl G L K x y a i (if a<k then j+1 else j))) (off:=k) (by rw[dX];exact hkr) hh S (aA (s+w))
 simp(disch:=omega)only[go_sem,d3,cR,cS,cB,shy.ixa,cY,hu,hw,gSc,pS]
 rw[jP k]
 refine⟨r-(k+1),by omega,k+1,aB rfl,by omega,?_,?_,rfl⟩
 ·rw[jL]
  congr 2
  refine bH λa ha=>?_
  by_cases e:a=k
  ·rw[if_pos e,if_pos (by omega),e,Qq,hu,hs,hw]
  ·rw[if_neg e]
   by_cases e2:a<k
   ·rw[if_pos e2,if_pos (by omega)]
   ·rw[if_neg e2,if_neg (by omega)]
 ·refine (Fc.trans (Fx.of (W:=(· =S)) ((Fr.refl hc).bM (n:=hc.next+15) (by omega))) λ_ _ h=>h).trans ?_ (λ_ _ h=>h)
  exact Fx.set _ (W:=(· =S)) rfl _
structure EK (b r:Nat)(f:Nat->Int)(hh:H)(v:V):Prop where
 ex: ∃S,v= .sl S 0 r (.kn r)/\b<=S/\S<hh.next/\hh.get S=some (.cells false (rc r λk=> aA (f k)))
theorem EK.si {b r:Nat}{f:Nat->Int}{hh:H}{v:V}(o:EK b r f hh v):SI hh v ((List.range r).map f):=by
 obtain⟨S,rfl,_,nS,gS⟩:=o.ex
 have e:(rc r λk=>aA (f k))=ints ((List.range r).map f):=by
  simp [rc,ints,Function.comp_def]
 rw[e] at gS;exact SV.all (by rw[aM,sQ,List.length_range,Nat.mul_one]) nS gS _
theorem LU (D:Nat)(vx vy:V)(n:Nat)(G:List Nat->Prop)(L:LN)(K:List Nat)(x y:List Int)(X Y:Nat)(h:H)(n7:n<=7)(hG:tL n G)(E:fN G L)(ik:Bs n G L K)(hl:L.length<=5040)(hr:K.length<=64)(d:Gm n G L K h D)
  (hx: ∀v∈x, -(X:Int)<=v/\v<=X) (hy: ∀v∈y, -(Y:Int)<=v/\v<=Y) (hXY:X*Y*5040<=4000000000000000000) (lx:x.length=K.length) (ly:y.length=K.length) (sx:SI h vx x) (sy:SI h vy y):
  Ev T 60 [.ptr D 0,vx,vy] h (λv h'=>EK h.next K.length (FB G L K x y) h' v/\Fr h h'):=by
 refine bL mO rfl rfl ?_
 obtain⟨vL,vC,Mn,ln,ks,gD,hD,hMn,sL,sC,al,gMn,kln,lkn⟩:=d.ex
 have lvC:=(nH (by omega) sC al).1
 obtain⟨B,hB⟩:=exI h.next
 obtain⟨h1,e1,n1,g1,o1,f1⟩:=iD hB [.ptr D 0]
 obtain⟨h2,e2,n2,g2,o2,f2⟩:=iD n1 [vy]
 obtain⟨h3,e3,n3,g3,o3,f3⟩:=iD n2 (rc K.length λ_=> aA 0)
 have wy:=SV.dZ sy
 have F2:=f1.trans f2
 have F3:=F2.trans f3
 have gB2:h2.get B=some (.cells false [.ptr D 0]):=by rw[o2 B (by omega)];exact g1
 have gD2:h2.get D=some (.cells false [vL,vC,.mp Mn]):=by rw[F2.get _ hD];exact gD
 have gB3:h3.get B=some (.cells false [.ptr D 0]):=by rw[o3 B (by omega)];exact gB2
 have gC3:h3.get (B+1)=some (.cells false [vy]):=by rw[o3 (B+1) (by omega)];exact g2
 have b1:=nX (x:= .ptr D 0) rfl rfl h
 have b2:=nX wy.1 wy.2.1 h1
 simp(disch:=omega)only[go_sem,mO,aE,b1,hB,e1,b2,n1,e2,H.aF gB2,H.aF gD2,lvC,lU h2 K.length (by omega),n2,e3]
 have hsx:=SV.in sx
 have hsy:=SV.in sy
 refine (Ru _ [.ptr B 0,.ptr (B+1) 0] vx (.sl (B+1+1) 0 K.length (.kn K.length)) x h3 (by omega) (λi v hh=>v= .sl (B+1+1) 0 K.length (.kn K.length)/\hh.get (B+1+1)=some (.cells false (rc K.length λk=> aA (Fl G L K x y k i 0)))/\Fx (· =B+1+1) h3 hh) ?_ ?_ ?_).mono ?_
 ·rintro i v hh ⟨_,_,F⟩
  refine SV.fx (sx.mono F3) ?_ F
  cases vx with
  |sl q off m c=>exact λe=>by have:=hsx _ _ _ _ rfl;omega
  |_=>trivial
 ·exact⟨rfl,by rw[g3];congr 2;exact bH λk _=>by rw[LD],Fx.refl _ _⟩
 ·rintro i v hh hi ⟨rfl,gS,F⟩
  have nF:=F.next
  have gg: ∀id,id<B+1+1->hh.get id=h3.get id:=λid h1=>F.get id (by omega) (by show id≠B+1+1;omega)
  have F0:Fr h hh:=⟨by omega,λq hq=>by rw[gg q (by omega)];exact F3.get q hq⟩
  refine (QQ D (B+1+1) B (B+1) i vy n G L K x y X Y hh n7 hG E ik hl hr (d.mono F0) hx hy hXY ly (sy.mono F0) (λid off m c e=>by have:=hsy _ _ _ _ e;omega) (by omega) (by rw[gg _ (by omega)];exact gB3) (by rw[gg _ (by omega)];exact gC3) (by omega) (by omega) (by omega) (by omega) (by omega) gS).mono ?_
  rintro v' h' ⟨rfl,g',f'⟩
  exact⟨rfl,g',F.trans f' λ_ _ h=>h⟩
 ·rintro v h4 ⟨rfl,gS,F⟩
  have nF:=F.next
  simp(disch:=omega)only[go_sem]
  refine⟨⟨B+1+1,rfl,by omega,by omega,?_⟩,⟨by omega,λq hq=>by rw[F.get q (by omega) (by show q≠B+1+1;omega)];exact F3.get q hq⟩⟩
  rw[gS]
  congr 2
  exact bH λk _=>by rw[lx,TQ λa ha=>(Po hG E ik ha).1]
set_option maxHeartbeats 16000000
noncomputable def AV (G:List Nat->Prop)(L:LN)(K:List Nat)(i:Nat):List (List Int):=(List.range K.length).map λj=>zi ((List.range K.length).map (sM G L K i j))
theorem Gc {W0:Nat->Prop}(vc:V)(z:Int)(n:Nat)(O:LN)(R:oQ)(G:List Nat->Prop)(h:H)(gc:GC W0 h vc n O R G)(L:LN)(hL:cV O R n 0 (bZ n)=L):
  Ev T 23 [vc,aA z] h (λv h'=> ∃K,Bs n G L K/\Fr h h'/\(64<K.length/\v= .tup [.aC,aA 5]∨K.length<=64/\((z<0∨(K.length:Int)<=z)/\v= .tup [.aC,aA 2]∨ ∃(i:Nat) (vl:V),z=(i:Int)/\i<K.length/\v= .tup [vl,aA 0]/\SR h' vl (AV G L K i)))):=by
 have gc0:=gc
 obtain⟨vO,vR,rfl,sO,sR⟩:=gc.ch
 refine bL mE rfl rfl ?_
 have oneO:vO.one=true:=Tt sO
 have oneR:vR.one=true:=Tq sR
 obtain⟨E,ll⟩:=jH gc.kY gc.isc
 have ll5:=mK gc
 rw[hL] at E ll
 obtain⟨B,hB⟩:=exI h.next
 obtain⟨h1,e1,n1,g1,o1,f1⟩:=iD hB [aA n,vO,vR]
 have bx:=dB h (v:= aA n) (u:=vO) (w:=vR) rfl oneO oneR
 simp(disch:=omega)only[go_sem,mE,aE,bx,hB,e1,bB g1]
 refine (Ar _ n O R G h1 (gc0.mono f1) L hL).mono ?_
 rintro _ h2 ⟨K,ik,f2,⟨k64,rfl⟩|⟨k64,D,rfl,dat⟩⟩
 ·simp(disch:=omega)only[go_sem]
  refine aW (λ_=>?_) (λhc=>(hc (by decide)).elim)
  simp(disch:=omega)only[go_sem]
  exact⟨K,ik,f1.trans f2,.inl ⟨k64,trivial⟩⟩
 simp(disch:=omega)only[go_sem]
 refine aW (λhc=>(hc rfl).elim) (λ_=>?_)
 obtain⟨vL,vC,Mn,ln,ks,gD,hD,hMn,sL,sC,al,gMn,kln,lkn⟩:=dat.ex
 have lvC:=(nH (by omega) sC al).1
 by_cases hz:z<0
 ·have d1:decide (z<0)=true:=decide_eq_true hz
  simp(disch:=omega)only[go_sem,d1,Iz]
  exact⟨K,ik,f1.trans f2,.inr ⟨k64,.inl ⟨.inl hz,trivial⟩⟩⟩
 have d1:decide (z<0)=false:=decide_eq_false hz
 by_cases hk:(K.length:Int)<=z
 ·have d2:=oD hk
  simp(disch:=omega)only[go_sem,d1,H.aF gD,lvC,d2]
  exact⟨K,ik,f1.trans f2,.inr ⟨k64,.inl ⟨.inr hk,trivial⟩⟩⟩
 have d2:=kU hk
 obtain⟨i,rfl⟩: ∃i:Nat,z=(i:Int):=⟨z.toNat,by omega⟩
 simp(disch:=omega)only[go_sem,d1,H.aF gD,lvC,d2]
 refine (Cx D i n G L K h2 gc.n7 gc.kY E ik (by omega) k64 dat).mono ?_
 rintro vl h3 ⟨s3,f3⟩
 simp(disch:=omega)only[go_sem]
 exact⟨K,ik,(f1.trans f2).trans f3,.inr ⟨k64,.inr ⟨i,vl,rfl,by omega,rfl,s3.sr⟩⟩⟩
end Go.Proofs.YtapfcpkecmmagaaGreat
