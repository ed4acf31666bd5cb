/- Texts of the claim. -/
import Derived.Test.YtapfcpkecmmagaaGreatP5otoSc6
import Derived.Test.YtapfcpkecmmagaaGreatDp2toP4a
import Derived.Test.YtapfcpkecmmagaaGreatP5a
set_option maxHeartbeats 32000000
namespace Go.Proofs.YtapfcpkecmmagaaGreat.Cls
open Go Go.Ay Go.Sort
set_option maxRecDepth 100000
theorem Sy {α:Type}[Inhabited α][O:bL α](h:H)(S N:Nat)(d:Array α)(cp:qF)(hN:N<60000)(A:dQ h S N d):
  Ev T 88 [.sl S 0 N cp,.fn (bL.f α) [] []] h (λ_ h'=> ∃e,dQ h' S N e/\PermIn 0 N d e/\SortedIn bL.lt 0 N e/\Fx (· =S) h h'):=by
 refine bN dE rfl rfl ?_
 have hb:bitsLen N<=16:=(bitsLen_le_iff _ 16).2 (by omega)
 simp(disch:=omega)only[go_sem,dE,aE,fX (n:=(N:Int)) (by omega) (by omega)]
 refine (Wc N h (by omega)).mono ?_
 rintro _ h1 ⟨rfl,hh⟩
 subst hh
 simp(disch:=omega)only[go_sem]
 refine (Ot N h1 S N 0 N _ d cp hN A (by omega) (by omega) (by omega) (by omega) (by omega) (.inl rfl)).mono ?_
 rintro _ h2 ⟨e,A2,p,s,F⟩
 simp(disch:=omega)only[go_sem]
 exact⟨e,A2,p,s,F⟩
theorem yY (a:Int)(h:H):Ev T 147 [aB a] h (λv h'=>v= .bool false/\h'=h):=by
 refine bN kF rfl rfl ?_;have e:decide (a≠a)=false:=iZ (by omega);simp(disch:=omega)only[go_sem,kF,aE,e]
def xE (a b:Int):Int:=if a<b then -1 else if b<a then 1 else 0
theorem Am (a b:Int)(h:H):Ev T 114 [aB a,aB b] h (λv h'=>v= aB (xE a b)/\Fr h h'):=by
 refine bN oA rfl rfl ?_;simp(disch:=omega)only[go_sem,oA,aE];refine (yY a h).mono ?_;rintro _ h1 ⟨rfl,rfl⟩;simp(disch:=omega)only[go_sem];refine (yY b h1).mono ?_;rintro _ h2 ⟨rfl,rfl⟩;simp(disch:=omega)only[go_sem];unfold xE
 by_cases h1:a<b
 ·have d1:decide (a<b)=true:=decide_eq_true h1
  simp(disch:=omega)only[go_sem,d1,if_pos h1];exact Fr.refl _
 ·have d1:decide (a<b)=false:=decide_eq_false h1
  by_cases h3:b<a
  ·have d2:decide (b<a)=true:=decide_eq_true h3
   simp(disch:=omega)only[go_sem,d1,d2,if_neg h1,if_pos h3];exact Fr.refl _
  ·have d2:decide (b<a)=false:=decide_eq_false h3
   simp(disch:=omega)only[go_sem,d1,d2,if_neg h1,if_neg h3];exact Fr.refl _
def GO:List Int->Int
 | []=>0
 |x::r=>if x=0 then GO r else x
theorem OK {l:List Int}{i:Nat}(hi:i<l.length)(h:l.getD i 0=0):GO (l.drop i)=GO (l.drop (i+1)):=by
 rw[List.drop_eq_getElem_cons hi];show (if l[i]=0 then _ else _)=_;rw[if_pos (by rw[List.getD,iD hi] at h;exact h)]
theorem TO {l:List Int}{i:Nat}(hi:i<l.length)(h:l.getD i 0≠0):GO (l.drop i)=l.getD i 0:=by
 rw[List.drop_eq_getElem_cons hi];show (if l[i]=0 then _ else l[i])=_;have e:l.getD i 0=l[i]:=by rw[List.getD,iD hi];rfl
 rw[if_neg (by rw[←e];exact h),e]
theorem abU (u:V)(l:List Int)(h:H)(hl:l.length<1000000)(hu:SI h u l):Ev T 93 [u] h (λv h'=>v= aB (GO l)/\Fr h h'):=by
 refine bN wH rfl rfl ?_;have lu:=hu.lens;obtain⟨id,off,sh,hid,hc⟩:=hu.open;simp(disch:=omega)only[go_sem,wH,aE,lu];refine aI (λk' vs hh=> ∃(i:Nat),(∃g:Nat->V,vs= [u,aB 0,aB 0,g 3,u,aB (l.length:Int),aB i,g 7,g 8])/\i<=l.length/\GO (l.drop i)=GO l/\Fr h hh/\k'=l.length-i) l.length
   ⟨0,aA rfl,lL _,rfl,Fr.refl h,rfl⟩ ?_
 rintro k' vars h2 ⟨i,⟨g,rfl⟩,hi,ho,f,rfl⟩
 by_cases hlt:(i:Int)<(l.length:Int)
 ·have d4:=mL hlt
  have hi':i<l.length:=by omega
  have ci:h2.cell id (off+i)=some (aB (l.getD i 0)):=by rw[f.cell (hid (by omega)),hc i hi']
  generalize hx:l.getD i 0=x at ci;simp(disch:=omega)only[go_sem,d4,sh.ixa,ci]
  by_cases hz:x=0
  ·have d5:decide (x≠0)=false:=decide_eq_false (by simpa using hz)
   simp(disch:=omega)only[go_sem,d5];rw[jJ i];exact⟨l.length-(i+1),by omega,i+1,aA rfl,by omega,by rw[←OK hi' (hx.trans hz)];exact ho,f.bJ (by omega),rfl⟩
  ·have d5:decide (x≠0)=true:=decide_eq_true hz
   simp(disch:=omega)only[go_sem,d5];exact⟨by rw[←ho,TO hi' (by rw[hx];exact hz),hx],f.bJ (by omega)⟩
 have d4:=iZ hlt;obtain rfl:i=l.length:=by omega
 simp(disch:=omega)only[go_sem,d4];rw[List.drop_length] at ho;exact⟨by rw[←ho];rfl,f⟩
structure KE where
 rep:V
 ord:Nat
 size:Nat
 ranks:V
 fst:Nat
 hrep:rep.cells= [rep]/\rep.one=true/\eH rep rep=true
 hranks:ranks.cells= [ranks]/\ranks.one=true/\eH ranks ranks=true
instance:Inhabited KE:=⟨⟨.aC,0,0,.aC,0,⟨rfl,rfl,rfl⟩,⟨rfl,rfl,rfl⟩⟩⟩
def KE.enc (a:KE):List V:= [a.rep,aB (a.ord:Int),aB (a.size:Int),a.ranks]
def KE.cmp (a b:KE):Int:=GO [xE a.ord b.ord,xE a.size b.size,xE a.fst b.fst]
def KE.lt (a b:KE):Bool:=decide (a.cmp b<0)
theorem Bh (a:KE)(h:H):Gd h (.agg a.enc)=some (.ptr h.next 0,h.new (.cells false a.enc)):=vD h _ (by simp [KE.enc,a.hrep.2.1,a.hranks.2.1,show (aB (a.ord:Int)).one=true from rfl,show (aB (a.size:Int)).one=true from rfl])
theorem CZ (a b:KE)(h:H):Ev T 90 [.agg a.enc,.agg b.enc] h (λv h'=>v= aB (xE a.ord b.ord)/\Fr h h'):=by
 refine bN kH rfl rfl ?_;obtain⟨A,hA⟩:=exI h.next;obtain⟨h1,e1,n1,g1,o1,f1⟩:=iX hA a.enc;obtain⟨h2,e2,n2,g2,o2,f2⟩:=iX n1 b.enc;have gA:h2.get A=some (.cells false a.enc):=by rw[o2 _ (by omega)];exact g1
 have cA:h2.cell A 1=some (aB (a.ord:Int)):=by rw[H.aF gA];rfl
 have cB:h2.cell (A+1) 1=some (aB (b.ord:Int)):=by rw[H.aF g2];rfl
 simp(disch:=omega)only[go_sem,kH,aE,Bh,hA,e1,n1,e2,cA,cB];refine (Am _ _ h2).mono ?_;rintro _ h3 ⟨rfl,f3⟩;simp(disch:=omega)only[go_sem];exact (f1.trans f2).trans f3
theorem PA (a b:KE)(h:H):Ev T 91 [.agg a.enc,.agg b.enc] h (λv h'=>v= aB (xE a.size b.size)/\Fr h h'):=by
 refine bN kX rfl rfl ?_;obtain⟨A,hA⟩:=exI h.next;obtain⟨h1,e1,n1,g1,o1,f1⟩:=iX hA a.enc;obtain⟨h2,e2,n2,g2,o2,f2⟩:=iX n1 b.enc;have gA:h2.get A=some (.cells false a.enc):=by rw[o2 _ (by omega)];exact g1
 have cA:h2.cell A 2=some (aB (a.size:Int)):=by rw[H.aF gA];rfl
 have cB:h2.cell (A+1) 2=some (aB (b.size:Int)):=by rw[H.aF g2];rfl
 simp(disch:=omega)only[go_sem,kX,aE,Bh,hA,e1,n1,e2,cA,cB];refine (Am _ _ h2).mono ?_;rintro _ h3 ⟨rfl,f3⟩;simp(disch:=omega)only[go_sem];exact (f1.trans f2).trans f3
def KE.At (h:H)(a:KE):Prop:= ∃id off n cap,a.ranks= .sl id off (n+1) cap/\id<h.next/\h.cell id off=some (aB (a.fst:Int))
theorem EB (a b:KE)(h:H)(ha:a.At h)(hb:b.At h):Ev T 92 [.agg a.enc,.agg b.enc] h (λv h'=>v= aB (xE a.fst b.fst)/\Fr h h'):=by
 refine bN kL rfl rfl ?_;obtain⟨A,hA⟩:=exI h.next;obtain⟨h1,e1,n1,g1,o1,f1⟩:=iX hA a.enc;obtain⟨h2,e2,n2,g2,o2,f2⟩:=iX n1 b.enc;obtain⟨ia,oa,na,ca,ea,la,ga⟩:=ha;obtain⟨ib,ob,nb,cb,eb,lb,gb⟩:=hb;have F2:=f1.trans f2;have gA:h2.get A=some (.cells false a.enc):=by rw[o2 _ (by omega)];exact g1
 have cA:h2.cell A 3=some a.ranks:=by rw[H.aF gA];rfl
 have cB:h2.cell (A+1) 3=some b.ranks:=by rw[H.aF g2];rfl
 rw[ea] at cA;rw[eb] at cB;have ra:h2.cell ia oa=some (aB (a.fst:Int)):=by rw[F2.cell la];exact ga
 have rb:h2.cell ib ob=some (aB (b.fst:Int)):=by rw[F2.cell lb];exact gb
 simp(disch:=omega)only[go_sem,kL,aE,Bh,hA,e1,n1,e2,cA,cB,ra,rb];refine (Am _ _ _).mono ?_;rintro _ h3 ⟨rfl,f3⟩;have F3:Fr h2 h3:=((Fr.refl h2).bJ (by omega)).trans f3;have ha:=F2.next;have cA3:h3.cell A 3=some (.sl ia oa (na+1) ca):=by rw[F3.cell (by omega)];exact cA
 have cB3:h3.cell (A+1) 3=some (.sl ib ob (nb+1) cb):=by rw[F3.cell (by omega)];exact cB
 have ra3:h3.cell ia oa=some (aB (a.fst:Int)):=by rw[F3.cell (by omega)];exact ra
 have rb3:h3.cell ib ob=some (aB (b.fst:Int)):=by rw[F3.cell (by omega)];exact rb
 simp(disch:=omega)only[go_sem,cA3,cB3,ra3,rb3];exact F2.trans F3
theorem yS {h:H}{A:Nat}{ro:Bool}{a:KE}(hg:h.get A=some (.cells ro a.enc)):h.row A 0 4=some a.enc:=by
 simp [H.row,hg,sub,KE.enc]
theorem Em (a:KE):eH (.agg a.enc) (.agg a.enc)=true:=by
 show sS a.enc a.enc=true;simp [KE.enc,sS,eH,a.hrep.2.2,a.hranks.2.2]
theorem KE.At.fr {a:KE}{h h':H}(x:a.At h)(f:Fr h h'):a.At h':=by
 obtain⟨ia,oa,na,ca,ea,la,ga⟩:=x;exact⟨ia,oa,na,ca,ea,kO la f.next,by rw[f.cell la];exact ga⟩
theorem Yg (h:H)(x y z:Int):tC h 1 [aB 0] 3 [(0,1,aB x),(1,1,aB y),(2,1,aB z)]=some (.sl h.next 0 3 (.kn 3),h.new (.cells false (ints [x,y,z]))):=rfl
theorem VG (a b:KE)(h:H)(ha:a.At h)(hb:b.At h):Ev T 89 [.agg a.enc,.agg b.enc] h (λv h'=>v= aB (a.cmp b)/\Fr h h'):=by
 refine bN rX rfl rfl ?_;obtain⟨A,hA⟩:=exI h.next;obtain⟨h1,e1,n1,g1,o1,f1⟩:=iX hA a.enc;obtain⟨h2,e2,n2,g2,o2,f2⟩:=iX n1 b.enc;have F2:=f1.trans f2;have gA:h2.get A=some (.cells false a.enc):=by rw[o2 _ (by omega)];exact g1
 simp(disch:=omega)only[go_sem,rX,aE,Bh,hA,e1,n1,e2,yS gA,yS g2,Em,H.Sq];have hn:=F2.next;refine (CZ a b _).mono ?_;rintro _ h3 ⟨rfl,f3⟩;have F3:Fr h2 h3:=((Fr.refl h2).bJ (by omega)).trans f3;have gB3:h3.get (A+1)=some (.cells false b.enc):=by rw[F3.get _ (by omega)];exact g2
 simp(disch:=omega)only[go_sem,yS gB3,Em];refine (PA a b _).mono ?_;rintro _ h4 ⟨rfl,f4⟩;have F4:=F3.trans f4;have gB4:h4.get (A+1)=some (.cells false b.enc):=by rw[F4.get _ (by omega)];exact g2
 simp(disch:=omega)only[go_sem,yS gB4,Em];refine (EB a b _ (ha.fr (F2.trans F4)) (hb.fr (F2.trans F4))).mono ?_;rintro _ h5 ⟨rfl,f5⟩;have F5:=F4.trans f5;have gB5:h5.get (A+1)=some (.cells false b.enc):=by rw[F5.get _ (by omega)];exact g2
 simp(disch:=omega)only[go_sem,yS gB5,Em];obtain⟨I,hI⟩:=exI (h2.next+9+9);have n5:=f5.next;have n4:=f4.next;have n3:h2.next+9+12<=h3.next:=f3.next;simp(disch:=omega)only[go_sem,hI,Yg]
 obtain⟨h6,h6e⟩: ∃h6:H,h6=H.mk ((H.mk h5.tr I).new (Ob.cells false (ints [xE a.ord b.ord,xE a.size b.size,xE a.fst b.fst]))).tr h5.next:=⟨_,rfl⟩
 rw[←h6e];have g6:h6.get I=cG (ints [xE a.ord b.ord,xE a.size b.size,xE a.fst b.fst]):=by rw[h6e];exact H.aM (H.mk h5.tr I) _
 have n6:h6.next=h5.next:=by rw[h6e]
 have o6: ∀k,k≠I->h6.get k=h5.get k:=λk hk=>by rw[h6e];exact H.bD (H.mk h5.tr I) (by simpa using hk) _
 have F6:Fr h2 h6:=⟨by have:=F5.next;omega,λk hk=>by rw[o6 k (by omega)];exact F5.get k hk⟩
 refine (abU _ [xE a.ord b.ord,xE a.size b.size,xE a.fst b.fst] h6 (by simp) (SV.all (by simp [aN]) (by omega) g6 _)).mono ?_;rintro _ h7 ⟨rfl,f7⟩;have F7:=F6.trans f7;have gB7:h7.get (A+1)=some (.cells false b.enc):=by rw[F7.get _ (by omega)];exact g2
 simp(disch:=omega)only[go_sem,yS gB7,Em];exact⟨rfl,F2.trans F7⟩
theorem KE.lt_iff (a b:KE):a.lt b=true↔a.ord<b.ord∨a.ord=b.ord/\(a.size<b.size∨a.size=b.size/\a.fst<b.fst):=by
 unfold KE.lt KE.cmp GO GO GO GO xE;rw[decide_eq_true_eq]
 repeat' split
 all_goals omega
theorem ZV:SWO KE.lt where
 irrefl x:=by rw[←Bool.not_eq_true,KE.lt_iff];omega
 trans x y z h1 h2:=by rw[KE.lt_iff] at*;omega
 ntrans x y z h1 h2:=by rw[←Bool.not_eq_true,KE.lt_iff] at*;omega
def KE.Pp (hB:H)(b0 S:Nat)(a:KE):Prop:= ∃id off n cap,a.ranks= .sl id off (n+1) cap/\id<b0/\id≠S/\hB.cell id off=some (aB (a.fst:Int))
def Bb (hB:H)(b0 S:Nat)(h:H):Prop:=b0<=h.next/\ ∀q,q<b0->q≠S->h.get q=hB.get q
theorem KE.Pp.at {hB h:H}{b0 S:Nat}{a:KE}(p:a.Pp hB b0 S)(b:Bb hB b0 S h):a.At h:=by
 obtain⟨id,off,n,cap,e,h1,h2,h3⟩:=p;refine⟨id,off,n,cap,e,kO h1 b.1,?_⟩;rw[←h3];unfold H.cell;rw[b.2 id h1 h2]
@[reducible] def abF (hB:H)(b0 S:Nat):bL KE where
 lt:=KE.lt
 enc:=KE.enc
 P:=KE.Pp hB b0 S
 B:=Bb hB b0 S
 f:=89
 b0:=b0
 S:=S
 swo:=ZV
 len _:=rfl
 one a:=by simp [KE.enc,a.hrep.2.1,a.hranks.2.1,show (aB (a.ord:Int)).one=true from rfl,show (aB (a.size:Int)).one=true from rfl]
 eqv:=Em
 cmp h a b hb pa pb:=(VG a b h (pa.at hb) (pb.at hb)).mono λv h' ⟨e,f⟩=>⟨_,e,rfl,f⟩
 bfr h h' b f:=⟨Nat.le_trans b.1 f.next,λq h1 h2=>by rw[f.get q (kO h1 b.1)];exact b.2 q h1 h2⟩
 bS h h' b f:=⟨Nat.le_trans b.1 f.next,λq h1 h2=>by rw[f.get q (kO h1 b.1) h2];exact b.2 q h1 h2⟩
 bR h h' R b hR f:=⟨Nat.le_trans b.1 f.next,λq h1 h2=>by rw[f.get q (kO h1 b.1) (λe=>by have:q=R:=e;omega)];exact b.2 q h1 h2⟩
 bn h b:=b.1
theorem Hd {l:List KE}{N:Nat}(hl:l.length=N){e:Array KE}(hp:PermIn 0 N l.toArray e)(hs:SortedIn KE.lt 0 N e):e.toList.Perm l/\e.toList.Pairwise (λa b=>KE.lt b a=false):=by
 obtain⟨p1,p2,p3⟩:=hp;have hsz:e.size=N:=by rw[p1];simpa using hl
 refine⟨?_,?_⟩
 ·have a1:(e.extract 0 N).toList=e.toList:=by rw[←hsz];simp
  have a2:(l.toArray.extract 0 N).toList=l:=by rw[←hl];simp
  rwa [a1,a2] at p3
 ·rw[List.pairwise_iff_getElem]
  intro i j hi hj hij;have hj':j<N:=by simpa [hsz] using hj
  have:=hs i j (lL _) hij hj';have e1:e[i]! =e.toList[i]:=by simp at hi;simp [hi]
  have e2:e[j]! =e.toList[j]:=by simp at hj;simp [hj]
  rw[e1,e2] at this;exact this
def oI (l:List KE):List V:=l.flatMap KE.enc
theorem OL (h:H)(S b0:Nat)(l:List KE)(cp:qF)(hN:l.length<60000)(hg:h.get S=cG (oI l))(hS:S<h.next)(hb:b0<=h.next)(hP: ∀a∈l,a.Pp h b0 S):
  Ev T 88 [.sl S 0 l.length cp,.fn 89 [] []] h (λ_ h'=> ∃l',h'.get S=cG (oI l')/\l'.Perm l/\l'.Pairwise (λa b=>KE.lt b a=false)/\Fx (· =S) h h'):=by
 letI:=abF h b0 S
 have A:dQ h S l.length l.toArray:=⟨hg,by simp,hS,rfl,⟨hb,λ_ _ _=>rfl⟩,λi hi=>by
  have hi':i<l.length:=by simpa using hi
  have:l.toArray[i]! =l[i]:=by simp [hi']
  rw[this]
  exact hP _ (List.getElem_mem hi')⟩
 refine (Sy h S l.length l.toArray cp hN A).mono ?_
 rintro _ h' ⟨e,A2,p,s,F⟩
 obtain⟨q1,q2⟩:=Hd rfl p s
 exact⟨e.toList,A2.get,q1,q2,F⟩
end Go.Proofs.YtapfcpkecmmagaaGreat.Cls
namespace Go.Proofs.YtapfcpkecmmagaaGreat
open Go Go.Ay Go.Pm
set_option maxRecDepth 100000
section
variable {i j p:Nat} {S:LN} {Q:List Nat}
section
variable {n:Nat} {G:List Nat->Prop} {L:LN}
theorem Iu {l:LN}(nd:l.Nodup)(hi:i<l.length)(hj:j<l.length)(e:l.getD i []=l.getD j []):i=j:=by
 have ei:l.getD i []=l[i]:=by rw[List.getD,iD hi];rfl
 have ej:l.getD j []=l[j]:=by rw[List.getD,iD hj];rfl
 rw[ei,ej] at e;have h:=List.pairwise_iff_getElem.1 nd;rcases Nat.lt_trichotomy i j with h1|h1|h1
 ·exact absurd e (h i j hi hj h1)
 ·exact h1
 ·exact absurd e.symm (h j i hj hi h1)
def cR (G:List Nat->Prop)(L:LN)(i j:Nat):Prop:=cj G (L.getD i []) (L.getD j [])
open Classical in
noncomputable def iN (G:List Nat->Prop)(L:LN)(i:Nat):List Nat:=(List.range L.length).filter λj=>decide (cR G L i j)
theorem mK:j∈iN G L i↔j<L.length/\cR G L i j:=by
 classical
 unfold iN;rw[MZ,Kw,decide_eq_true_iff]
theorem Sb (i:Nat):(iN G L i).Pairwise (· < ·):=by
 classical
 unfold iN;exact List.Pairwise.filter _ List.pairwise_lt_range
theorem Iv (i:Nat):(iN G L i).Nodup:=by
 classical
 unfold iN;exact List.Pairwise.filter _ List.nodup_range
def AW (G:List Nat->Prop)(L:LN)(i:Nat):Prop:= ∀j,j<i-> ¬cR G L j i
open Classical in
noncomputable def jK (G:List Nat->Prop)(L:LN)(k:Nat):List Nat:=(List.range k).filter λj=>decide (AW G L j)
theorem Ie (k:Nat):(AW G L k->jK G L (k+1)=jK G L k++ [k])/\(¬AW G L k->jK G L (k+1)=jK G L k):=by
 classical
 unfold jK;rw[List.range_succ,List.filter_append];refine⟨λh=>?_,λh=>?_⟩
 ·rw[List.filter_cons_of_pos (by simpa using h)];rfl
 ·rw[List.filter_cons_of_neg (by simpa using h),List.filter_nil,List.append_nil]
theorem oT {k:Nat}:i∈jK G L k↔i<k/\AW G L i:=by
 classical
 unfold jK;rw[MZ,Kw,decide_eq_true_iff]
variable (hG:sZ n G) (E:fL G L)
include hG E
omit hG in
theorem vN (hi:i<L.length):G (L.getD i []):=(E.mem _).1 (bB hi)
theorem kP (hi:i<L.length):bF n (L.getD i []):=hG.dY (vN E hi)
theorem Gu (hi:i<L.length):cR G L i i:=SU hG (kP hG E hi)
theorem Cv (hi:i<L.length)(h:cR G L i j):cR G L j i:=QF hG (kP hG E hi) h
theorem qE {k:Nat}(hi:i<L.length)(h:cR G L i j)(h2:cR G L j k):cR G L i k:=NX hG (kP hG E hi) h h2
theorem aaL (hi:i<L.length): ∃r,r<=i/\AW G L r/\cR G L r i:=by
 induction i using Nat.strongRecOn with
 |_ i ih=>
  by_cases h:AW G L i
  ·exact⟨i,iP _,h,Gu hG E hi⟩
  ·obtain⟨j,hj,hc⟩: ∃j,j<i/\cR G L j i:=Kt λhn=>h λj hj hc=>hn ⟨j,hj,hc⟩
   obtain⟨r,h1,h2,h3⟩:=ih j hj (by omega);exact⟨r,by omega,h2,qE hG E (by omega) h3 hc⟩
theorem GX {r s:Nat}(hr:r<L.length)(hs:s<L.length)(h1:AW G L r)(h2:AW G L s)(c1:cR G L r i)(c2:cR G L s i):r=s:=by
 have a1:=qE hG E hr c1 (Cv hG E hs c2);have a2:=qE hG E hs c2 (Cv hG E hr c1);rcases Nat.lt_trichotomy r s with h|h|h
 ·exact absurd a1 (h2 r h)
 ·exact h
 ·exact absurd a2 (h1 s h)
omit hG E in
structure BQ (G:List Nat->Prop)(L S:LN)(i:Nat)(Q:List Nat)(p:Nat):Prop where
 nd:Q.Nodup
 ne:0<Q.length
 hd:Q.getD 0 0=i
 mem: ∀j∈Q,j<L.length/\cR G L i j
 cl: ∀k,k<p-> ∀s∈S,∃j∈Q,L.getD j []=iM (L.getD (Q.getD k 0) []) s
omit hG E in
theorem BQ.len (b:BQ G L S i Q p):Q.length<=L.length:=by
 have h:Q ⊆ List.range L.length:=λj hj=>Kw.2 (b.mem j hj).1
 have:=List.Nodup.length_le_of_subset b.nd h;rwa [List.length_range] at this
theorem BQ.done (b:BQ G L S i Q p)(hp:Q.length<=p)(hi:i<L.length)(hS: ∀s∈S,G s)(hgen: ∀x,G x->dS n (λg=>g∈S) x)(j:Nat):j∈Q↔j<L.length/\cR G L i j:=by
 refine⟨b.mem j,λ⟨hj,hc⟩=>?_⟩
 have key: ∃k∈Q,L.getD k []=L.getD j []:=by
  refine aaR (S:=λg=>g∈S) (λg hg=>hG.dY (hS g hg)) hgen (P:=λy=> ∃k∈Q,L.getD k []=y) (kP hG E hi) ⟨i,by rw[←b.hd];exact bB b.ne,rfl⟩ ?_ hc;rintro y g Y ⟨k,hk,rfl⟩ hg;obtain⟨t,ht,et⟩:=Ge.1 hk;obtain⟨j2,h1,h2⟩:=b.cl t (by omega) g hg;have e:Q.getD t 0=k:=by rw[Pm.cT ht,et]
  rw[e] at h2;exact⟨j2,h1,h2⟩
 obtain⟨k,hk,e⟩:=key;have hkl:=(b.mem k hk).1;rw[←Iu E.nodup hkl hj e];exact hk
theorem BQ.sort (b:BQ G L S i Q p)(hp:Q.length<=p)(hi:i<L.length)(hS: ∀s∈S,G s)(hgen: ∀x,G x->dS n (λg=>g∈S) x){l':List Int}(h1:l'.Perm (zi Q))(h2:l'.Pairwise (· <= ·)):l'=zi (iN G L i):=by
 refine Rs (h1.trans ?_) h2 ?_
 ·refine List.Perm.map _ ((List.perm_ext_iff_of_nodup b.nd (Iv i)).2 λj=>?_)
  rw[b.done hG E hp hi hS hgen j,mK]
 ·unfold zi
  rw[List.pairwise_map];exact (Sb i).imp λh=>by omega
theorem Lj (hi:i<L.length)(hr:AW G L i):0<(iN G L i).length/\(iN G L i).getD 0 0=i:=by
 have hm:i∈iN G L i:=mK.2 ⟨hi,Gu hG E hi⟩;have hl:=List.length_pos_of_mem hm;refine⟨hl,?_⟩;have h0:=mK.1 (bB (d:=0) hl);obtain⟨k,hk,ek⟩:=Ge.1 hm;have asc:=List.pairwise_iff_getElem.1 (Sb (G:=G) (L:=L) i);rw[Pm.cT hl] at*
 by_cases hk0:k=0
 ·subst hk0;exact ek
 ·have h1:=asc 0 k hl hk (by omega)
  exact absurd (Cv hG E hi h0.2) (hr _ (by omega))
end
end
end Go.Proofs.YtapfcpkecmmagaaGreat
namespace Go.Ay
open Go
def Yr (o:Option Ob)(h:H)(id:Nat)(s:wK)(k y:V):Option (V×H):=match o with
 |some (.wmap sh es)=>if s=sh/\isKey s k=true then
   some (V.undef,h.set id (some (.wmap sh (match fP k es with
    |some e=>es.set e.1 (k,y)
    |none=>es++ [(k,y)]))))
  else none
 |_=>none
def XT (s:wK)(h:H)(x k y:V):Option (V×H):=match x with
 | .mp id=>Yr (h.get id) h id s k y
 |_=>none
theorem QU (ρ:X->V)(h:H)(s:wK)(x k y:X):cU ρ h (.msw s x k y)=XT s h (ρ x) (ρ k) (ρ y):=by
 simp only[cU,XT,Yr];cases ρ x<;>try rfl
theorem VC (s:wK)(h:H)(id:Nat)(k y:V):XT s h (.mp id) k y=Yr (h.get id) h id s k y:=rfl
def Kv (o:Option Ob)(s:wK)(zero:V)(ok:Bool)(k:V):Option V:=match o with
 |some (.wmap sh es)=>if s=sh/\isKey s k=true then
   match fP k es with
   |some e=>some (if ok then .tup [e.2,.bool true] else e.2)
   |none=>some (if ok then .tup [zero,.bool false] else zero)
  else none
 |_=>none
def XS (s:wK)(zero:V)(ok:Bool)(h:H)(x k:V):Option V:=match x with
 | .mp id=>Kv (h.get id) s zero ok k
 |_=>none
theorem Pd (ρ:X->V)(h:H)(s:wK)(zero:V)(ok:Bool)(x k:X):cU ρ h (.lkw s zero ok x k)=(XS s zero ok h (ρ x) (ρ k)).map (·,h):=by
 simp only[cU,XS,Kv];cases ρ x<;>try rfl
 rename_i id;simp only
 cases hg:h.get id with
 |none=>rfl
 |some o=>
  cases o<;>try rfl
  rename_i sh es;simp only
  by_cases hc:s=sh/\isKey s (ρ k)=true
  ·rw[if_pos hc,if_pos hc]
   cases fP (ρ k) es<;>rfl
  ·rw[if_neg hc,if_neg hc];rfl
theorem Qc (s:wK)(zero:V)(ok:Bool)(h:H)(id:Nat)(k:V):XS s zero ok h (.mp id) k=Kv (h.get id) s zero ok k:=rfl
attribute [go_sem] QU VC Pd Qc
end Go.Ay
namespace Go.Proofs.YtapfcpkecmmagaaGreat
open Go Go.Ay Go.Pm
set_option maxRecDepth 100000
def Re (L:LN)(k:Nat):List (V×V):=(List.range k).map λi=>(V.str (L.getD i []),aB i)
theorem Ea (k:V): ∀(a b:List (V×V)),fP k a=none->fP k (a++b)=(fP k b).map λq=>(q.1+a.length,q.2)
 | [],b,_=>by
  cases h:fP k b<;>simp [h]
 |e::a,b,h=>by
  show (if eH k e.1 then some (0,e.2) else (fP k (a++b)).map λq=>(q.1+1,q.2))=_;have h':(if eH k e.1 then some (0,e.2) else (fP k a).map λq=>(q.1+1,q.2))=none:=h;split at h'
  ·cases h'
  ·rename_i hn
   rw[if_neg hn,Ea k a b (by cases h2:fP k a with|none=>rfl|some x=>rw[h2] at h';cases h'),Option.map_map]
   rfl
theorem Hv (L:LN)(k:Nat):Re L (k+1)=Re L k++ [(V.str (L.getD k []),aB k)]:=by
 unfold Re;rw[List.range_succ,List.map_append];rfl
theorem Kd {L:LN}{w:List Nat}: ∀{k:Nat},(∀i,i<k->L.getD i []≠w)->fP (.str w) (Re L k)=none
 |0,_=>rfl
 |k+1,h=>by
  rw[Hv,Ea _ _ _ (Kd λi hi=>h i (by omega))]
  have:(eH (.str w) (.str (L.getD k [])))=false:=by
   have:=h k (by omega);simp only[eH,beq_eq_false_iff_ne,ne_eq];exact λe=>this e.symm
  show Option.map _ (if eH (.str w) (.str (L.getD k [])) then _ else _)=_;rw[if_neg (by rw[this];simp)];rfl
theorem Uk {L:LN}(nd:L.Nodup): ∀{k i:Nat},k<=L.length->i<k->fP (.str (L.getD i [])) (Re L k)=some (i,aB i)
 |0,i,_,h=>by omega
 |k+1,i,hk,h=>by
  rw[Hv]
  by_cases e:i=k
  ·subst e
   rw[Ea _ _ _ (Kd λj hj e=>by have:=Iu nd (by omega) (by omega) e;omega)];show Option.map _ (if eH (.str (L.getD i [])) (.str (L.getD i [])) then some (0,aB i) else _)=_;rw[if_pos (by simp [eH])];simp [Re]
  ·have ih:=Uk nd (k:=k) (by omega) (show i<k by omega)
   have key: ∀(a b:List (V×V)) (x:V) (r:Nat×V),fP x a=some r->fP x (a++b)=some r:=by
    intro a
    induction a with
    |nil=>intro b x r h;cases h
    |cons y a ih2=>
     intro b x r h;show (if eH x y.1 then some (0,y.2) else (fP x (a++b)).map λq=>(q.1+1,q.2))=_;have h':(if eH x y.1 then some (0,y.2) else (fP x a).map λq=>(q.1+1,q.2))=some r:=h
     by_cases hc:eH x y.1=true
     ·rw[if_pos hc] at h' ⊢;exact h'
     ·rw[if_neg hc] at h' ⊢
      cases h2:fP x a with
      |none=>rw[h2] at h';cases h'
      |some r2=>rw[h2] at h';rw[ih2 b x r2 h2];exact h'
   exact key _ _ _ _ ih
theorem Im {w:List Nat}(h1:w.length<=1000)(h2: ∀x∈w,x<256):isKey .str (.str w)=true:=by
 have e:(decide (w.length<2^62)&&w.all λn=>decide (n<256))=true:=by
  rw[Bool.and_eq_true,decide_eq_true_eq,List.all_eq_true];exact⟨by omega,λx hx=>by simpa using h2 x hx⟩
 exact e
theorem LW {L:LN}(nd:L.Nodup){k:Nat}(hk:k<L.length)(hK:isKey .str (.str (L.getD k []))=true)(hh:H)(M:Nat):
  Yr (some (.wmap .str (Re L k))) hh M .str (.str (L.getD k [])) (aB k)=some (.undef,hh.set M (some (.wmap .str (Re L (k+1))))):=by
 have e:fP (.str (L.getD k [])) (Re L k)=none:=Kd λj hj e=>by have:=Iu nd (by omega) hk e;omega
 simp only[Yr]
 rw[if_pos ⟨trivial,hK⟩,e,Hv]
theorem Ua {L:LN}(nd:L.Nodup){i:Nat}(hi:i<L.length)(hK:isKey .str (.str (L.getD i []))=true)(z:V):
  Kv (some (.wmap .str (Re L L.length))) .str z false (.str (L.getD i []))=some (aB i):=by
 simp only[Kv]
 rw[if_pos ⟨trivial,hK⟩,Uk nd (iP _) hi];rfl
end Go.Proofs.YtapfcpkecmmagaaGreat
namespace Go.Proofs.YtapfcpkecmmagaaGreat
open Go Go.Ay Go.Pm
set_option maxRecDepth 100000
section
variable {G:List Nat->Prop} {L:LN} {i j n:Nat} {Q:List Nat} {h:H} {v:V}
theorem CB {vL:V}(hc:vL.cells= [vL])(ho:vL.one=true)(M N m:Nat):tZ [.aC,.nilm,.aC,.aC] [(0,1,vL),(1,1,.mp M),(3,1,.sl N 0 m (.kn m))]=some (.agg [vL,.mp M,.aC,.sl N 0 m (.kn m)]):=by
 simp [tZ,jL,putAt,hc,ho,show (V.mp M).cells= [V.mp M] from rfl,show (V.sl N 0 m (.kn m)).cells= [V.sl N 0 m (.kn m)] from rfl,show (V.mp M).one=true from rfl,show (V.sl N 0 m (.kn m)).one=true from rfl]
theorem BU {vL:V}(ho:vL.one=true)(M N m:Nat)(h:H):Gd h (.agg [vL,.mp M,.aC,.sl N 0 m (.kn m)])=some (.ptr h.next 0,h.new (.cells false [vL,.mp M,.aC,.sl N 0 m (.kn m)])):=vD h _ (by simp [ho,show (V.mp M).one=true from rfl,show (V.sl N 0 m (.kn m)).one=true from rfl,show V.aC.one=true from rfl])
open Classical in
noncomputable def Dg (G:List Nat->Prop)(L:LN)(i:Nat)(Q:List Nat)(j:Nat):Bool:=decide ((∃i0,i0<i/\cR G L i0 j)∨j∈Q)
theorem mO:Dg G L i Q j=true↔(∃i0,i0<i/\cR G L i0 j)∨j∈Q:=by classical unfold Dg;simp only[decide_eq_true_eq]
theorem NY (G:List Nat->Prop)(L:LN)(j:Nat):Dg G L 0 [] j=false:=by
 rw[←Bool.not_eq_true,mO];rintro (⟨i0,h,_⟩|h)
 ·omega
 ·cases h
theorem So {k:Nat}:Dg G L i (Q++ [k]) j=if j=k then true else Dg G L i Q j:=by
 by_cases e:j=k
 ·rw[if_pos e,mO];exact .inr (by simp [e])
 ·rw[if_neg e,Bool.eq_iff_iff,mO,mO]
  simp [e]
theorem Ce {p:Nat->Option Ay.Fn}{rd:Option Nat}{a:C}{k:Nat}{vars:List V}{Q:E->List V->H->Prop}(J:List V->H->Prop)(h1:Wp p rd (.loop a) vars h (λe v h'=>e= .exit k/\J v h'))(h2: ∀v h',J v h'->Q .norm v h'):Wp p rd (.loop a) vars h (tT k Q):=
 h1.mono λe v h' x=>by
  obtain⟨rfl,x⟩:=x;rw[xT];exact h2 v h' x
theorem eZ.ge {sz id off b:Nat}{ws:List V}(o:eZ h v sz ws b)(hn:ws.length=n*sz)(hz:0<sz)(s:Sl v sz n id off)(h0:0<n):b<=id:=by
 have hx:=s.ixa .i64 0 (by omega) (by omega);rcases o.sv with ⟨_,rfl⟩|⟨id',off',len,cap,ro,vs,e,h2,_⟩
 ·have:=Nat.mul_pos h0 hz
  simp at hn;omega
 ·have h3:=(o.in _ _ _ _ e).2.1
  subst e
  have hl:0<len:=by
   have:=Nat.mul_pos h0 hz;refine Nat.pos_of_ne_zero λe0=>?_
   subst e0;simp at h2;rw[h2] at hn;simp at hn;omega
  rw[Bs (by omega) (by omega)] at hx;simp only[Option.some.injEq,V.ptr.injEq] at hx;omega
theorem LD (hG:sZ n G)(E:fL G L)(hi:i<L.length)(hr: ¬AW G L i)(j:Nat):Dg G L i [] j=Dg G L (i+1) [] j:=by
 obtain⟨i0,h0,hc⟩: ∃j,j<i/\cR G L j i:=Kt λhn=>hr λj hj hc=>hn ⟨j,hj,hc⟩
 rw[Bool.eq_iff_iff,mO,mO];constructor
 ·rintro (⟨i1,h1,h2⟩|h)
  ·exact .inl ⟨i1,by omega,h2⟩
  ·cases h
 ·rintro (⟨i1,h1,h2⟩|h)
  ·by_cases e:i1=i
   ·subst e;exact .inl ⟨i0,h0,qE hG E (by omega) hc h2⟩
   ·exact .inl ⟨i1,by omega,h2⟩
  ·cases h
theorem JZ {S:LN}(hG:sZ n G)(E:fL G L)(hi:i<L.length)(b:BQ G L S i Q Q.length)(hS: ∀s∈S,G s)(hgen: ∀x,G x->dS n (λg=>g∈S) x)(hj:j<L.length):Dg G L i Q j=Dg G L (i+1) [] j:=by
 rw[Bool.eq_iff_iff,mO,mO];constructor
 ·rintro (⟨i1,h1,h2⟩|h)
  ·exact .inl ⟨i1,by omega,h2⟩
  ·exact .inl ⟨i,by omega,(b.mem j h).2⟩
 ·rintro (⟨i1,h1,h2⟩|h)
  ·by_cases e:i1=i
   ·subst e;exact .inr ((b.done hG E (iP _) hi hS hgen j).2 ⟨hj,h2⟩)
   ·exact .inl ⟨i1,by omega,h2⟩
  ·cases h
theorem ED (hc:v.cells= [v])(ho:v.one=true)(x y:Int):tZ [.aC,aB 0,aB 0] [(0,1,v),(1,1,aB x),(2,1,aB y)]=some (.agg [v,aB x,aB y]):=by
 simp [tZ,jL,putAt,hc,ho,show ∀z,(aB z).cells= [aB z] from λ_=>rfl,show ∀z,(aB z).one=true from λ_=>rfl]
theorem CU {w:V}(ho:v.one=true)(hc':w.cells= [w])(ho':w.one=true)(x y:Int):tZ [.aC,aB 0,aB 0,.aC] [(0,3,.agg [v,aB x,aB y]),(3,1,w)]=some (.agg [v,aB x,aB y,w]):=by
 simp [tZ,jL,putAt,hc',ho,ho',show ∀l,(V.agg l).cells=l from λ_=>rfl,show ∀z,(aB z).one=true from λ_=>rfl]
theorem DI {w:V}(ho:v.one=true)(ho':w.one=true)(x y:Int)(h:H):tC h 4 [.aC,aB 0,aB 0,.aC] 1 [(0,4,.agg [v,aB x,aB y,w])]=some (.sl h.next 0 1 (.kn 1),h.new (.cells false [v,aB x,aB y,w])):=by
 have e:dW [V.aC,aB 0,aB 0,.aC] 4= [V.aC,aB 0,aB 0,.aC]:=rfl;simp [tC,jL,putAt,e,ho,ho',show ∀l,(V.agg l).cells=l from λ_=>rfl,show ∀z,(aB z).one=true from λ_=>rfl]
theorem rG (k:Nat):(jK G L k).length<=k:=by
 classical
 unfold jK;exact Nat.le_trans (List.length_filter_le _ _) (by rw[List.length_range];exact iP _)
theorem Lk (ks:List Cls.KE):(Cls.oI ks).length=ks.length*4:=by
 induction ks with
 |nil=>rfl
 |cons a r ih=>
  show (a.enc++Cls.oI r).length=_;rw[oF,ih,List.length_cons];show 4+_=_;omega
theorem DF {a b c d:V}(hh:H)(id:Nat)(y:V):fO (some (.cells false [a,b,c,d])) hh id 2 [y]=some (hh.set id (some (.cells false [a,b,y,d]))):=by
 simp [fO,putAt]
theorem aaP {sz:Nat}{ws:List V}(s:SV h v sz ws):CM (λq=>h.next<=q) v:=by
 cases v with
 |sl id off len cap=>exact λh2=>by have:=s.in _ _ _ _ rfl;omega
 |_=>trivial
structure KO (n:Nat)(G:List Nat->Prop)(L:LN)(X:Nat)(W:Nat->Prop)(hh:H)(a:Cls.KE)(r:Nat):Prop where
 fst:a.fst=r
 ord:a.ord=fN (L.getD r []) n
 size:a.size=(iN G L r).length
 rep:PV (λq=>X<=q) hh a.rep (L.getD r [])
 ranks:PV W hh a.ranks (iN G L r)
theorem KO.go {X:Nat}{W W':Nat->Prop}{h':H}{a:Cls.KE}{r:Nat}(k:KO n G L X W h a r)(f:Fx W h h')(hx:X<=h.next)(hW: ∀q,W q->X<=q)(hw: ∀q,q<h.next->W' q->W q):KO n G L X W' h' a r:=
 ⟨k.fst,k.ord,k.size,k.rep.fx ⟨f.next,λq h1 h2=>f.get q h1 λh3=>h2 (hW q h3)⟩,PV.go k.ranks f hw⟩
structure OfJ (n:Nat)(G:List Nat->Prop)(L:LN)(X D:Nat)(vL:V)(h5:H)(i:Nat)(hh:H):Prop where
 ex: ∃vK ks W,hh.get (X+8)=some (.cells false [vL,.mp (X+3),vK,.sl (X+6) 0 L.length (.kn L.length)])/\eZ hh vK 4 (Cls.oI ks) (D+1)/\cF (KO n G L X W hh) ks (jK G L i)/\Ii W vK/\W D/\W (X+8)/\W (X+6)/\(∀q,W q->q<hh.next)/\(∀q,W q->X<=q)/\(ks= []∨ ∃id cap,vK= .sl id 0 ks.length cap/\hh.get id=some (.cells false (Cls.oI ks)))
 gD:hh.get D=some (.cells false (rc L.length λj=> .bool (Dg G L i [] j)))
 old:Fx (λq=>q=X+8∨D<=q) h5 hh
 nx:D<hh.next
def JD (n:Nat):C->Bool
 | .block k _=>k==n
 | .seq _ b=>JD n b
 |_=>false
def Pl (n:Nat):C->C
 | .seq a b=>if JD n a then b else Pl n b
 |c=>c
structure OfE (n:Nat)(G:List Nat->Prop)(L:LN)(X D:Nat)(vL:V)(h h2 h5 h7:H):Prop where
 el:fL G L
 le:L.length<=5040
 f2:Fr h h2
 x2:h2.next=X
 sp:SP h2 vL L
 f25:Fr h2 h5
 xD:X+10<=D
 n5:h5.next=D
 gM:h5.get (X+3)=some (.wmap .str (Re L L.length))
 gN:h5.get (X+6)=some (.cells false (rc L.length λ_=> aB 0))
 j:OfJ n G L X D vL h5 L.length h7
theorem VJ {W0:Nat->Prop}(vc:V)(n:Nat)(O:LN)(R:pF)(G:List Nat->Prop)(h:H)(gc:GC W0 h vc n O R G)(P:V->H->Prop)
  (hk: ∀L X D vL h2 h5 h7 A (g:Nat->V),dC O R n 0 (bI n)=L->OfE n G L X D vL h h2 h5 h7->Wp T none (Pl 2 kA.body) ([g 0,.ptr A 0,.nilp,aB 0,vL,g 5,.ptr (X+8) 0,g 7,g 8,g 9,g 10,g 11,g 12,g 13,g 14,g 15,g 16,g 17,g 18,g 19,g 20,g 21,g 22,g 23,g 24,g 25,g 26,g 27,g 28,g 29,g 30,g 31,g 32,g 33,g 34,g 35,g 36,g 37,g 38,g 39,g 40,g 41,g 42,g 43,g 44,g 45]) h7 (MD kA.results P)):
  Ev T 56 [vc] h P:=by
 obtain⟨vO,vR,e,sO,sR⟩:=gc.ch
 subst e
 refine bN kA rfl rfl ?_
 have oneO:vO.one=true:=PS sO
 have oneR:vR.one=true:=PO sR
 obtain⟨A,hA⟩:=exI h.next
 obtain⟨h1,e1,n1,g1,o1,f1⟩:=iX hA [aB n,vO,vR]
 have bx:=fG h (v:= aB n) (u:=vO) (w:=vR) rfl oneO oneR
 have rB:=bZ g1
 obtain⟨L,hL⟩:=exI (dC O R n 0 (bI n))
 obtain⟨E,ll⟩:=iT gc.nC gc.isc
 have ll5:=mN gc
 rw[hL] at E ll
 have hG:=gc.nC
 have n7:=gc.n7
 have n0:=gc.n0
 simp(disch:=omega)only[go_sem,kA,aE,bx,hA,e1,rB]
 refine (Zr _ n O R G h1 (gc.mono f1)).mono ?_
 rw[hL]
 rintro _ h2 ⟨vL,rfl,nw⟩
 obtain⟨wL,W,owL,pvL,bkL,W1⟩:=nw.ex
 have hwL:=cF.length pvL
 obtain⟨m,hm⟩:=exI L.length
 rw[hm] at hwL
 have lvL:=eZ.lens owL hwL
 have oneL:=owL.sv.eI.2.1
 have f2:=nw.fr
 simp(disch:=omega)only[go_sem,lvL]
 refine aY (λhc=>(hc rfl).elim) (λ_=>?_)
 obtain⟨X,hX⟩:=exI h2.next
 simp(disch:=omega)only[go_sem,lvL,lQ _ m (by omega),hX,CB owL.sv.eI.1 oneL,BU oneL]
 obtain⟨h3,h3e⟩: ∃h3:H,h3=H.mk ((H.mk ((H.mk ((H.mk h2.tr (X+3)).new (Ob.wmap wK.str [])).tr (X+6)).new (Ob.cells false (rc m λ_=>aB 0))).tr (X+8)).new (Ob.cells false [vL,.mp (X+3),.aC,.sl (X+6) 0 m (.kn m)])).tr (X+10):=⟨_,rfl⟩
 rw[←h3e]
 have n3:h3.next=X+10:=by rw[h3e]
 have gB:h3.get (X+8)=some (.cells false [vL,.mp (X+3),.aC,.sl (X+6) 0 m (.kn m)]):=by rw[h3e];exact H.aM (H.mk _ (X+8)) _
 have gN:h3.get (X+6)=some (.cells false (rc m λ_=>aB 0)):=by
  rw[h3e];exact (H.bD (H.mk _ (X+8)) (show X+6≠X+8 by omega) _).trans (H.aM (H.mk _ (X+6)) _)
 have gM:h3.get (X+3)=some (.wmap .str (Re L 0)):=by
  rw[h3e];exact (H.bD (H.mk _ (X+8)) (show X+3≠X+8 by omega) _).trans ((H.bD (H.mk _ (X+6)) (show X+3≠X+6 by omega) _).trans (H.aM (H.mk _ (X+3)) _))
 have f3:Fr h2 h3:=⟨by omega,λq hq=>by
  rw[h3e]
  exact (H.bD (H.mk _ (X+8)) (show q≠X+8 by omega) _).trans ((H.bD (H.mk _ (X+6)) (show q≠X+6 by omega) _).trans (H.bD (H.mk _ (X+3)) (show q≠X+3 by omega) _))⟩
 clear h3e
 have lt64: ∀i,i<m->(L.getD i []).length<=1000/\ ∀x∈L.getD i [],x<256:=λi hi=>by
  have P:=kP hG E (show i<L.length by omega);exact⟨by rw[P.len];omega,λx hx=>by have:=P.lt x hx;omega⟩
 obtain⟨idL,offL,shL,hidL,hcL⟩:=SV.shape owL.sv m (by omega) (by omega)
 have hLa: ∀i,i<m-> ∃vx,(∀h',Fr h2 h'->h'.cell idL (offL+i)=some vx)/\SI h2 vx (zi (L.getD i [])):=λi hi=>by
  obtain⟨v,h1,h2'⟩:=jN.at pvL (i:=i) (by omega);exact⟨v,λh' f=>by rw[f.cell (hidL (by omega)),hcL i (by omega),h1],h2'.si⟩
 have hK: ∀i,i<m->isKey .str (.str (L.getD i []))=true:=λi hi=>Im (lt64 i hi).1 (lt64 i hi).2
 refine cI (λvs hh=>(∃g:Nat->V,vs= [g 0,.ptr A 0,.nilp,aB 0,vL,g 5,.ptr (X+8) 0,g 7,g 8,g 9,g 10,g 11,g 12,g 13,g 14,g 15,g 16,g 17,g 18,g 19,g 20,g 21,g 22,g 23,g 24,g 25,g 26,g 27,g 28,g 29,g 30,g 31,g 32,g 33,g 34,g 35,g 36,g 37,g 38,g 39,g 40,g 41,g 42,g 43,g 44,g 45])/\hh.get (X+3)=some (.wmap .str (Re L m))/\Fx (· =X+3) h3 hh) ?_ ?_
 ·refine aI (λk' vs hh=> ∃(i:Nat),(∃g:Nat->V,vs= [g 0,.ptr A 0,.nilp,aB 0,vL,g 5,.ptr (X+8) 0,g 7,g 8,g 9,g 10,g 11,g 12,g 13,g 14,g 15,g 16,g 17,g 18,g 19,g 20,g 21,g 22,vL,aB m,aB i,g 26,g 27,g 28,g 29,g 30,g 31,g 32,g 33,g 34,g 35,g 36,g 37,g 38,g 39,g 40,g 41,g 42,g 43,g 44,g 45])/\i<=m/\hh.get (X+3)=some (.wmap .str (Re L i))/\Fx (· =X+3) h3 hh/\k'=m-i) m
   ⟨0,aA rfl,lL _,gM,Fx.refl _ h3,rfl⟩ ?_
  rintro k' vars h4 ⟨i,⟨g,rfl⟩,hi,gM4,F4,rfl⟩
  by_cases hlt:(i:Int)<(m:Int)
  case neg=>
   have d4:=iZ hlt;obtain rfl:i=m:=by omega
   simp(disch:=omega)only[go_sem,d4];exact⟨aA rfl,gM4,F4⟩
  have d4:=mL hlt
  have hi':i<m:=by omega
  have f24:Fr h2 h4:=⟨by have:=F4.next;omega,λq hq=>by rw[F4.get q (by omega) (by omega)];exact f3.get q hq⟩
  have gB4:h4.get (X+8)=some (.cells false [vL,.mp (X+3),.aC,.sl (X+6) 0 m (.kn m)]):=by rw[F4.get _ (by omega) (by omega)];exact gB
  obtain⟨vx,cx,sx⟩:=hLa i hi'
  have cB2:h4.cell (X+8) 1=some (.mp (X+3)):=by rw[H.aF gB4];rfl
  simp(disch:=omega)only[go_sem,d4,shL.ixa,cx h4 f24,cB2]
  refine (Pf vx (L.getD i []) _ (lt64 i hi').1 (lt64 i hi').2 (sx.mono (f24.trans ((Fr.refl h4).bJ (by omega))))).mono ?_
  rintro _ h5 ⟨rfl,f5⟩
  have f45:Fr h4 h5:=((Fr.refl h4).bJ (by omega)).trans f5
  have n4:=F4.next
  have gM5:h5.get (X+3)=some (.wmap .str (Re L i)):=by rw[f45.get _ (by omega)];exact gM4
  have cB5:h5.cell (X+8) 1=some (.mp (X+3)):=by rw[f45.cell (by omega)];exact cB2
  have pt:=λhh=>LW E.nodup (show i<L.length by omega) (hK i hi') hh (X+3)
  simp(disch:=omega)only[go_sem,cB5,gM5,pt]
  rw[jJ i]
  refine⟨by simp [eH],m-(i+1),by omega,i+1,aA rfl,by omega,rfl,⟨by have:=f45.next;show h3.next<=h5.next;omega,λq h1 h2=>by rw[H.aH _ (λe=>h2 e),f45.get q (by omega)];exact F4.get q h1 h2⟩,rfl⟩
 rintro vars h4 ⟨⟨g,rfl⟩,gM4,F4⟩
 have n4:=F4.next
 have f24:Fr h2 h4:=⟨by omega,λq hq=>by rw[F4.get q (by omega) (by omega)];exact f3.get q hq⟩
 have gB4:h4.get (X+8)=some (.cells false [vL,.mp (X+3),.aC,.sl (X+6) 0 m (.kn m)]):=by rw[F4.get _ (by omega) (by omega)];exact gB
 have gN4:h4.get (X+6)=some (.cells false (rc m λ_=>aB 0)):=by rw[F4.get _ (by omega) (by omega)];exact gN
 have f14:=f2.trans f24
 have rA:=bZ (h:=h4) (id:=A) (ro:=false) (by rw[f14.get _ (by omega)];exact g1)
 simp(disch:=omega)only[go_sem,rA]
 refine (BV _ n O R G h4 (gc.mono (f1.trans f14))).mono ?_
 rintro _ h5 ⟨vS,rfl,nS⟩
 have f5:=nS.fr
 obtain⟨D,hD⟩:=exI h5.next
 obtain⟨h6,e6,n6,g6,o6,f6⟩:=iX hD (rc m λ_=>V.bool false)
 simp(disch:=omega)only[go_sem,lvL,FL,hD,e6]
 have f25:=f24.trans f5
 have hX5:=f25.next
 have n5:=f5.next
 obtain⟨wS,WS,owS,pvS,bkS,WS1⟩:=nS.ex
 obtain⟨S,hS⟩:=exI (gH R)
 rw[hS] at pvS
 have hwS:=cF.length pvS
 have hSG: ∀s∈S,G s:=λs hs=>Kp gc.isc (by rw[hS];exact hs)
 have hSgen: ∀x,G x->dS n (λg=>g∈S) x:=λx hx=>by rw[←hS];exact Xn hG gc.isc hx
 obtain⟨sl,hsl⟩:=exI S.length
 have hsl7:sl<=49:=by
  have h1: ∀j,j<R.length->(R.getD j []).length<=n:=λj hj=>by
   have hj':j<n:=by rw[←gc.isc.lr];exact hj
   rw[gc.isc.rl j hj'];have:=yV (λx hx=>hG.dY hx) hj' (gc.isc.asc j hj') (gc.isc.mem j hj');omega
  have h2:=Aw (n:=n) (R:=R) (iP _) h1;rw[List.take_length,hS,hsl,gc.isc.lr] at h2;have:n*n<=7*7:=Nat.mul_le_mul n7 n7;omega
 have lvS:=eZ.lens owS (hwS.trans hsl)
 obtain⟨idS,offS,shS,hidS,hcS⟩:=SV.shape owS.sv sl (by omega) (by omega)
 have geS:=eZ.ge owS (n:=sl) (by omega) (by omega) shS
 have hSa: ∀t,t<sl-> ∃vy,(∀hh,Fx (λq=>q=X+8∨D<=q) h5 hh->hh.cell idS (offS+t)=some vy)/\PV (λq=>q=X+8∨D<=q) h5 vy (S.getD t []):=λt ht=>by
  obtain⟨v,h1,h2'⟩:=jN.at pvS (i:=t) (by omega);have hi:=hidS (by omega);have hge:h4.next<=idS:=geS (by omega);refine⟨v,λhh f=>?_,h2'.tA λid hid hw=>WS1 id ?_⟩
  ·have e:hh.get idS=h5.get idS:=f.get idS hi (by omega)
   unfold H.cell;rw[e];have:=hcS t (by omega);rw[h1] at this;exact this
  ·rcases hw with e|e
   ·omega
   ·omega
 have J0:OfJ n G L X D vL h5 0 h6:=
  ⟨⟨.aC, [],λq=>q=D∨q=X+8∨q=X+6,by rw[f6.get _ (by omega),f5.get _ (by omega),hm];exact gB4,eZ.aC _ _ _,trivial,λ_ _ _ _ e=>(by cases e),.inl rfl,.inr (.inl rfl),.inr (.inr rfl),λq h=>by rcases h with h|h|h<;>omega,λq h=>by rcases h with h|h|h<;>omega,.inl rfl⟩,
   by rw[g6,hm,show (λj=>V.bool (Dg G L 0 [] j))=λ_=>V.bool false from funext λj=>by rw[NY]],Fx.of f6,by omega⟩
 refine cI (λvs hh=>(∃g:Nat->V,vs= [g 0,.ptr A 0,.nilp,aB 0,vL,g 5,.ptr (X+8) 0,g 7,g 8,g 9,g 10,g 11,g 12,g 13,g 14,g 15,g 16,g 17,g 18,g 19,g 20,g 21,g 22,g 23,g 24,g 25,g 26,g 27,g 28,g 29,g 30,g 31,g 32,g 33,g 34,g 35,g 36,g 37,g 38,g 39,g 40,g 41,g 42,g 43,g 44,g 45])/\OfJ n G L X D vL h5 m hh) ?_ ?_
 ·refine aI (λk' vs hh=> ∃(i:Nat),(∃g:Nat->V,vs= [g 0,.ptr A 0,.nilp,aB 0,vL,g 5,.ptr (X+8) 0,g 7,g 8,vS,.sl D 0 m (.kn m),g 11,g 12,g 13,g 14,g 15,g 16,g 17,g 18,g 19,g 20,g 21,g 22,g 23,g 24,g 25,g 26,vL,aB m,aB i,g 30,g 31,g 32,g 33,g 34,g 35,g 36,g 37,g 38,g 39,g 40,g 41,g 42,g 43,g 44,g 45])/\i<=m/\OfJ n G L X D vL h5 i hh/\k'=m-i) m
   ⟨0,aA rfl,lL _,J0,rfl⟩ ?_
  clear J0
  rintro k' vars h7 ⟨i,⟨g,rfl⟩,hi,J,rfl⟩
  by_cases hlt:(i:Int)<(m:Int)
  case neg=>
   have d4:=iZ hlt;obtain rfl:i=m:=by omega
   simp(disch:=omega)only[go_sem,d4];exact⟨aA rfl,J⟩
  have d4:=mL hlt
  have hi':i<m:=by omega
  have nD:=J.nx
  have f27:Fr h2 h7:=⟨by omega,λq hq=>by rw[J.old.get q (by omega) (by omega)];exact f25.get q hq⟩
  obtain⟨vx,cx,sx⟩:=hLa i hi'
  have cD:=wV J.gD (i:=i) (by omega)
  by_cases hr:AW G L i
  case neg=>
   have hsn:Dg G L i [] i=true:=by
    rw[mO];exact .inl (Kt λhn=>hr λj hj hc=>hn ⟨j,hj,hc⟩)
   rw[hsn] at cD;simp(disch:=omega)only[go_sem,d4,shL.ixa,cx h7 f27,cD];rw[jJ i];refine⟨m-(i+1),by omega,i+1,aA rfl,by omega,?_,rfl⟩;refine⟨?_,?_,J.old,J.nx⟩
   ·rw[(Ie i).2 hr];exact J.ex
   ·rw[J.gD,bH λj _=>by rw[LD hG E (show i<L.length by omega) hr j]]
  have hsn:Dg G L i [] i=false:=by
   rw[←Bool.not_eq_true,mO];rintro (⟨j,hj,hc⟩|h)
   ·exact hr j hj hc
   ·cases h
  rw[hsn] at cD
  obtain⟨h8,e8,n8,g8,o8⟩:=Fq h7 D ((rc L.length λj=> .bool (Dg G L i [] j)).set i (.bool true))
  obtain⟨Z,hZ⟩:=exI h8.next
  obtain⟨h9,e9,n9,g9,o9,f9⟩:=iX hZ [aB i]
  have pt:=aZ (vs:=rc L.length λj=> .bool (Dg G L i [] j)) (off:=i) (by rw[dG];omega)
  clear bx gc sO sR rB rA hcL gN4 gB4 g1 o1 f1 f3 gB gN gM
  simp(disch:=omega)only[go_sem,d4,shL.ixa,cx h7 f27,cD,J.gD,pt,e8,dV h8 (z:= aB 0) (v:= aB i) rfl rfl,hZ,e9]
  have hZ7:h7.next=Z:=by omega
  have hc0:(rc L.length λj=>V.bool (Dg G L i [] j)).set i (.bool true)=rc L.length λj=> .bool (Dg G L i [i] j):=by
   rw[iR]
   exact bH λj _=>by
    rw[show [i]= []++ [i] from rfl,So]
    by_cases e:j=i
    ·rw[if_pos e,if_pos e]
    ·rw[if_neg e,if_neg e]
  have F79:Fx (· =D) h7 h9:=⟨by omega,λq h1 h2=>by rw[o9 q (by omega),o8 q h2]⟩
  have B0:BQ G L S i [i] 0:=⟨by simp,by simp,rfl,λj hj=>by
   obtain rfl:j=i:=by simpa using hj
   exact⟨by omega,Gu hG E (by omega)⟩,λk hk=>by omega⟩
  refine cI (λvs hh=> ∃(Q:List Nat) (q:Nat) (cp:qF),(∃g:Nat->V,vs= [g 0,.ptr A 0,.nilp,aB 0,vL,g 5,.ptr (X+8) 0,g 7,g 8,vS,.sl D 0 m (.kn m),aB i,vx,.sl q 0 Q.length cp,g 14,g 15,g 16,g 17,g 18,g 19,g 20,g 21,g 22,g 23,g 24,g 25,g 26,vL,aB m,aB i,g 30,g 31,g 32,g 33,g 34,g 35,g 36,g 37,g 38,g 39,g 40,g 41,g 42,g 43,g 44,g 45])/\
    BQ G L S i Q Q.length/\(cp= .un 1∨cp= .kn Q.length)/\hh.get q=some (.cells false (ints (zi Q)))/\Z<=q/\q<hh.next/\hh.get D=some (.cells false (rc L.length λj=> .bool (Dg G L i Q j)))/\Fx (· =D) h7 hh) ?_ ?_
  ·refine aI (λk' vs hh=> ∃(Q:List Nat) (q:Nat) (cp:qF) (p:Nat),(∃g:Nat->V,vs= [g 0,.ptr A 0,.nilp,aB 0,vL,g 5,.ptr (X+8) 0,g 7,g 8,vS,.sl D 0 m (.kn m),aB i,vx,.sl q 0 Q.length cp,aB p,g 15,g 16,g 17,g 18,g 19,g 20,g 21,g 22,g 23,g 24,g 25,g 26,vL,aB m,aB i,g 30,g 31,g 32,g 33,g 34,g 35,g 36,g 37,g 38,g 39,g 40,g 41,g 42,g 43,g 44,g 45])/\
    p<=Q.length/\BQ G L S i Q p/\(cp= .un 1∨cp= .kn Q.length)/\hh.get q=some (.cells false (ints (zi Q)))/\Z<=q/\q<hh.next/\hh.get D=some (.cells false (rc L.length λj=> .bool (Dg G L i Q j)))/\Fx (· =D) h7 hh/\k'=m-p) m
    ⟨[i],Z,_,0,aA rfl,lL _,B0,.inr rfl,g9,iP _,by omega,by rw[o9 _ (by omega),g8,hc0],F79,rfl⟩ ?_
   clear F79 B0 e8 n8 g8 o8 hZ e9 n9 g9 o9 f9 pt hc0
   rintro k' vars ha ⟨Q,q,cp,p,⟨g2,rfl⟩,hp,BQ0,hcp,gq,hq,nq,gD,Fa,rfl⟩
   have hQl:=BQ0.len
   by_cases hpl:(p:Int)<(Q.length:Int)
   case neg=>
    have d5:decide ((p:Int)<(Q.length:Int))=false:=decide_eq_false hpl;obtain rfl:p=Q.length:=by omega
    simp(disch:=omega)only[go_sem,d5];exact⟨Q,q,cp,aA rfl,BQ0,hcp,gq,hq,nq,gD,Fa⟩
   have d5:decide ((p:Int)<(Q.length:Int))=true:=decide_eq_true hpl
   have hp':p<Q.length:=by omega
   simp(disch:=omega)only[go_sem,d5,lvS]
   obtain⟨c,hc⟩:=exI (Q.getD p 0)
   obtain⟨hcm,hcc⟩:=BQ0.mem c (by rw[←hc];exact bB hp')
   have Cp:=kP hG E hcm
   refine Ce (λvs hh=> ∃(Q:List Nat) (q:Nat) (cp:qF),(∃g:Nat->V,vs= [g 0,.ptr A 0,.nilp,aB 0,vL,g 5,.ptr (X+8) 0,g 7,g 8,vS,.sl D 0 m (.kn m),aB i,vx,.sl q 0 Q.length cp,aB p,g 15,g 16,g 17,g 18,g 19,g 20,g 21,g 22,g 23,g 24,g 25,g 26,vL,aB m,aB i,g 30,g 31,g 32,g 33,g 34,g 35,g 36,g 37,g 38,g 39,g 40,g 41,g 42,g 43,g 44,g 45])/\
     p<Q.length/\BQ G L S i Q (p+1)/\(cp= .un 1∨cp= .kn Q.length)/\hh.get q=some (.cells false (ints (zi Q)))/\Z<=q/\q<hh.next/\hh.get D=some (.cells false (rc L.length λj=> .bool (Dg G L i Q j)))/\Fx (· =D) h7 hh) ?_ ?_
   ·refine aI (λk' vs hh=> ∃(Q:List Nat) (q:Nat) (cp:qF) (t:Nat),(∃g:Nat->V,vs= [g 0,.ptr A 0,.nilp,aB 0,vL,g 5,.ptr (X+8) 0,g 7,g 8,vS,.sl D 0 m (.kn m),aB i,vx,.sl q 0 Q.length cp,aB p,g 15,g 16,g 17,g 18,g 19,g 20,g 21,g 22,g 23,g 24,g 25,g 26,vL,aB m,aB i,g 30,g 31,g 32,vS,aB sl,aB t,g 36,g 37,g 38,g 39,g 40,g 41,g 42,g 43,g 44,g 45])/\
     p<Q.length/\t<=sl/\BQ G L S i Q p/\Q.getD p 0=c/\(∀s∈S.take t,∃j∈Q,L.getD j []=iM (L.getD c []) s)/\(cp= .un 1∨cp= .kn Q.length)/\hh.get q=some (.cells false (ints (zi Q)))/\Z<=q/\q<hh.next/\hh.get D=some (.cells false (rc L.length λj=> .bool (Dg G L i Q j)))/\Fx (· =D) h7 hh/\k'=sl-t) sl
     ⟨Q,q,cp,0,aA rfl,hp',lL _,BQ0,hc,λs hs=>(by simp at hs),hcp,gq,hq,nq,gD,Fa,rfl⟩ ?_
    clear BQ0 hcp gq hq nq gD Fa hc hp' hQl hpl d5 hp
    clear Q q cp
    rintro k' vars hb ⟨Q,q,cp,t,⟨g3,rfl⟩,hp',ht,BQ0,hc,hcl,hcp,gq,hq,nq,gD,Fb,rfl⟩
    by_cases htl:(t:Int)<(sl:Int)
    case neg=>
     have d5:decide ((t:Int)<(sl:Int))=false:=decide_eq_false htl;obtain rfl:t=sl:=by omega
     simp(disch:=omega)only[go_sem,d5];refine⟨Q,q,cp,aA rfl,hp',⟨BQ0.nd,BQ0.ne,BQ0.hd,BQ0.mem,λk hk s hs=>?_⟩,hcp,gq,hq,nq,gD,Fb⟩
     by_cases e:k=p
     ·subst e
      rw[hc];exact hcl s (by rw[←hsl,List.take_length];exact hs)
     ·exact BQ0.cl k (by omega) s hs
    have d5:decide ((t:Int)<(sl:Int))=true:=decide_eq_true htl
    have ht':t<sl:=by omega
    have hQl:=BQ0.len
    have nb:=Fb.next
    have FBb:Fx (λq=>q=X+8∨D<=q) h5 hb:=⟨by have:=J.old.next;omega,λq h1 h2=>by rw[Fb.get q (by omega) (λe=>h2 (.inr (by have:q=D:=e;omega)))];exact J.old.get q h1 h2⟩
    have f2b:Fr h2 hb:=⟨by omega,λq hq=>by rw[Fb.get q (by omega) (λe=>by have:q=D:=e;omega)];exact f27.get q hq⟩
    obtain⟨vy,cy,py⟩:=hSa t ht'
    obtain⟨vz,cz,sz⟩:=hLa c (by omega)
    obtain⟨s,hs⟩:=exI (S.getD t [])
    rw[hs] at py
    have hsS:s∈S:=by rw[←hs];exact bB (by omega)
    have Sp:=hG.dY (hSG s hsS)
    have cq:hb.cell q p=some (aB c):=by rw[H.aF gq,Al hp',hc]
    simp(disch:=omega)only[go_sem,d5,shS.ixa,cy hb FBb,cq,shL.ixa,cz hb f2b]
    refine (Ze (rfl:T 85=some lW) vy n s _ (by omega) Sp ((py.fx FBb).si.mono ((Fr.refl hb).bJ (by omega)))).mono ?_
    rintro v47 k1 np1
    have K1:Fr hb k1:=((Fr.refl hb).bJ (by omega)).trans np1.fr
    have cq1:k1.cell q p=some (aB c):=by rw[K1.cell nq];exact cq
    have ez:=sz.eH
    simp(disch:=omega)only[go_sem,cq1,cz k1 (f2b.trans K1),ez]
    refine (yJ v47 vz (dA s) (L.getD c []) k1 (by rw[lE,Sp.len];omega) (np1.pv (W:=λ_=>False) id).si (sz.mono (f2b.trans K1)) (λj hj=>by rw[Cp.len];exact Sp.inv.eY (by rw[←Sp.inv.len];exact hj))).mono ?_
    rintro v55 k2 np2
    have K2:=K1.trans np2.fr
    have P2:=Sp.inv.mul Cp
    simp(disch:=omega)only[go_sem]
    refine (yJ v55 vy _ s k2 (by rw[P2.len];omega) (np2.pv (W:=λ_=>False) id).si ((py.fx FBb).si.mono K2) (λj hj=>by rw[Sp.len];exact P2.eY (by rw[←P2.len];exact hj))).mono ?_
    rintro v57 k3 np3
    have K3:=K2.trans np3.fr
    have P3:=P2.mul Sp
    have cq3:k3.cell q p=some (aB c):=by rw[K3.cell nq];exact cq
    have s57:=(np3.pv (W:=λ_=>False) id).si
    have o57:=s57.eI.2.1
    have gB3: ∃vK,k3.get (X+8)=some (.cells false [vL,.mp (X+3),vK,.sl (X+6) 0 L.length (.kn L.length)]):=by
     obtain⟨vK,_,_,gB,_⟩:=J.ex;exact⟨vK,by rw[K3.get _ (by omega),Fb.get _ (by omega) (λe=>by have:X+8=D:=e;omega)];exact gB⟩
    obtain⟨vK,gB3⟩:=gB3
    have cB3:k3.cell (X+8) 1=some (.mp (X+3)):=by rw[H.aF gB3];rfl
    obtain⟨j,hj,ej⟩: ∃j,j<L.length/\L.getD j []=iM (L.getD c []) s:=by
     have hm2:iM (L.getD c []) s∈L:=(E.mem _).2 (hG.mul (hG.mul (hG.inv (hSG s hsS)) (vN E hcm)) (hSG s hsS));obtain⟨j,hj,ej⟩:=Ge.1 hm2;exact⟨j,hj,by rw[List.getD,iD hj,←ej];rfl⟩
    have e57:aU (aU (dA s) (L.getD c [])) s=L.getD j []:=ej.symm
    rw[e57] at s57
    simp(disch:=omega)only[go_sem,cq3,cz k3 (f2b.trans K3),cB3,ez]
    refine (Pf v57 (L.getD j []) _ (lt64 j (by omega)).1 (lt64 j (by omega)).2 (s57.mono ((Fr.refl k3).bJ (by omega)))).mono ?_
    rintro _ k4 ⟨rfl,f4'⟩
    have K34:Fr k3 k4:=((Fr.refl k3).bJ (by omega)).trans f4'
    have K4:=K3.trans K34
    have n3k:=K3.next
    have gM4k:k4.get (X+3)=some (.wmap .str (Re L L.length)):=by
     rw[K4.get _ (by omega),Fb.get _ (by omega) (λe=>by have:X+3=D:=e;omega),J.old.get _ (by omega) (by omega),f5.get _ (by omega),hm];exact gM4
    have cB4:k4.cell (X+8) 1=some (.mp (X+3)):=by rw[K34.cell (by omega)];exact cB3
    have lk:=λz=>Ua E.nodup hj (hK j (by omega)) z
    have cDj:k4.cell D j=some (.bool (Dg G L i Q j)):=by rw[K4.cell (by omega)];exact wV gD hj
    have hij:cR G L i j:=qE hG E (by omega) hcc ⟨s,hSG s hsS,ej.symm⟩
    have etk:S.take (t+1)=S.take t++ [s]:=by rw[iU [] (by omega),hs]
    have gq4:k4.get q=some (.cells false (ints (zi Q))):=by rw[K4.get _ nq];exact gq
    have gD4:k4.get D=some (.cells false (rc L.length λj=> .bool (Dg G L i Q j))):=by rw[K4.get _ (by omega)];exact gD
    have F4k:Fx (· =D) h7 k4:=⟨by have:=K4.next;omega,λq h1 h2=>by rw[K4.get q (by omega)];exact Fb.get q h1 h2⟩
    cases hsn2:Dg G L i Q j with
    |true=>
     rw[hsn2] at cDj
     have hjQ:j∈Q:=by
      rcases mO.1 hsn2 with ⟨i0,h1,h2'⟩|h1
      ·exact absurd (qE hG E (by omega) h2' (Cv hG E (by omega) hij)) (hr i0 h1)
      ·exact h1
     simp(disch:=omega)only[go_sem,cB4,gM4k,lk,cDj];rw[jJ t];refine⟨by simp [eH],sl-(t+1),by omega,Q,q,cp,t+1,aA rfl,hp',by omega,BQ0,hc,?_,hcp,gq4,hq,by have:=K4.next;omega,gD4,F4k,rfl⟩;rw[etk];intro s' hs';rcases Ks.1 hs' with h1|h1
     ·exact hcl s' h1
     ·obtain rfl:s'=s:=by simpa using h1
      exact⟨j,hjQ,ej⟩
    |false=>
     rw[hsn2] at cDj;have hjQ:j∉Q:=λh1=>by rw[mO.2 (.inr h1)] at hsn2;cases hsn2
     obtain⟨k5,e5,m5,g5,o5⟩:=Fq k4 D ((rc L.length λj=> .bool (Dg G L i Q j)).set j (.bool true));obtain⟨Y,hY⟩:=exI k5.next;obtain⟨k6,e6',m6,g6',o6',f6'⟩:=iX hY [aB j];have pt:=aZ (vs:=rc L.length λj=> .bool (Dg G L i Q j)) (off:=j) (by rw[dG];exact hj);have nk:=K4.next;have gq6:k6.get q=some (.cells false (ints (zi Q))):=by rw[o6' _ (by omega),o5 _ (by omega)];exact gq4
     have ow6:eZ k6 (.sl q 0 Q.length cp) 1 (ints (zi Q)) 0:= .inr ⟨q,Q.length,cp, [],rfl,by rw[aN,aT];simp,by rcases hcp with h1|h1;exact .inl h1;exact .inr ⟨h1,rfl⟩,lL _,by omega,by rw[List.append_nil];exact gq6⟩;obtain⟨k7,a7,p7⟩:=ow6.push (bytes:=8) (SV.one (v:= aB j) (id:=Y) (by omega) g6' (.kn 1)) (n:=Q.length) (m:=1) (by rw[aN,aT];simp) rfl (by omega) (by omega) (by omega);simp(disch:=omega)only[go_sem,cB4,gM4k,lk,cDj,gD4,pt,e5,dV k5 (z:= aB 0) (v:= aB j) rfl rfl,hY,e6',a7];rw[jJ t];have el:ints (zi (Q++ [j]))=ints (zi Q)++ [aB j]:=by simp [zi,ints]
     have m7:=p7.next;have apD:dO (.sl q 0 Q.length cp) D:=λid off n c e e2=>by cases e;omega
     have hc0:(rc L.length λj'=>V.bool (Dg G L i Q j')).set j (.bool true)=rc L.length λj'=> .bool (Dg G L i (Q++ [j]) j'):=by
      rw[iR]
      exact bH λj' _=>by
       rw[So]
       by_cases e:j'=j
       ·rw[if_pos e,if_pos e]
       ·rw[if_neg e,if_neg e]
     refine⟨by simp [eH],sl-(t+1),by omega,Q++ [j],k6.next,.un 1,t+1,by rw[oF];exact aA rfl,by rw[oF];omega,by omega,⟨?_,by rw[oF];simp,?_,?_,?_⟩,?_,?_,.inl rfl,by rw[el];exact p7.get,by omega,by omega,?_,?_,rfl⟩
     ·rw[List.nodup_append]
      exact⟨BQ0.nd,by simp,λx hx y hy e=>by
       obtain rfl:y=j:=by simpa using hy
       exact hjQ (e▸hx)⟩
     ·rw[List.getD,Jw BQ0.ne];exact BQ0.hd
     ·intro x hx
      rcases Ks.1 hx with h1|h1
      ·exact BQ0.mem x h1
      ·obtain rfl:x=j:=by simpa using h1
       exact⟨hj,hij⟩
     ·intro k hk s' hs'
      obtain⟨y,hy,ey⟩:=BQ0.cl k hk s' hs';refine⟨y,Ks.2 (.inl hy),?_⟩;rw[ey,List.getD,List.getD,List.getD,List.getD,Jw (by omega)]
     ·rw[List.getD,Jw hp'];exact hc
     ·rw[etk]
      intro s' hs';rcases Ks.1 hs' with h1|h1
      ·obtain⟨y,hy,ey⟩:=hcl s' h1
       exact⟨y,Ks.2 (.inl hy),ey⟩
      ·obtain rfl:s'=s:=by simpa using h1
       exact⟨j,Ks.2 (.inr (by simp)),ej⟩
     ·rw[p7.old D (by omega) apD,o6' D (by omega),g5,hc0]
     ·refine⟨by omega,λx h1 h2=>?_⟩
      rw[p7.old x (by omega) (λid off n c e e2=>by cases e;omega),o6' x (by omega),o5 x h2];exact F4k.get x h1 h2
   clear BQ0 hcp gq hq nq gD Fa hc hpl d5 hp hp' hQl
   clear Q q cp
   rintro vars hb ⟨Q,q,cp,⟨g3,rfl⟩,hp',BQ1,hcp,gq,hq,nq,gD,Fb⟩
   have hQl:=BQ1.len
   simp(disch:=omega)only[go_sem]
   rw[jJ p]
   exact⟨m-(p+1),by omega,Q,q,cp,p+1,aA rfl,by omega,BQ1,hcp,gq,hq,nq,gD,Fb,rfl⟩
  clear F79 B0 e8 n8 g8 o8 hZ e9 n9 g9 o9 f9 pt hc0
  rintro vars hb ⟨Q,q,cp,⟨g3,rfl⟩,BQ1,hcp,gq,hq,nq,gD,Fb⟩
  have hQl:=BQ1.len
  have nb:=Fb.next
  have srt:=Pw hb q (zi Q) cp (by rw[aT];omega) gq nq
  rw[aT] at srt
  simp(disch:=omega)only[go_sem]
  refine srt.mono ?_
  rintro _ ka ⟨l',gl,pl,al,Fa⟩
  obtain rfl:=BQ1.sort hG E (iP _) (by omega) hSG hSgen pl al
  have hQo:Q.length=(iN G L i).length:=by have:=pl.length_eq;rw[aT,aT] at this;exact this.symm
  have na:=Fa.next
  have f2a:Fr h2 ka:=⟨by omega,λx hx=>by rw[Fa.get x (by omega) (λe=>by have:x=q:=e;omega),Fb.get x (by omega) (λe=>by have:x=D:=e;omega)];exact f27.get x hx⟩
  have X1:=kP hG E (show i<L.length by omega)
  simp(disch:=omega)only[go_sem]
  refine (Rj vx n (L.getD i []) ka n0 n7 X1 (sx.mono f2a)).mono ?_
  rintro _ kb ⟨rfl,fb⟩
  have nkb:=fb.next
  obtain⟨vK,ks,WK,gB,owK,aK,bK,wD,wB,wN,wn,wX,_⟩:=J.ex
  have hks:=cF.length aK
  have gBb:kb.get (X+8)=some (.cells false [vL,.mp (X+3),vK,.sl (X+6) 0 L.length (.kn L.length)]):=by
   rw[fb.get _ (by omega),Fa.get _ (by omega) (λe=>by have:X+8=q:=e;omega),Fb.get _ (by omega) (λe=>by have:X+8=D:=e;omega)];exact gB
  have cB2:kb.cell (X+8) 2=some vK:=by rw[H.aF gBb];rfl
  have owx:=sx.eI.2.1
  have eKo:=owK.sv.eH
  obtain⟨Y,hY⟩:=exI kb.next
  obtain⟨kc,ec,mc,gc',oc,fc⟩:=iX hY [vx,aB (fN (L.getD i []) n:Nat),aB (Q.length:Int),.sl q 0 Q.length cp]
  have old7: ∀x,x<Z->x≠D->kc.get x=h7.get x:=λx h1 h2=>by
   rw[oc x (by omega),fb.get x (by omega),Fa.get x (by omega) (λe=>by have:x=q:=e;omega),Fb.get x (by omega) h2]
  have owKc:eZ kc vK 4 (Cls.oI ks) (D+1):=owK.mono (by omega) λid off n' c e h1 h2=>old7 id (by omega) (by omega)
  have lr:=rG (G:=G) (L:=L) i
  obtain⟨kd,ad,pd⟩:=owKc.push (bytes:=64) (y:= .sl Y 0 1 (.kn 1)) (us:= [vx,aB (fN (L.getD i []) n:Nat),aB (Q.length:Int),.sl q 0 Q.length cp]) (SV.all rfl (by omega) gc' _) (n:=ks.length) (m:=1) (Lk ks) rfl (by omega) (by omega) (by omega)
  have md:=pd.next
  have apB:dO vK (X+8):=λid off n' c e e2=>by have:=(owK.in _ _ _ _ e).2.1;omega
  have gBd:kd.get (X+8)=some (.cells false [vL,.mp (X+3),vK,.sl (X+6) 0 L.length (.kn L.length)]):=by
   rw[pd.old _ (by omega) apB,oc _ (by omega)];exact gBb
  obtain⟨ke,ee,me,ge,oe⟩:=Fq kd (X+8) [vL,.mp (X+3),.sl kc.next 0 (ks.length+1) (.un 4),.sl (X+6) 0 L.length (.kn L.length)]
  simp(disch:=omega)only[go_sem,cB2,ED sx.eI.1 owx,CU owx (w:= .sl q 0 Q.length cp) rfl rfl,DI owx (w:= .sl q 0 Q.length cp) rfl,hY,ec,ad,gBd,DF,ee]
  rw[jJ i]
  have dPV: ∀x,x<Z-> ¬WK x->ke.get x=h7.get x:=λx h1 h2=>by
   rw[oe x (λe=>h2 (e▸wB)),pd.old x (by omega) (λid off n' c e e2=>h2 (e2▸bK _ _ _ _ e)),old7 x h1 (λe=>h2 (e▸wD))]
  have FK:Fx WK h7 ke:=⟨by omega,λx h1 h2=>dPV x (by omega) h2⟩
  have f2e:Fr h2 ke:=⟨by omega,λx hx=>by rw[dPV x (by omega) (λh1=>by have:=wX x h1;omega)];exact f27.get x hx⟩
  have e1k:Cls.oI (ks++ [⟨vx,fN (L.getD i []) n,Q.length,.sl q 0 Q.length cp,i,⟨sx.eI.1,owx,sx.eH⟩,⟨rfl,rfl,by simp [eH]⟩⟩])=Cls.oI ks++ [vx,aB (fN (L.getD i []) n:Nat),aB (Q.length:Int),.sl q 0 Q.length cp]:=by
   simp [Cls.oI,Cls.KE.enc]
  refine⟨m-(i+1),by omega,i+1,aA rfl,by omega,⟨⟨_,ks++ [⟨vx,fN (L.getD i []) n,Q.length,.sl q 0 Q.length cp,i,⟨sx.eI.1,owx,sx.eH⟩,⟨rfl,rfl,by simp [eH]⟩⟩],λx=>WK x∨x=kc.next,ge,?_,?_,λid off n' c e=>by cases e;exact .inr rfl,   .inl wD,.inl wB,.inl wN,λx h=>by rcases h with h|h;have:=wn x h;omega;omega,λx h=>by rcases h with h|h;exact wX x h;omega,.inr ⟨_,_,by rw[oF];rfl,?_⟩⟩,?_,?_,by omega⟩,rfl⟩
  ·rw[e1k]
   exact (pd.own (b:=D+1) (Lk ks) rfl (by omega)).mono (by omega) λid off n' c e h1 h2=>by cases e;exact oe _ (by omega)
  ·rw[(Ie i).1 hr]
   refine cF.append (aK.mono λa r k=>k.go FK (by omega) wX λx h1 h2=>by rcases h2 with h2|h2;exact h2;omega) ⟨⟨rfl,rfl,hQo,⟨sx.mono f2e,?_⟩,⟨?_,?_⟩⟩,trivial⟩
   ·rw[←hX];exact aaP sx
   ·rw[hQo]
    refine SV.all (ro:=false) (by rw[aN,aT,Nat.mul_one]) (by omega) ?_ _
    rw[oe q (by omega),pd.old q (by omega) (λid off n' c e e2=>by have:=wn _ (bK _ _ _ _ e);omega),oc q (by omega),fb.get q (by omega)]
    exact gl
   ·exact λh=>by rcases h with h|h;have:=wn _ h;omega;omega
  ·rw[e1k,oe _ (by omega)];exact pd.get
  ·rw[oe D (by omega),pd.old D (by omega) (λid off n' c e e2=>by have:=(owK.in _ _ _ _ e).2.1;omega),oc D (by omega),fb.get D (by omega),Fa.get D (by omega) (λe=>by have:D=q:=e;omega),gD,bH λj hj=>by rw[JZ hG E (show i<L.length by omega) BQ1 hSG hSgen hj]]
  ·refine⟨by have:=J.old.next;omega,λx h1 h2=>?_⟩
   have hx8:x≠X+8:=λe=>h2 (.inl e)
   have hxD:x<D:=by omega
   rw[oe x hx8,pd.old x (by omega) (λid off n' c e e2=>by have:=(owK.in _ _ _ _ e).2.1;omega),old7 x (by omega) (by omega)]
   exact J.old.get x h1 h2
 rintro vars h7 ⟨⟨g,rfl⟩,J⟩
 exact hk L X D vL h2 h5 h7 A g hL ⟨E,by omega,f1.trans f2,hX,nw.sp,f25,by omega,hD,by rw[f5.get _ (by omega),hm];exact gM4,by rw[f5.get _ (by omega),hm];exact gN4,by rw[hm];exact J⟩
end
open Classical in
noncomputable def fS (G:List Nat->Prop)(L:LN)(K:List Nat)(j:Nat):Nat:=K.findIdx λr=>decide (cR G L r j)
structure KR (n:Nat)(G:List Nat->Prop)(L:LN)(hh:H)(a:Cls.KE)(r:Nat):Prop where
 fst:a.fst=r
 ord:a.ord=fN (L.getD r []) n
 size:a.size=(iN G L r).length
 rep:SI hh a.rep (zi (L.getD r []))
 ranks:SI hh a.ranks (zi (iN G L r))
theorem KR.mono {n:Nat}{G:List Nat->Prop}{L:LN}{h h':H}{a:Cls.KE}{r:Nat}(k:KR n G L h a r)(f:Fr h h'):KR n G L h' a r:=⟨k.fst,k.ord,k.size,k.rep.mono f,k.ranks.mono f⟩
def WJ (n:Nat)(G:List Nat->Prop)(L:LN)(r s:Nat):Prop:=fN (L.getD r []) n<fN (L.getD s []) n∨fN (L.getD r []) n=fN (L.getD s []) n/\((iN G L r).length<(iN G L s).length∨(iN G L r).length=(iN G L s).length/\r<s)
structure Dh (n:Nat)(G:List Nat->Prop)(L:LN)(K:List Nat):Prop where
 perm:K.Perm (jK G L L.length)
 asc:K.Pairwise (WJ n G L)
structure HD (n:Nat)(G:List Nat->Prop)(L:LN)(K:List Nat)(hh:H)(v:V):Prop where
 ex: ∃B M N S cp vL ks,v= .ptr B 0/\B<hh.next/\M<hh.next/\N<hh.next/\S<hh.next/\hh.get B=some (.cells false [vL,.mp M,.sl S 0 K.length cp,.sl N 0 L.length (.kn L.length)])/\
  hh.get M=some (.wmap .str (Re L L.length))/\hh.get N=some (.cells false (rc L.length λj=> aB (fS G L K j:Nat)))/\hh.get S=some (.cells false (Cls.oI ks))/\cF (KR n G L hh) ks K/\SP hh vL L
theorem HD.mono {n:Nat}{G:List Nat->Prop}{L:LN}{K:List Nat}{h h':H}{v:V}(g:HD n G L K h v)(f:Fr h h'):HD n G L K h' v:=by
 obtain⟨B,M,N,S,cp,vL,ks,e,hB,hM,hN,hS,gB,gM,gN,gS,a,sp⟩:=g.ex;have n1:=f.next;exact⟨B,M,N,S,cp,vL,ks,e,by omega,by omega,by omega,by omega,by rw[f.get _ hB];exact gB,by rw[f.get _ hM];exact gM,by rw[f.get _ hN];exact gN,by rw[f.get _ hS];exact gS,a.mono λ_ _ k=>k.mono f,sp.mono f⟩
section
variable {n:Nat} {G:List Nat->Prop} {L:LN} {K:List Nat} (hG:sZ n G) (E:fL G L)
include hG E
omit hG E in
theorem Iy (h0:0<L.length):0∈jK G L L.length:=oT.2 ⟨h0,λj hj=>by omega⟩
theorem Gn (pK:K.Perm (jK G L L.length)){k:Nat}(hk:k<K.length){j:Nat}(hj:j∈iN G L (K.getD k 0)):fS G L K j=k:=by
 classical
 obtain⟨hjl,hc⟩:=mK.1 hj;have hnd:K.Nodup:=pK.nodup_iff.2 (by unfold jK;exact List.Pairwise.filter _ List.nodup_range);have hK: ∀r∈K,r<L.length/\AW G L r:=λr hr=>oT.1 (pK.mem_iff.1 hr)
 unfold fS;rw[List.findIdx_eq hk];have ek:K.getD k 0=K[k]:=Pm.cT hk;rw[ek] at hc;refine⟨by simpa using hc,λi hi=>?_⟩;simp only[decide_eq_false_iff_not];intro hc2;have h1:=hK K[i] (List.getElem_mem _);have h2:=hK K[k] (List.getElem_mem _);have:=GX hG E h1.1 h2.1 h1.2 h2.2 hc2 hc;have hne:=List.pairwise_iff_getElem.1 hnd i k (by omega) hk hi;exact hne this
theorem En (pK:K.Perm (jK G L L.length)){j:Nat}(hj:j<L.length): ∃k,k<K.length/\j∈iN G L (K.getD k 0):=by
 obtain⟨r,h1,h2,h3⟩:=aaL hG E hj;have hr:r∈K:=pK.mem_iff.2 (oT.2 ⟨by omega,h2⟩);obtain⟨k,hk,ek⟩:=Ge.1 hr;exact⟨k,hk,mK.2 ⟨hj,by rw[Pm.cT hk,ek];exact h3⟩⟩
end
open Classical in
noncomputable def Ld (G:List Nat->Prop)(L:LN)(K:List Nat)(k t j:Nat):Nat:=if (∃k0,k0<k/\j∈iN G L (K.getD k0 0))∨j∈(iN G L (K.getD k 0)).take t then fS G L K j else 0
theorem IE (G:List Nat->Prop)(L:LN)(K:List Nat)(j:Nat):Ld G L K 0 0 j=0:=by
 classical
 unfold Ld;rw[if_neg];rintro (⟨k0,h,_⟩|h)
 ·omega
 ·simp at h
theorem IC (G:List Nat->Prop)(L:LN)(K:List Nat)(k j:Nat):Ld G L K k (iN G L (K.getD k 0)).length j=Ld G L K (k+1) 0 j:=by
 classical
 unfold Ld;rw[List.take_length,List.take_zero]
 have e:((∃k0,k0<k/\j∈iN G L (K.getD k0 0))∨j∈iN G L (K.getD k 0))↔((∃k0,k0<k+1/\j∈iN G L (K.getD k0 0))∨j∈([]:List Nat)):=by
  constructor
  ·rintro (⟨k0,h1,h2⟩|h)
   ·exact .inl ⟨k0,by omega,h2⟩
   ·exact .inl ⟨k,by omega,h⟩
  ·rintro (⟨k0,h1,h2⟩|h)
   ·by_cases e:k0=k
    ·subst e;exact .inr h2
    ·exact .inl ⟨k0,by omega,h2⟩
   ·cases h
 by_cases h:((∃k0,k0<k/\j∈iN G L (K.getD k0 0))∨j∈iN G L (K.getD k 0))
 ·rw[if_pos h,if_pos (e.1 h)]
 ·rw[if_neg h,if_neg (λx=>h (e.2 x))]
theorem OB {n:Nat}{G:List Nat->Prop}{L:LN}{K:List Nat}(hG:sZ n G)(E:fL G L)(pK:K.Perm (jK G L L.length)){k:Nat}(hk:k<K.length){t:Nat}(ht:t<(iN G L (K.getD k 0)).length)(j:Nat):
  Ld G L K k (t+1) j=if j=(iN G L (K.getD k 0)).getD t 0 then k else Ld G L K k t j:=by
 classical
 by_cases e:j=(iN G L (K.getD k 0)).getD t 0
 ·rw[if_pos e]
  have hj:j∈iN G L (K.getD k 0):=by rw[e];exact bB ht
  unfold Ld
  rw[if_pos (.inr (by rw[iU 0 ht,e];simp))]
  exact Gn hG E pK hk hj
 ·rw[if_neg e]
  unfold Ld
  rw[iU 0 ht]
  simp only[Ks,List.mem_singleton,e,or_false]
theorem NO {n:Nat}{G:List Nat->Prop}{L:LN}{K:List Nat}(hG:sZ n G)(E:fL G L)(pK:K.Perm (jK G L L.length)){j:Nat}(hj:j<L.length):Ld G L K K.length 0 j=fS G L K j:=by
 classical
 obtain⟨k,h1,h2⟩:=En hG E pK hj;unfold Ld;rw[if_pos (.inl ⟨k,h1,h2⟩)]
theorem yW {h:H}{S:Nat}{ro:Bool}: ∀{ks:List Cls.KE} {pre:List V},h.get S=some (.cells ro (pre++Cls.oI ks))-> ∀{i:Nat} (hi:i<ks.length),h.row S (pre.length+i*4) 4=some ks[i].enc
 | [],_,_,_,hi=>by simp at hi
 |a::r,pre,g,0,_=>by
  unfold H.row;rw[g];show sub (pre++(a.enc++Cls.oI r)) (pre.length+0*4) 4=some a.enc;simp only[sub,Nat.zero_mul,Nat.add_zero];have:a.enc.length=4:=rfl;rw[if_pos (by rw[oF,oF];omega),List.drop_left,List.take_append,List.take_of_length_le (by omega),this];simp
 |a::r,pre,g,i+1,hi=>by
  have g':h.get S=some (.cells ro ((pre++a.enc)++Cls.oI r)):=by rw[g,List.append_assoc];rfl
  have:=yW g' (i:=i) (by simpa using hi);rw[oF,show a.enc.length=4 from rfl] at this;rw[show pre.length+(i+1)*4=pre.length+4+i*4 by omega];simpa using this
theorem Wy (h:H)(id off:Nat)(a:Cls.KE):Za h 4 (.ptr id off) (.agg a.enc)=fO (h.get id) h id off a.enc:=zH h id off 4 _ rfl (by simp [Cls.KE.enc,a.hrep.2.1,a.hranks.2.1,show (aB (a.ord:Int)).one=true from rfl,show (aB (a.size:Int)).one=true from rfl])
theorem Wb (hh:H)(id:Nat)(a:Cls.KE)(x y z w:V):fO (some (.cells false [x,y,z,w])) hh id 0 a.enc=some (hh.set id (some (.cells false a.enc))):=by
 simp [fO,putAt,Cls.KE.enc]
theorem cF.ex {α β:Type}{R:α->β->Prop}{as:List α}{bs:List β}(h:cF R as bs){a:α}(ha:a∈as): ∃b∈bs,R a b:=by
 obtain⟨i,hi,rfl⟩:=Ge.1 ha;have hl:=cF.length h;exact⟨bs[i]'(by omega),List.getElem_mem _,cF.get h i hi (by omega)⟩
theorem SI.lit {h:H}{v:V}{l:List Int}(s:SI h v l)(hl:0<l.length): ∃id off m cap,v= .sl id off (m+1) cap/\m+1=l.length/\id<h.next/\ ∀i,i<l.length->h.cell id (off+i)=some (aB (l.getD i 0)):=by
 obtain⟨id,off,sh,hid,hc⟩:=s.open;rcases s with ⟨_,h0⟩|⟨id',off',len,cap,ro,vs,e,h2,h3,_⟩
 ·have:l.length=0:=by rw[←aN,h0];rfl
  omega
 ·rw[aN,Nat.mul_one] at h2
  have hx:=sh.ixa .i64 0 (by omega) (by omega);subst e;rw[Bs (by omega) (by omega)] at hx;simp only[Option.some.injEq,V.ptr.injEq] at hx;obtain⟨rfl,h5⟩:=hx;have h6:off'=off:=by omega
  subst h6;exact⟨id',off',l.length- 1,cap,by rw[show l.length- 1+1=len by omega],by omega,h3,hc⟩
theorem JV {W0:Nat->Prop}(vc:V)(n:Nat)(O:LN)(R:pF)(G:List Nat->Prop)(h:H)(gc:GC W0 h vc n O R G):
  Ev T 56 [vc] h (λv h'=> ∃p K,v= .tup [p,aB 0]/\HD n G (dC O R n 0 (bI n)) K h' p/\Dh n G (dC O R n 0 (bI n)) K/\Fr h h'):=by
 refine VJ vc n O R G h gc _ λL X D vL h2 h5 h7 A g hL e=>?_
 rw[hL]
 have hG:=gc.nC
 have E:=e.el
 obtain⟨vK,ks,WK,gB,owK,aK,bK,wD,wB,wN,wn,wX,xK⟩:=e.j.ex
 have hks:=cF.length aK
 obtain⟨m,hm⟩:=exI L.length
 have h0:0<L.length:=List.length_pos_of_mem ((E.mem _).2 hG.one)
 have hk0:0<ks.length:=by rw[hks];exact List.length_pos_of_mem (Iy h0)
 obtain⟨S,cp,rfl,gS⟩: ∃id cap,vK= .sl id 0 ks.length cap/\h7.get id=some (.cells false (Cls.oI ks)):=by
  rcases xK with h1|h1
  ·subst h1;simp at hk0
  ·exact h1
 have wS:=bK _ _ _ _ rfl
 have nS:=wn _ wS
 have cB2:h7.cell (X+8) 2=some (.sl S 0 ks.length cp):=by rw[H.aF gB];rfl
 show Wp T none (Pl 2 kA.body) _ h7 _
 simp(disch:=omega)only[go_sem,Pl,JD,kA,cB2]
 have hR: ∀r∈jK G L L.length,r<L.length/\AW G L r:=λr hr=>oT.1 hr
 have hPp: ∀a∈ks,a.Pp h7 h7.next S:=λa ha=>by
  obtain⟨r,hr,k⟩:=cF.ex aK ha;obtain⟨hrl,hri⟩:=hR r hr;obtain⟨l1,l2⟩:=Lj hG E hrl hri;obtain⟨id,off,m',cap,e1,e2,e3,e4⟩:=SI.lit k.ranks.si (by rw[aT];exact l1);have ho:=k.ranks.off;rw[e1] at ho;refine⟨id,off,m',cap,e1,e3,λh1=>ho (h1▸wS),?_⟩;have:=e4 0 (by rw[aT];exact l1);rw[Nat.add_zero] at this;rw[this,zi,nX _ (d:=0) l1,l2,k.fst]
 refine (Cls.OL h7 S h7.next ks cp (by rw[hks];have:=rG (G:=G) (L:=L) L.length;have:=e.le;omega) gS nS (iP _) hPp).mono ?_
 rintro _ h8 ⟨ks',gS8,pm,srt,F8⟩
 obtain⟨K,hK⟩:=exI (ks'.map (λa:Cls.KE=>a.fst))
 have hlK:K.length=ks.length:=by rw[←hK,rK];exact pm.length_eq
 have hkr:ks.map (λa:Cls.KE=>a.fst)=jK G L L.length:=by
  refine List.ext_getElem (by rw[rK];exact hks) λi h1 h2=>?_
  rw[List.getElem_map];exact (cF.get aK i (by simpa using h1) h2).fst
 have pK:K.Perm (jK G L L.length):=by rw[←hK,←hkr];exact pm.map _
 have kK: ∀a∈ks',KO n G L X WK h7 a a.fst:=λa ha=>by
  obtain⟨r,hr,k⟩:=cF.ex aK (pm.mem_iff.1 ha);rw[k.fst];exact k
 have FK:Fx WK h7 h8:=⟨F8.next,λq h1 h2=>F8.get q h1 λh3=>h2 (by have:q=S:=h3;rw[this];exact wS)⟩
 have kK8: ∀a∈ks',KO n G L X WK h8 a a.fst:=λa ha=>(kK a ha).go FK (by have:=wX S wS;omega) wX λ_ _ h1=>h1
 have hSD:=(owK.in _ _ _ _ rfl).2.1
 have xD:=e.xD
 have n8:=F8.next
 have gB8:h8.get (X+8)=some (.cells false [vL,.mp (X+3),.sl S 0 ks.length cp,.sl (X+6) 0 L.length (.kn L.length)]):=by
  rw[F8.get _ (wn _ wB) (λh1=>by have:X+8=S:=h1;omega)];exact gB
 have cB8:h8.cell (X+8) 2=some (.sl S 0 ks.length cp):=by rw[H.aF gB8];rfl
 have gN7:h7.get (X+6)=some (.cells false (rc L.length λ_=> aB 0)):=by
  rw[e.j.old.get _ (by rw[e.n5];omega) (by omega)];exact e.gN
 have gN8:h8.get (X+6)=some (.cells false (rc L.length λj=> aB (Ld G L K 0 0 j:Nat))):=by
  rw[F8.get _ (wn _ wN) (λh1=>by have:X+6=S:=h1;omega),gN7,show (λj=>aB (Ld G L K 0 0 j:Nat))=λ_=>aB 0 from funext λj=>by rw[IE];rfl]
 have hKk: ∀k,k<K.length-> ∃a,ks'[k]? =some a/\KO n G L X WK h8 a (K.getD k 0):=λk hk=>by
  have hk':k<ks'.length:=by rw[pm.length_eq,←hlK];exact hk
  refine⟨ks'[k],iD hk',?_⟩;have:=kK8 _ (List.getElem_mem hk');have e2:K.getD k 0=(ks'[k]).fst:=by rw[Pm.cT hk];subst hK;rw[List.getElem_map]
  rw[e2];exact this
 have le:=e.le
 have hKle:K.length<=L.length:=by rw[hlK,hks];exact rG _
 have nN:=wn _ wN
 rw[←hlK] at cB8 gB8
 simp(disch:=omega)only[go_sem,cB8]
 refine cI (λvs hh=>(∃g:Nat->V,vs= [g 0,g 1,.nilp,aB 0,g 4,g 5,.ptr (X+8) 0,g 7,g 8,g 9,g 10,g 11,g 12,g 13,g 14,g 15,g 16,g 17,g 18,g 19,g 20,g 21,g 22,g 23,g 24,g 25,g 26,g 27,g 28,g 29,g 30,g 31,g 32,g 33,g 34,g 35,g 36,g 37,g 38,g 39,g 40,g 41,g 42,g 43,g 44,g 45])/\hh.get (X+6)=some (.cells false (rc L.length λj=> aB (Ld G L K K.length 0 j:Nat)))/\Fx (· =X+6) h8 hh) ?_ ?_
 ·refine aI (λk' vs hh=> ∃(k:Nat),(∃g:Nat->V,vs= [g 0,g 1,.nilp,aB 0,g 4,g 5,.ptr (X+8) 0,g 7,g 8,g 9,g 10,g 11,g 12,g 13,g 14,g 15,g 16,g 17,g 18,g 19,g 20,g 21,g 22,g 23,g 24,g 25,g 26,g 27,g 28,g 29,g 30,g 31,g 32,g 33,g 34,g 35,g 36,g 37,.sl S 0 K.length cp,aB (K.length:Int),aB k,g 41,g 42,g 43,g 44,g 45])/\k<=K.length/\hh.get (X+6)=some (.cells false (rc L.length λj=> aB (Ld G L K k 0 j:Nat)))/\Fx (· =X+6) h8 hh/\k'=K.length-k) K.length
   ⟨0,aA rfl,lL _,gN8,Fx.refl _ _,rfl⟩ ?_
  rintro k' vars h9 ⟨k,⟨g,rfl⟩,hk,gN9,F9,rfl⟩
  have n9:=F9.next
  by_cases hlt:(k:Int)<(K.length:Int)
  case neg=>
   have d4:=iZ hlt;obtain rfl:k=K.length:=by omega
   simp(disch:=omega)only[go_sem,d4];exact⟨aA rfl,gN9,F9⟩
  have d4:=mL hlt
  have hk':k<K.length:=by omega
  obtain⟨a,ea,ko⟩:=hKk k hk'
  have hkl:k<ks'.length:=by rw[pm.length_eq,←hlK];exact hk'
  have ea':ks'[k]=a:=by rw[iD hkl] at ea;simpa using ea
  have gS9:h9.get S=some (.cells false (Cls.oI ks')):=by rw[F9.get _ (by omega) (λh1=>by have:S=X+6:=h1;omega)];exact gS8
  have rw9:h9.row S (k*4) 4=some a.enc:=by
   have:=yW (pre:= []) (by simpa using gS9) hkl;rw[ea'] at this;simpa using this
  obtain⟨Y,hY⟩:=exI h9.next
  obtain⟨ha,eha,na,ga,oa,fa⟩:=iX hY [.aC,aB 0,aB 0,.aC]
  obtain⟨hb,ehb,nb,gb,ob⟩:=Fq ha Y a.enc
  have cb3:hb.cell Y 3=some a.ranks:=by rw[H.aF gb];rfl
  have lr:=ko.ranks.si.lens
  rw[aT] at lr
  obtain⟨r,hr⟩:=exI (K.getD k 0)
  rw[hr] at ko lr
  simp(disch:=omega)only[go_sem,d4,rw9,hY,eha,Wy,ga,Wb,ehb,cb3,lr]
  have hrK:r∈jK G L L.length:=by rw[←hr];exact pK.mem_iff.1 (bB hk')
  obtain⟨hrl,hri⟩:=hR r hrK
  obtain⟨l1,l2⟩:=Lj hG E hrl hri
  obtain⟨idR,offR,mR,capR,e1,e2,e3,e4⟩:=SI.lit ko.ranks.si (by rw[aT];exact l1)
  have ho:=ko.ranks.off
  rw[e1] at ho
  have hRN:idR≠X+6:=λh1=>ho (h1▸wN)
  obtain⟨c,hc⟩:=exI ((iN G L r).length)
  rw[aT,hc] at e2 e4
  have hcl:c<=L.length:=by
   rw[←hc];have:=List.Nodup.length_le_of_subset (Iv (G:=G) (L:=L) r) (l₂:=List.range L.length) λj hj=>Kw.2 (mK.1 hj).1
   rwa [List.length_range] at this
  rw[hc,e1]
  have Fb:Fx (· =X+6) h8 hb:=⟨by omega,λq h1 h2=>by rw[ob q (by omega),oa q (by omega)];exact F9.get q h1 h2⟩
  have gNb:hb.get (X+6)=some (.cells false (rc L.length λj=> aB (Ld G L K k 0 j:Nat))):=by rw[ob _ (by omega),oa _ (by omega)];exact gN9
  have gBb: ∀hh,Fx (· =X+6) h8 hh->hh.cell (X+8) 3=some (.sl (X+6) 0 L.length (.kn L.length)):=λhh f=>by
   have:hh.get (X+8)=h8.get (X+8):=f.get _ (by have:=wn _ wB;omega) (by omega);rw[H.aF (this.trans gB8)];rfl
  refine Ce (λvs hh=>(∃g:Nat->V,vs= [g 0,g 1,.nilp,aB 0,g 4,g 5,.ptr (X+8) 0,g 7,g 8,g 9,g 10,g 11,g 12,g 13,g 14,g 15,g 16,g 17,g 18,g 19,g 20,g 21,g 22,g 23,g 24,g 25,g 26,g 27,g 28,g 29,g 30,g 31,g 32,g 33,g 34,g 35,g 36,g 37,.sl S 0 K.length cp,aB (K.length:Int),aB k,g 41,g 42,g 43,g 44,g 45])/\hh.get (X+6)=some (.cells false (rc L.length λj=> aB (Ld G L K (k+1) 0 j:Nat)))/\Fx (· =X+6) h8 hh) ?_ ?_
  ·refine aI (λk' vs hh=> ∃(t:Nat),(∃g:Nat->V,vs= [g 0,g 1,.nilp,aB 0,g 4,g 5,.ptr (X+8) 0,g 7,g 8,g 9,g 10,g 11,g 12,g 13,g 14,g 15,g 16,g 17,g 18,aB k,g 20,g 21,g 22,g 23,g 24,g 25,g 26,g 27,g 28,g 29,g 30,g 31,g 32,g 33,g 34,g 35,g 36,g 37,.sl S 0 K.length cp,aB (K.length:Int),aB k,g 41,.sl idR offR (mR+1) capR,aB c,aB t,g 45])/\t<=c/\hh.get (X+6)=some (.cells false (rc L.length λj=> aB (Ld G L K k t j:Nat)))/\Fx (· =X+6) h8 hh/\k'=c-t) c
    ⟨0,aA rfl,lL _,gNb,Fb,rfl⟩ ?_
   clear gNb Fb gb ob cb3 nb ehb ga oa fa na eha rw9 gN9 F9 n9
   rintro k' vars hc' ⟨t,⟨g2,rfl⟩,ht,gNc,Fc,rfl⟩
   by_cases htl:(t:Int)<(c:Int)
   case neg=>
    have d5:decide ((t:Int)<(c:Int))=false:=decide_eq_false htl;obtain rfl:t=c:=by omega
    simp(disch:=omega)only[go_sem,d5];refine⟨aA rfl,?_,Fc⟩;rw[gNc,show (λj=>aB (Ld G L K k t j:Nat))=λj=>aB (Ld G L K (k+1) 0 j:Nat) from funext λj=>by rw[←IC,hr,hc]]
   have d5:decide ((t:Int)<(c:Int))=true:=decide_eq_true htl
   have ht':t<c:=by omega
   obtain⟨x,hx⟩:=exI ((iN G L r).getD t 0)
   have hxl:x<L.length:=by rw[←hx];exact (mK.1 (bB (by omega))).1
   have cR':hc'.cell idR (offR+t)=some (aB x):=by
    have e5:=e4 t ht';unfold H.cell at e5 ⊢;rw[Fc.get idR e3 hRN,e5,zi,nX _ (d:=0) (by omega),hx]
   have pt:=aZ (vs:=rc L.length λj=> aB (Ld G L K k t j:Nat)) (off:=x) (by rw[dG];exact hxl)
   have tl:(t:Int).toNat=t:=rfl
   simp(disch:=omega)only[go_sem,d5,cR',gBb hc' Fc,gNc,pt]
   rw[jJ t]
   refine⟨c-(t+1),by omega,t+1,aA rfl,by omega,?_,⟨Fc.next,λq h1 h2=>by rw[H.aH _ h2];exact Fc.get q h1 h2⟩,rfl⟩
   rw[iR,bH λj hj=>?_]
   rw[OB hG E pK hk' (by rw[hr];omega),hr,hx]
   by_cases ej:j=x
   ·rw[if_pos ej,if_pos ej]
   ·rw[if_neg ej,if_neg ej]
  rintro vars hd ⟨⟨g2,rfl⟩,gNd,Fd⟩
  simp(disch:=omega)only[go_sem]
  rw[jJ k]
  exact⟨K.length-(k+1),by omega,k+1,aA rfl,by omega,gNd,Fd,rfl⟩
 rintro vars h9 ⟨⟨g,rfl⟩,gN9,F9⟩
 have n9:=F9.next
 simp(disch:=omega)only[go_sem]
 have n2:=e.x2
 have o9: ∀q,q<D->q≠X+8->q≠X+6->h9.get q=h5.get q:=λq h1 h2 h3=>by
  rw[F9.get q (by have:=e.j.nx;omega) h3,F8.get q (by have:=e.j.nx;omega) (λh4=>by have:q=S:=h4;omega),e.j.old.get q (by rw[e.n5];exact h1) (λh4=>by rcases h4 with h4|h4;exact h2 h4;omega)]
 have nx:=e.j.nx
 have f29:Fr h2 h9:=⟨by omega,λq hq=>by rw[o9 q (by omega) (by omega) (by omega)];exact e.f25.get q hq⟩
 have F89:Fx WK h8 h9:=⟨F9.next,λq h1 h2=>F9.get q h1 λh3=>h2 (by have:q=X+6:=h3;rw[this];exact wN)⟩
 have hnd:K.Nodup:=pK.nodup_iff.2 (by classical exact (by unfold jK;exact List.Pairwise.filter _ List.nodup_range))
 have hlk:ks'.length=K.length:=by rw[←hK,rK]
 refine⟨.ptr (X+8) 0,K,rfl,⟨X+8,X+3,X+6,S,cp,vL,ks',rfl,by omega,by omega,by omega,by omega,?_,?_,?_,?_,?_,e.sp.mono f29⟩,⟨pK,?_⟩,e.f2.trans f29⟩
 ·rw[F9.get _ (by omega) (by omega)];exact gB8
 ·rw[o9 _ (by omega) (by omega) (by omega)];exact e.gM
 ·rw[gN9,bH λj hj=>by rw[NO hG E pK hj]]
 ·rw[F9.get _ (by omega) (by omega)];exact gS8
 ·refine cF.mZ hlk λi h1 h2=>?_
  obtain⟨a,ea,ko⟩:=hKk i h2
  have ea':ks'[i]=a:=by rw[iD h1] at ea;simpa using ea
  have k9:=ko.go F89 (by omega) wX λ_ _ h1=>h1
  rw[Pm.cT h2] at k9
  rw[ea']
  exact⟨k9.fst,k9.ord,k9.size,k9.rep.si,k9.ranks.si⟩
 ·have h1:ks'.Pairwise λa b=>a.fst≠b.fst:=by
   have:=hnd;rw[←hK] at this;exact List.pairwise_map.1 this
  rw[←hK,List.pairwise_map];refine List.Pairwise.imp_of_mem ?_ (List.Pairwise.and srt h1);rintro a b ha hb ⟨h2,h3⟩;have ka:=kK a ha;have kb:=kK b hb;have h4: ¬(b.lt a=true):=by rw[h2];simp
  rw[Cls.KE.lt_iff] at h4;unfold WJ;rw[←ka.ord,←kb.ord,←ka.size,←kb.size];omega
theorem EU {n:Nat}{G:List Nat->Prop}{L:LN}{r s:Nat}(a:WJ n G L r s)(b:WJ n G L s r):False:=by
 unfold WJ at a b;omega
theorem Dh.uniq {n:Nat}{G:List Nat->Prop}{L:LN}{K K':List Nat}(a:Dh n G L K)(b:Dh n G L K'):K=K':=
 (a.perm.trans b.perm.symm).eq_of_pairwise (λ_ _ _ _ h1 h2=>(EU h1 h2).elim) a.asc b.asc
noncomputable def yO (G:List Nat->Prop)(L:LN)(K:List Nat):List Nat:=(List.range L.length).map (fS G L K)
theorem TU (G:List Nat->Prop)(L:LN)(K:List Nat):(rc L.length λj=>aB (fS G L K j:Nat))=ints (zi (yO G L K)):=by
 refine Jn (by rw[aN,aT];simp [yO]) λi hi=>?_
 rw[Al (by simpa [yO] using hi)];have:(yO G L K).getD i 0=fS G L K i:=by simp [yO,hi]
 rw[this]
theorem YF {W0:Nat->Prop}(vc:V)(n:Nat)(O:LN)(R:pF)(G:List Nat->Prop)(h:H)(gc:GC W0 h vc n O R G)(L:LN)(hL:dC O R n 0 (bI n)=L):
  Ev T 21 [vc] h (λv h'=> ∃vl K,v= .tup [vl,aB 0]/\Dh n G L K/\SI h' vl (zi (yO G L K))/\Fr h h'):=by
 obtain⟨vO,vR,e,sO,sR⟩:=gc.ch
 subst e
 refine bN tW rfl rfl ?_
 have oneO:vO.one=true:=PS sO
 have oneR:vR.one=true:=PO sR
 obtain⟨A,hA⟩:=exI h.next
 obtain⟨h1,e1,n1,g1,o1,f1⟩:=iX hA [aB n,vO,vR]
 have bx:=fG h (v:= aB n) (u:=vO) (w:=vR) rfl oneO oneR
 have rB:=bZ g1
 simp(disch:=omega)only[go_sem,tW,aE,bx,hA,e1,rB]
 refine (JV _ n O R G h1 (gc.mono f1)).mono ?_
 rw[hL]
 rintro _ h2 ⟨p,K,rfl,go,ik,f2⟩
 obtain⟨B,M,N,S,cp,vL,ks,rfl,hB,hM,hN,hS,gB,gM,gN,gS,a,sp⟩:=go.ex
 have c3:h2.cell B 3=some (.sl N 0 L.length (.kn L.length)):=by rw[H.aF gB];rfl
 simp(disch:=omega)only[go_sem]
 refine aY (λhc=>(hc rfl).elim) (λ_=>?_)
 simp(disch:=omega)only[go_sem,c3]
 rw[TU] at gN
 exact⟨_,K,rfl,ik,SV.all (by rw[aN,aT];simp [yO]) hN gN _,f1.trans f2⟩
def qT (ks:List Cls.KE):List V:=ks.flatMap λa=> [a.rep,aB (a.ord:Int),aB (a.size:Int)]
theorem zA (ks:List Cls.KE):(qT ks).length=ks.length*3:=by
 induction ks with
 |nil=>rfl
 |cons a r ih=>
  show ([a.rep,aB (a.ord:Int),aB (a.size:Int)]++qT r).length=_;rw[oF,ih];show 3+r.length*3=(r.length+1)*3;omega
theorem SX {h:H}{Y:Nat}{ro:Bool}{a:Cls.KE}(g:h.get Y=some (.cells ro a.enc)):h.row Y 0 3=some [a.rep,aB (a.ord:Int),aB (a.size:Int)]:=by
 simp [H.row,g,sub,Cls.KE.enc]
theorem CR {v:V}(ho:v.one=true)(x y:Int)(h:H):tC h 3 [.aC,aB 0,aB 0] 1 [(0,3,.agg [v,aB x,aB y])]=some (.sl h.next 0 1 (.kn 1),h.new (.cells false [v,aB x,aB y])):=by
 have e:dW [V.aC,aB 0,aB 0] 3= [V.aC,aB 0,aB 0]:=rfl;simp [tC,jL,putAt,e,ho,show ∀l,(V.agg l).cells=l from λ_=>rfl,show ∀z,(aB z).one=true from λ_=>rfl]
theorem Tz {W0:Nat->Prop}(vc:V)(n:Nat)(O:LN)(R:pF)(G:List Nat->Prop)(h:H)(gc:GC W0 h vc n O R G)(L:LN)(hL:dC O R n 0 (bI n)=L):
  Ev T 20 [vc] h (λv h'=> ∃vl K ks,v= .tup [vl,aB 0]/\Dh n G L K/\SV h' vl 3 (qT ks)/\cF (KR n G L h') ks K/\Fr h h'):=by
 obtain⟨vO,vR,e,sO,sR⟩:=gc.ch
 subst e
 refine bN rS rfl rfl ?_
 have oneO:vO.one=true:=PS sO
 have oneR:vR.one=true:=PO sR
 obtain⟨A,hA⟩:=exI h.next
 obtain⟨h1,e1,n1,g1,o1,f1⟩:=iX hA [aB n,vO,vR]
 have bx:=fG h (v:= aB n) (u:=vO) (w:=vR) rfl oneO oneR
 have rB:=bZ g1
 simp(disch:=omega)only[go_sem,rS,aE,bx,hA,e1,rB]
 refine (JV _ n O R G h1 (gc.mono f1)).mono ?_
 rw[hL]
 rintro _ h2 ⟨p,K,rfl,go,ik,f2⟩
 obtain⟨B,M,N,S,cp,vL,ks,rfl,hB,hM,hN,hS,gB,gM,gN,gS,aK,sp⟩:=go.ex
 have c2:h2.cell B 2=some (.sl S 0 K.length cp):=by rw[H.aF gB];rfl
 have hlk:=cF.length aK
 have hKle:K.length<=5040:=by
  have h1:=ik.perm.length_eq;have h2:=rG (G:=G) (L:=L) L.length;have h3:=mN gc;have h4:=(iT gc.nC gc.isc).2;rw[hL] at h4;omega
 simp(disch:=omega)only[go_sem]
 refine aY (λhc=>(hc rfl).elim) (λ_=>?_)
 simp(disch:=omega)only[go_sem,c2]
 refine cI (λvs hh=> ∃v6,(∃g:Nat->V,vs= [g 0,g 1,g 2,g 3,g 4,g 5,v6,g 7,g 8,g 9,g 10,g 11,g 12])/\SV hh v6 3 (qT ks)/\Fr h2 hh) ?_ ?_
 ·refine aI (λk' vs hh=> ∃(k:Nat) (v6:V),(∃g:Nat->V,vs= [g 0,g 1,g 2,g 3,.ptr B 0,g 5,v6,g 7,g 8,.sl S 0 K.length cp,aB (K.length:Int),aB k,g 12])/\k<=K.length/\eZ hh v6 3 (qT (ks.take k)) h2.next/\Fr h2 hh/\k'=K.length-k) K.length
   ⟨0,.aC,aA rfl,lL _,eZ.aC _ _ _,Fr.refl _,rfl⟩ ?_
  rintro k' vars h9 ⟨k,v6,⟨g,rfl⟩,hk,ow,F9,rfl⟩
  by_cases hlt:(k:Int)<(K.length:Int)
  case neg=>
   have d4:=iZ hlt;obtain rfl:k=K.length:=by omega
   simp(disch:=omega)only[go_sem,d4];rw[List.take_of_length_le (by omega)] at ow;exact⟨v6,aA rfl,ow.sv,F9⟩
  have d4:=mL hlt
  have hk':k<K.length:=by omega
  have hkl:k<ks.length:=by omega
  obtain⟨a,ea⟩:=exI (ks[k])
  have gS9:h9.get S=cG (Cls.oI ks):=by rw[F9.get _ hS];exact gS
  have rw9:h9.row S (k*4) 4=some a.enc:=by
   have:=yW (pre:= []) (by simpa using gS9) hkl;rw[ea] at this;simpa using this
  obtain⟨Y,hY⟩:=exI h9.next
  obtain⟨ha,eha,na,ga,oa,fa⟩:=iX hY [.aC,aB 0,aB 0,.aC]
  obtain⟨hb,ehb,nb,gb,ob⟩:=Fq ha Y a.enc
  obtain⟨Z,hZ⟩:=exI hb.next
  obtain⟨hc',ehc,nc,gc',oc,fc⟩:=iX hZ [a.rep,aB (a.ord:Int),aB (a.size:Int)]
  have F9c:Fr h9 hc':=⟨by omega,λq hq=>by rw[oc q (by omega),ob q (by omega),oa q (by omega)]⟩
  have owc:eZ hc' v6 3 (qT (ks.take k)) h2.next:=ow.fr F9c
  obtain⟨hd,ad,pd⟩:=owc.push (bytes:=40) (y:= .sl Z 0 1 (.kn 1)) (us:= [a.rep,aB (a.ord:Int),aB (a.size:Int)]) (SV.all rfl (by omega) gc' _) (n:=k) (m:=1) (by rw[zA,Ky];omega) rfl (by omega) (by omega) (by omega)
  simp(disch:=omega)only[go_sem,d4,rw9,hY,eha,Wy,ga,Wb,ehb,SX gb,CR a.hrep.2.1,hZ,ehc,ad]
  rw[jJ k]
  have el:qT (ks.take (k+1))=qT (ks.take k)++ [a.rep,aB (a.ord:Int),aB (a.size:Int)]:=by
   rw[List.take_succ_eq_append_getElem hkl,ea];simp [qT]
  have n9:=F9.next
  have nd:=pd.next
  have F9d:Fr h2 hd:=⟨by omega,λq hq=>by rw[pd.old q (by omega) (λid off n' c e e2=>by have:=(ow.in _ _ _ _ e).2.1;omega),F9c.get q (by omega)];exact F9.get q hq⟩
  exact⟨K.length-(k+1),by omega,k+1,_,aA rfl,by omega,by rw[el];exact pd.own (by rw[zA,Ky];omega) rfl (by omega),F9d,rfl⟩
 rintro vars h9 ⟨v6,⟨g,rfl⟩,sv,F9⟩
 simp(disch:=omega)only[go_sem]
 exact⟨v6,K,ks,rfl,ik,sv,aK.mono λ_ _ k=>k.mono F9,(f1.trans f2).trans F9⟩
set_option maxRecDepth 100000
set_option maxRecDepth 100000
theorem Tb {n:Nat}{a:List Nat}(A:bF n a)(hn:n<=7):fN a n∣420:=by
 unfold fN;rw[De];intro c hc;obtain⟨l,hl,rfl⟩:=xB.1 hc;obtain⟨i,hi,rfl⟩:=xB.1 hl;have hin:i<n:=by unfold Lc at hi;exact Kw.1 (MZ.1 hi).1
 rw[yZ];have h1:=(nL A hin).1;have h2:=Yt A hin;have: ∀k,k<8->0<k->k∣420:=by decide
 exact this _ (by omega) h1
theorem OO {n:Nat}{G:List Nat->Prop}{L:LN}{K:List Nat}{h:H}{p:V}(go:HD n G L K h p)(hG:sZ n G)(E:fL G L)(n7:n<=7)(hLl:L.length<1000000)(vx:V){i:Nat}(hi:i<L.length)(hx:SI h vx (zi (L.getD i []))):
  Ev T 66 [p,vx] h (λv h'=>v= aB (fS G L K i:Nat)/\Fr h h'):=by
 obtain⟨B,M,N,S,cp,vL,ks,rfl,hB,hM,hN,hS,gB,gM,gN,gS,aK,sp⟩:=go.ex
 refine bN lH rfl rfl ?_
 have Y:=kP hG E hi
 have hy1:(L.getD i []).length<=1000:=by rw[Y.len];omega
 have hy2: ∀z∈L.getD i [],z<256:=λz hz=>by have:=Y.lt z hz;omega
 have hK:=Im hy1 hy2
 have cB1:h.cell B 1=some (.mp M):=by rw[H.aF gB];rfl
 have cB3:h.cell B 3=some (.sl N 0 L.length (.kn L.length)):=by rw[H.aF gB];rfl
 simp(disch:=omega)only[go_sem,lH,aE,cB1,cB3]
 refine (Pf vx _ _ hy1 hy2 (hx.mono ((Fr.refl h).bJ (by omega)))).mono ?_
 rintro _ h4 ⟨rfl,f4'⟩
 have f4:Fr h h4:=((Fr.refl h).bJ (by omega)).trans f4'
 have cB41:h4.cell B 1=some (.mp M):=by rw[f4.cell (by omega)];exact cB1
 have cB43:h4.cell B 3=some (.sl N 0 L.length (.kn L.length)):=by rw[f4.cell (by omega)];exact cB3
 have gM4:h4.get M=some (.wmap .str (Re L L.length)):=by rw[f4.get _ hM];exact gM
 have lk:=λz=>Ua E.nodup hi hK z
 have cN:h4.cell N i=some (aB (fS G L K i:Nat)):=by rw[f4.cell hN];exact wV gN hi
 simp(disch:=omega)only[go_sem,cB41,cB43,gM4,lk,cN]
 exact⟨by simp [eH],f4⟩
theorem Bz {n:Nat}{G:List Nat->Prop}{L:LN}{K:List Nat}(hG:sZ n G)(E:fL G L)(pK:K.Perm (jK G L L.length)){k:Nat}(hk:k<K.length){j:Nat}(hj:j<L.length):fS G L K j=k↔cR G L (K.getD k 0) j:=by
 constructor
 ·intro h
  obtain⟨k2,h1,h2⟩:=En hG E pK hj;have h3:=Gn hG E pK h1 h2;obtain rfl:k2=k:=by omega
  exact (mK.1 h2).2
 ·intro h
  exact Gn hG E pK hk (mK.2 ⟨hj,h⟩)
theorem AS (e:Nat)(he:e<9223372036854775808):arith .and .i64 (e:Int) 1=some (aB (e%2:Nat)):=by
 rw[Ll];congr 2;show IntKind.i64.wrap (((BitVec.ofInt 64 (e:Int)&&&BitVec.ofInt 64 (1:Int)).toNat:Nat):Int)=_;have h1:(BitVec.ofInt 64 (e:Int)).toNat=e:=by simp [BitVec.toNat_ofInt];omega
 have h2:(BitVec.ofInt 64 (1:Int)).toNat=1:=rfl;rw[BitVec.toNat_and,h1,h2,Nat.and_one_is_mod];exact AO (by omega) (by omega)
theorem Zf (e:Nat):Aj .shr .i64 (e:Int) 1=some (aB (e/2:Nat)):=by
 unfold Aj;rw[if_neg (by omega)];simp only;congr 2;show Int.fdiv (e:Int) 2=_;rw[Int.fdiv_eq_ediv_of_nonneg _ (by omega)];rfl
theorem KT {n:Nat}{a:List Nat}(A:bF n a): ∀k,pw n (aU a a) k=pw n a (2*k)
 |0=>rfl
 |k+1=>by
  show aU (pw n (aU a a) k) (aU a a)=pw n a (2*k+2);rw[KT A k,←aW (jR A _) A A];rfl
theorem Gl {n:Nat}{a:List Nat}(A:bF n a):pw n a 1=a:=fF A
theorem NQ (u w:V)(n e:Nat)(a:List Nat)(h:H)(hn:n<=1000)(he:e<1000000)(A:bF n a)(hu:SI h u (zi a))(hw:SI h w (zi (bI n))):
  Ev T 67 [u,w,aB e] h (λv h'=>SI h' v (zi (pw n a e))/\Fr h h'):=by
 refine bN fR rfl rfl ?_
 simp(disch:=omega)only[go_sem,fR,aE]
 refine aI (λk' vs hh=> ∃(e':Nat) (vx va:V) (x b:List Nat),(∃g:Nat->V,vs= [vx,va,aB (e':Int),g 3,g 4,g 5])/\e'<1000000/\bF n x/\bF n b/\SI hh vx (zi x)/\SI hh va (zi b)/\aU b (pw n x e')=pw n a e/\Fr h hh/\k'=e') e
  ⟨e,u,w,a,bI n,aA rfl,he,A,bF.one n,hu,hw,fF (jR A e),Fr.refl h,rfl⟩ ?_
 rintro k' vars h1 ⟨e',vx,va,x,b,⟨g,rfl⟩,hl,X,B,sx,sb,heq,F,hk⟩
 subst hk
 by_cases hlt:(0:Int)<(k':Int)
 case neg=>
  have d1:=iZ hlt;obtain rfl:k'=0:=by omega
  simp(disch:=omega)only[go_sem,d1];have h2:aU b (bI n)=pw n a e:=heq;rw[bU B] at h2;rw[←h2];exact⟨sb,F⟩
 have d1:=mL hlt
 have hpx: ∀k,aU x (pw n x k)=pw n x (k+1):=λk=>by
  have h2:=Hs X 1 k;rw[Gl X] at h2;rw[←h2,Nat.add_comm]
 have sq:=KT X (k'/2)
 rcases Nat.mod_two_eq_zero_or_one k' with hm|hm
 ·have d2:decide (((0:Nat):Int)=1)=false:=rfl
  have an:=AS k' (by omega)
  rw[hm] at an
  simp(disch:=omega)only[go_sem,d1,an,d2]
  refine (yJ vx vx x x h1 (by rw[X.len];omega) sx sx (λj hj=>by rw[X.len];exact X.eY (by rw[←X.len];exact hj))).mono ?_
  rintro v1 h2 np
  simp(disch:=omega)only[go_sem,Da,yA,Zf]
  refine⟨k'/2,by omega,k'/2,v1,va,aU x x,b,aA rfl,by omega,X.mul X,B,(np.pv (W:=λ_=>False) id).si,sb.mono np.fr,?_,F.trans np.fr,rfl⟩
  rw[sq,show 2*(k'/2)=k' by omega];exact heq
 ·have d2:decide (((1:Nat):Int)=1)=true:=rfl
  have an:=AS k' (by omega)
  rw[hm] at an
  simp(disch:=omega)only[go_sem,d1,an,d2]
  refine (yJ va vx b x h1 (by rw[B.len];omega) sb sx (λj hj=>by rw[X.len];exact B.eY (by rw[←B.len];exact hj))).mono ?_
  rintro v0 h2 np0
  simp(disch:=omega)only[go_sem]
  refine (yJ vx vx x x h2 (by rw[X.len];omega) (sx.mono np0.fr) (sx.mono np0.fr) (λj hj=>by rw[X.len];exact X.eY (by rw[←X.len];exact hj))).mono ?_
  rintro v1 h3 np
  simp(disch:=omega)only[go_sem,Da,yA,Zf]
  refine⟨k'/2,by omega,k'/2,v1,v0,aU x x,aU b x,aA rfl,by omega,X.mul X,B.mul X,(np.pv (W:=λ_=>False) id).si,((np0.pv (W:=λ_=>False) id).si).mono np.fr,?_,(F.trans np0.fr).trans np.fr,rfl⟩
  rw[sq,aW B X (jR X _),hpx,show 2*(k'/2)+1=k' by omega];exact heq
theorem Db {n:Nat}{G:List Nat->Prop}{L:LN}(hG:sZ n G)(E:fL G L):0<L.length/\L.getD 0 []=bI n:=by
 have hm:=(E.mem _).2 hG.one;have h0:=List.length_pos_of_mem hm;refine⟨h0,?_⟩;obtain⟨i,hi,ei⟩:=Ge.1 hm;have e0:L.getD 0 []=L[0]:=by rw[List.getD,iD h0];rfl
 by_cases h:i=0
 ·subst h;rw[e0,ei]
 ·have h1:=List.pairwise_iff_getElem.1 E.asc 0 i h0 hi (by omega)
  rw[ei] at h1;have X:=kP hG E h0;rw[e0] at X;rcases one_le X with h2|h2
  ·rw[e0,←h2]
  ·exact (h1.asymm h2).elim
noncomputable def Qq (n:Nat)(G:List Nat->Prop)(L:LN)(K:List Nat)(z:Int)(r:Nat):Nat:=fS G L K (L.idxOf (pw n (L.getD r []) (z%(fN (L.getD r []) n:Nat)).toNat))
theorem FV (z:Int)(o:Nat)(ho:0<o):(z.tmod (o:Int)+(o:Int)).tmod (o:Int)=(((z%(o:Int)).toNat:Nat):Int):=by
 have h1:=Int.tmod_lt_of_pos z (show (0:Int)<o by omega);have h2:=Int.lt_tmod_of_pos z (show (0:Int)<o by omega);rw[Int.tmod_eq_emod_of_nonneg (by omega),Int.toNat_of_nonneg (Int.emod_nonneg _ (by omega)),Int.add_emod_right]
 conv=>rhs;rw[←Int.mul_tdiv_add_tmod z o,Int.add_comm,Int.add_mul_emod_self_left]
theorem UW {W0:Nat->Prop}(vc:V)(z:Int)(n:Nat)(O:LN)(R:pF)(G:List Nat->Prop)(h:H)(gc:GC W0 h vc n O R G)(L:LN)(hz: -9223372036854775808<=z/\z<9223372036854775808)(hL:dC O R n 0 (bI n)=L):
  Ev T 37 [vc,aB z] h (λv h'=> ∃K vl,Dh n G L K/\v= .tup [vl,aB 0]/\SV h' vl 1 (rc K.length λk=> aB (Qq n G L K z (K.getD k 0):Nat))/\Fr h h'):=by
 obtain⟨vO,vR,e,sO,sR⟩:=gc.ch
 subst e
 refine bN oX rfl rfl ?_
 have oneO:vO.one=true:=PS sO
 have oneR:vR.one=true:=PO sR
 obtain⟨A,hA⟩:=exI h.next
 obtain⟨h1,e1,n1,g1,o1,f1⟩:=iX hA [aB n,vO,vR]
 have bx:=fG h (v:= aB n) (u:=vO) (w:=vR) rfl oneO oneR
 have rB:=bZ g1
 simp(disch:=omega)only[go_sem,oX,aE,bx,hA,e1,rB]
 refine (JV _ n O R G h1 (gc.mono f1)).mono ?_
 rw[hL]
 rintro _ h2 ⟨p,K,rfl,go,ik,f2⟩
 obtain⟨B,M,N,S,cp,vL,ks,rfl,hB,hM,hN,hS,gB,gM,gN,gS,aK,sp⟩:=go.ex
 have c2:h2.cell B 2=some (.sl S 0 K.length cp):=by rw[H.aF gB];rfl
 have hlk:=cF.length aK
 have E:=(iT gc.nC gc.isc).1
 have h4l:=(iT gc.nC gc.isc).2
 have h5l:=mN gc
 rw[hL] at E h4l
 have hG:=gc.nC
 have n7:=gc.n7
 have hKle:K.length<=5040:=by
  have h1:=ik.perm.length_eq;have h2:=rG (G:=G) (L:=L) L.length;omega
 obtain⟨D,hD⟩:=exI h2.next
 obtain⟨h3,e3,n3,g3,o3,f3⟩:=iX hD (rc K.length λ_=>aB 0)
 have cB3:h3.cell B 2=some (.sl S 0 K.length cp):=by rw[f3.cell hB];exact c2
 simp(disch:=omega)only[go_sem]
 refine aY (λhc=>(hc rfl).elim) (λ_=>?_)
 simp(disch:=omega)only[go_sem,c2,lQ _ K.length (by omega),hD,e3,cB3]
 refine cI (λvs hh=>(∃g:Nat->V,vs= [g 0,g 1,g 2,g 3,g 4,g 5,g 6,.sl D 0 K.length (.kn K.length),g 8,g 9,g 10,g 11,g 12,g 13,g 14,g 15])/\hh.get D=some (.cells false (rc K.length λk=> aB (Qq n G L K z (K.getD k 0):Nat)))/\D<hh.next/\Fr h2 hh) ?_ ?_
 ·refine aI (λk' vs hh=> ∃(k:Nat),(∃g:Nat->V,vs= [g 0,aB z,g 2,g 3,g 4,.ptr B 0,g 6,.sl D 0 K.length (.kn K.length),g 8,g 9,g 10,g 11,.sl S 0 K.length cp,aB (K.length:Int),aB k,g 15])/\k<=K.length/\hh.get D=some (.cells false (rc K.length λj=> aB (if j<k then ((Qq n G L K z (K.getD j 0):Nat):Int) else 0)))/\D<hh.next/\Fr h2 hh/\k'=K.length-k) K.length
   ⟨0,aA rfl,lL _,by rw[g3];rfl,by omega,f3,rfl⟩ ?_
  rintro k' vars h9 ⟨k,⟨g,rfl⟩,hk,gD,nD,F9,rfl⟩
  by_cases hlt:(k:Int)<(K.length:Int)
  case neg=>
   have d4:=iZ hlt;obtain rfl:k=K.length:=by omega
   simp(disch:=omega)only[go_sem,d4];refine⟨aA rfl,?_,nD,F9⟩;rw[gD,bH λj hj=>by rw[if_pos hj]]
  have d4:=mL hlt
  have hk':k<K.length:=by omega
  have hkl:k<ks.length:=by omega
  obtain⟨a,ea⟩:=exI (ks[k])
  have ka:=cF.get aK k hkl hk'
  rw[ea,←Pm.cT hk'] at ka
  obtain⟨r,hr⟩:=exI (K.getD k 0)
  rw[hr] at ka
  have hrK:r∈jK G L L.length:=by rw[←hr];exact ik.perm.mem_iff.1 (bB hk')
  have hrl:=(oT.1 hrK).1
  have gS9:h9.get S=some (.cells false (Cls.oI ks)):=by rw[F9.get _ hS];exact gS
  have rw9:h9.row S (k*4) 4=some a.enc:=by
   have:=yW (pre:= []) (by simpa using gS9) hkl;rw[ea] at this;simpa using this
  obtain⟨Y,hY⟩:=exI h9.next
  obtain⟨ha,eha,na,ga,oa,fa⟩:=iX hY [.aC,aB 0,aB 0,.aC]
  obtain⟨hb,ehb,nb,gb,ob⟩:=Fq ha Y a.enc
  have cb0:hb.cell Y 0=some a.rep:=by rw[H.aF gb];rfl
  have F9b:Fr h9 hb:=⟨by omega,λq hq=>by rw[ob q (by omega),oa q (by omega)]⟩
  have Fb:=F9.trans F9b
  have R1:=kP hG E hrl
  have cb1:hb.cell Y 1=some (aB (a.ord:Int)):=by rw[H.aF gb];rfl
  obtain⟨o,ho⟩:=exI (fN (L.getD r []) n)
  rw[ka.ord,ho] at cb1
  have o0:0<o:=by rw[←ho];exact rY R1
  have o1':o<=823543:=by rw[←ho];exact Nat.le_trans (Nz R1) (Dp n7)
  have hoz:(o:Int)≠0:=by omega
  have t1:=Int.tmod_lt_of_pos z (show (0:Int)<o by omega)
  have t2:=Int.lt_tmod_of_pos z (show (0:Int)<o by omega)
  have t3:=FV z o o0
  obtain⟨x,hx⟩:=exI ((z%(o:Int)).toNat)
  rw[hx] at t3
  have hxo:x<o:=by
   have:=Int.emod_lt_of_pos z (show (0:Int)<o by omega);have:=Int.emod_nonneg z hoz;omega
  obtain⟨l0,l1⟩:=Db hG E
  obtain⟨wL,svL,aL⟩:=sp
  have hwL:=cF.length aL
  rw[rK] at hwL
  obtain⟨idL,offL,shL,hidL,hcL⟩:=SV.shape svL L.length (by omega) (by omega)
  have se:=Mu aL l0
  rw[l1] at se
  have cl: ∀h',Fr h2 h'->h'.cell idL offL=some (wL.getD 0 .undef):=λh' f=>by
   have:=hcL 0 (by omega);rw[Nat.add_zero] at this;rw[f.cell (hidL (by omega)),this];simp [List.getD,show 0<wL.length by omega]
  generalize hv:wL.getD 0 .undef=ve at cl se
  have ix0:Nx 1 vL (aB 0)=some (.ptr idL (offL+0)):=shL.ixa .i64 0 (by omega) (by omega)
  rw[Nat.add_zero] at ix0
  have cB0: ∀h',Fr h2 h'->h'.cell B 0=some vL:=λh' f=>by rw[f.cell hB,H.aF gB];rfl
  simp(disch:=omega)only[go_sem,d4,rw9,hY,eha,Wy,ga,Wb,ehb,cb0,cb1,hoz,t3,cB0 hb Fb,ix0,cl hb Fb]
  refine (NQ a.rep ve n x (L.getD r []) _ (by omega) (by omega) R1 (ka.rep.mono (Fb.trans ((Fr.refl hb).bJ (by omega)))) (se.mono (Fb.trans ((Fr.refl hb).bJ (by omega))))).mono ?_
  rintro v1 hc' ⟨s1,fc'⟩
  have Fbc:Fr hb hc':=((Fr.refl hb).bJ (by omega)).trans fc'
  have Fc:=Fb.trans Fbc
  have hP:G (pw n (L.getD r []) x):=by
   have: ∀y,G (pw n (L.getD r []) y):=λy=>by
    induction y with
    |zero=>exact hG.one
    |succ y ih=>exact hG.mul ih (vN E hrl)
   exact this x
  have hjm:=(E.mem _).2 hP
  obtain⟨j,hj⟩:=exI (L.idxOf (pw n (L.getD r []) x))
  have hjl:j<L.length:=by rw[←hj];exact List.idxOf_lt_length_of_mem hjm
  have ej:L.getD j []=pw n (L.getD r []) x:=by
   rw[List.getD,iD hjl];subst hj;exact List.getElem_idxOf hjl
  rw[←ej] at s1
  simp(disch:=omega)only[go_sem]
  refine (OO (go.mono Fc) hG E n7 (by omega) v1 hjl s1).mono ?_
  rintro _ hd ⟨rfl,fd⟩
  have Fd:=Fc.trans fd
  have Fbd:=Fbc.trans fd
  have F9d:=F9b.trans Fbd
  have gDd:hd.get D=some (.cells false (rc K.length λj=> aB (if j<k then ((Qq n G L K z (K.getD j 0):Nat):Int) else 0))):=by rw[F9d.get D nD];exact gD
  have er:Qq n G L K z r=fS G L K j:=by unfold Qq;rw[ho,hx,hj]
  have cd0:hd.cell Y 0=some a.rep:=by rw[Fbd.cell (by omega)];exact cb0
  have eve:=se.eH
  have evr:=ka.rep.eH
  have evL:=svL.eH
  have pt:=aZ (vs:=rc K.length λj=> aB (if j<k then ((Qq n G L K z (K.getD j 0):Nat):Int) else 0)) (off:=k) (by rw[dG];exact hk')
  simp(disch:=omega)only[go_sem,cd0,cl hd Fd,cB0 hd Fd,eve,evr,evL,gDd,pt]
  rw[jJ k]
  have n9d:=F9d.next
  refine⟨K.length-(k+1),by omega,k+1,aA rfl,by omega,?_,by show D<hd.next;omega,Fd.set (by omega) _,rfl⟩
  rw[iR,bH λx hx=>?_]
  by_cases ex:x=k
  ·rw[if_pos ex,if_pos (by omega),ex,hr,er]
  ·rw[if_neg ex]
   by_cases e2:x<k
   ·rw[if_pos e2,if_pos (by omega)]
   ·rw[if_neg e2,if_neg (by omega)]
 rintro vars h9 ⟨⟨g,rfl⟩,gD,nD,F9⟩
 simp(disch:=omega)only[go_sem]
 exact⟨K,_,ik,rfl,SV.all (by rw[dG,Nat.mul_one]) nD gD _,(f1.trans f2).trans F9⟩
section
variable {n:Nat} {G:List Nat->Prop} {L:LN} (hG:sZ n G) (E:fL G L)
include hG E in
end
set_option maxRecDepth 100000
set_option maxRecDepth 100000
structure Plc (l:LN)(x:List Nat)(k:Nat):Prop where
 le:k<=l.length
 lo: ∀i,i<k->sH (l.getD i []) x=true
 hi: ∀i,k<=i->i<l.length->sH (l.getD i []) x=false
theorem HU (vl vx:V)(n:Nat)(l:LN)(x:List Nat)(h:H)(hn:n<1000)(hl:l.length<1000000)(hP: ∀g∈l,bF n g)(X:bF n x)(asc:l.Pairwise Lt)(hv:SP h vl l)(hx:SI h vx (zi x)):
  Ev T 54 [vl,vx] h (λv h'=> ∃k:Nat,v= .tup [aB k,.bool (decide (x∈l))]/\Plc l x k/\(x∈l->k<l.length/\l.getD k []=x)/\Fr h h'):=by
 obtain⟨ws,sv,al⟩:=hv
 have hws:=cF.length al
 rw[rK] at hws
 refine bN yC rfl rfl ?_
 have lv:dN vl=some (aB (l.length:Int)):=by unfold dN;rw[SV.len sv (n:=l.length) (by omega) (by omega)];rfl
 obtain⟨id,off,sh,hid,hc⟩:=SV.shape sv l.length (by omega) (by omega)
 have hlen: ∀i,i<l.length->(l.getD i []).length=n:=λi hi=>(hP _ (bB hi)).len
 have mono: ∀i j,i<j->j<l.length->Lt (l.getD i []) (l.getD j []):=λi j h1 h2=>by
  have ei:l.getD i []=l[i]:=by rw[List.getD,iD (by omega)];rfl
  have ej:l.getD j []=l[j]:=by rw[List.getD,iD h2];rfl
  rw[ei,ej];exact List.pairwise_iff_getElem.1 asc i j (by omega) h2 h1
 have cell: ∀hh,Fr h hh-> ∀i,i<l.length->hh.cell id (off+i)=some (ws.getD i .undef):=λhh f i hi=>by
  rw[f.cell (hid (by omega)),hc i (by omega)];simp [List.getD,show i<ws.length by omega]
 simp(disch:=omega)only[go_sem,yC,aE,lv]
 refine cI (λvs hh=> ∃k,(∃g:Nat->V,vs= [vl,vx,g 2,g 3,aB (k:Nat),g 5,g 6,g 7,g 8])/\Plc l x k/\Fr h hh) ?_ ?_
 ·refine aI (λk' vars hh=> ∃(i j:Nat),(∃g:Nat->V,vars= [vl,vx,g 2,g 3,aB i,aB j,g 6,g 7,g 8])/\i<=j/\j<=l.length/\(∀q,q<i->sH (l.getD q []) x=true)/\(∀q,j<=q->q<l.length->sH (l.getD q []) x=false)/\Fr h hh/\k'=j-i) l.length
   ⟨0,l.length,aA rfl,by omega,by omega,λm hm=>by omega,λm h1 h2=>by omega,Fr.refl h,rfl⟩ ?_
  rintro k' vars hh ⟨i,j,⟨g,rfl⟩,hij,hj,hlo,hhi,F,rfl⟩
  by_cases hlt:(i:Int)<(j:Int)
  case neg=>
   have e1:=iZ hlt;obtain rfl:i=j:=by omega
   simp(disch:=omega)only[go_sem,e1];exact⟨i,aA rfl,⟨hj,hlo,hhi⟩,F⟩
  have e1:=mL hlt
  obtain⟨m,hm⟩:=exI ((i+j)/2)
  have ea:(i:Int)+(j:Int)=((i+j:Nat):Int):=by omega
  have ed:((i+j:Nat):Int).tdiv 2=(m:Int):=by rw[Int.tdiv_eq_ediv_of_nonneg (by omega)];omega
  have cm:=cell hh F m (by omega)
  have sm:=Mu al (i:=m) (by omega)
  generalize ws.getD m .undef=vm at cm sm
  simp(disch:=omega)only[go_sem,e1,ea,ed,sh.ixa,cm]
  refine (QB vm vx n _ x hh (by omega) (hlen m (by omega)) X.len (sm.mono F) (hx.mono F)).mono ?_
  rintro _ h3 ⟨rfl,f3⟩
  cases hl2:sH (l.getD m []) x with
  |true=>
   simp(disch:=omega)only[go_sem];rw[jJ m];refine⟨j-(m+1),by omega,m+1,j,aA rfl,by omega,hj,λq hq=>?_,hhi,F.trans f3,rfl⟩
   by_cases e:q=m
   ·rw[e];exact hl2
   ·have h1:=mono q m (by omega) (by omega)
    have h2:=(nG (by rw[hlen m (by omega),X.len])).1 hl2;exact (nG (by rw[hlen q (by omega),X.len])).2 (Lt.trans (by rw[hlen q (by omega),hlen m (by omega)]) h1 h2)
  |false=>
   simp(disch:=omega)only[go_sem];refine⟨m-i,by omega,i,m,aA rfl,by omega,by omega,hlo,λq h1 h2=>?_,F.trans f3,rfl⟩
   by_cases e:q=m
   ·rw[e];exact hl2
   ·rw[←Bool.not_eq_true]
    intro h3;have h4:=mono m q (by omega) h2;have h5:=(nG (by rw[hlen q h2,X.len])).1 h3;rw[(nG (by rw[hlen m (by omega),X.len])).2 (Lt.trans (by rw[hlen q h2,hlen m (by omega)]) h4 h5)] at hl2;cases hl2
 rintro vars h2 ⟨k,⟨g,rfl⟩,pk,F⟩
 have hmem:x∈l->k<l.length/\l.getD k []=x:=λhx2=>by
  obtain⟨q,hq,eq⟩:=Ge.1 hx2;have eq':l.getD q []=x:=by rw[List.getD,iD hq,←eq];rfl
  have h1:k<=q:=Nat.le_of_not_lt λh3=>by
   have:=pk.lo q h3;rw[eq',vU] at this;cases this
  have h2:k=q:=Nat.le_antisymm h1 (Nat.le_of_not_lt λh3=>by
   have h4:=mono k q h3 hq;rw[eq'] at h4;have h5:=pk.hi k (iP _) (by omega);rw[(nG (by rw[hlen k (by omega),X.len])).2 h4] at h5
   cases h5)
  exact⟨by omega,by rw[h2];exact eq'⟩
 by_cases hk:(k:Int)<(l.length:Int)
 ·have e1:=mL hk
  have cm:=cell h2 F k (by omega)
  have sm:=Mu al (i:=k) (by omega)
  generalize ws.getD k .undef=vm at cm sm
  simp(disch:=omega)only[go_sem,lv,e1,sh.ixa,cm]
  refine (Qt vm vx _ _ h2 (sm.mono F) (hx.mono F) (by rw[aT,hlen k (by omega)];omega) (by rw[aT,X.len];omega)).mono ?_
  rintro _ h3 ⟨rfl,f3⟩
  have ed:decide (zi (l.getD k [])=zi x)=decide (x∈l):=by
   rw[decide_eq_decide];constructor
   ·intro h4
    have h5:l.getD k []=x:=List.map_inj_right (λu v h2=>by omega)|>.1 h4;rw[←h5];exact bB (by omega)
   ·intro h4;rw[(hmem h4).2]
  simp(disch:=omega)only[go_sem,ed]
  exact⟨k,rfl,pk,hmem,F.trans f3⟩
 ·have e1:=iZ hk
  have ed:decide (x∈l)=false:=decide_eq_false λh4=>by have:=(hmem h4).1;omega
  simp(disch:=omega)only[go_sem,lv,e1]
  exact⟨k,by rw[ed],pk,hmem,F⟩
theorem Ns {g:Nat}(hgt:T g=some gU)(u w:V)(a b:List (List Int))(h:H)(hu:SR h u a)(hw:SR h w b)(la:a.length<1000000)(lb:b.length<1000000)(ra: ∀x∈a,x.length<1000000)(rb: ∀x∈b,x.length<1000000):
  Ev T g [u,w] h (λv h'=>v= .bool (decide (a=b))/\Fr h h'):=by
 refine Fz hgt rfl ?_
 have lu:=hu.lens
 have lw:=hw.lens
 obtain⟨wa,sa,aa⟩:=hu
 obtain⟨wb,sb,ab⟩:=hw
 have hwa:=cF.length aa
 have hwb:=cF.length ab
 obtain⟨id,off,sh,hid,hc⟩:=SV.shape sa a.length (by omega) (by omega)
 obtain⟨id2,off2,sh2,hid2,hc2⟩:=SV.shape sb b.length (by omega) (by omega)
 by_cases hl:(a.length:Int)=(b.length:Int)
 case neg=>
  have d1:decide ((a.length:Int)≠(b.length:Int))=true:=decide_eq_true hl;simp(disch:=omega)only[go_sem,gU,aE,lu,lw,d1];exact⟨by rw[decide_eq_false];intro e;exact hl (by rw[e]),Fr.refl h⟩
 have hl':a.length=b.length:=by omega
 have d1:decide ((a.length:Int)≠(b.length:Int))=false:=decide_eq_false (by simpa using hl)
 simp(disch:=omega)only[go_sem,gU,aE,lu,lw,d1]
 refine aI (λk' vars hh=> ∃(i:Nat),(∃g:Nat->V,vars= [u,w,g 2,aB i,g 4,g 5,g 6])/\i<=a.length/\(∀j,j<i->a.getD j []=b.getD j [])/\Fr h hh/\k'=a.length-i) a.length
  ⟨0,aA rfl,lL _,λj hj=>by omega,Fr.refl h,rfl⟩ ?_
 rintro k' vars hh ⟨i,⟨g,rfl⟩,hi,hs,F,rfl⟩
 by_cases hlt:(i:Int)<(a.length:Int)
 case neg=>
  have e1:=iZ hlt;obtain rfl:i=a.length:=by omega
  simp(disch:=omega)only[go_sem,lu,e1]
  have:a=b:=by
   refine List.ext_getElem hl' λj h1 h2=>?_
   have:=hs j h1;rwa [List.getD,iD h1,List.getD,iD h2] at this
  exact⟨by rw[decide_eq_true this],F⟩
 have e1:=mL hlt
 have c1:hh.cell id (off+i)=some (wa.getD i .undef):=by
  rw[F.cell (hid (by omega)),hc i (by omega)];simp [List.getD,show i<wa.length by omega]
 have c2:hh.cell id2 (off2+i)=some (wb.getD i .undef):=by
  rw[F.cell (hid2 (by omega)),hc2 i (by omega)];simp [List.getD,show i<wb.length by omega]
 have s1:=Nw aa (i:=i) (by omega)
 have s2:=Nw ab (i:=i) (by omega)
 generalize wa.getD i .undef=va at c1 s1
 generalize wb.getD i .undef=vb at c2 s2
 have ev1:=s1.eH
 have ev2:=s2.eH
 simp(disch:=omega)only[go_sem,lu,e1,sh.ixa,c1,sh2.ixa,c2]
 refine (Qt va vb _ _ _ (s1.mono (F.trans ((Fr.refl hh).bJ (by omega)))) (s2.mono (F.trans ((Fr.refl hh).bJ (by omega)))) (ra _ (bB (by omega))) (rb _ (bB (by omega)))).mono ?_
 rintro _ h3 ⟨rfl,f3⟩
 have F3:=F.trans (((Fr.refl hh).bJ (by omega)).trans f3)
 have c1':h3.cell id (off+i)=some va:=by
  have h4:Fr hh h3:=((Fr.refl hh).bJ (by omega)).trans f3;rw[h4.cell (by have:=hid (by omega);have:=F.next;omega)];exact c1
 have c2':h3.cell id2 (off2+i)=some vb:=by
  have h4:Fr hh h3:=((Fr.refl hh).bJ (by omega)).trans f3;rw[h4.cell (by have:=hid2 (by omega);have:=F.next;omega)];exact c2
 by_cases he:a.getD i []=b.getD i []
 ·have d2:decide (a.getD i []=b.getD i [])=true:=decide_eq_true he
  simp(disch:=omega)only[go_sem,d2,c1',c2',ev1,ev2]
  rw[jJ i]
  refine⟨a.length-(i+1),by omega,i+1,aA rfl,by omega,λj hj=>?_,F3,rfl⟩
  by_cases e:j=i
  ·rw[e];exact he
  ·exact hs j (by omega)
 ·have d2:decide (a.getD i []=b.getD i [])=false:=decide_eq_false he
  simp(disch:=omega)only[go_sem,d2,c1',c2',ev1,ev2]
  exact⟨by rw[decide_eq_false];intro e;exact he (by rw[e]),F3⟩
theorem Qd (u w:V)(a b:List (List Int))(h:H)(hu:SR h u a)(hw:SR h w b)(la:a.length<1000000)(lb:b.length<1000000)(ra: ∀x∈a,x.length<1000000)(rb: ∀x∈b,x.length<1000000):
  Ev T 32 [u,w] h (λv h'=>v= .bool (decide (a=b))/\Fr h h'):=Ns (rfl:T 32=some gU) u w a b h hu hw la lb ra rb
set_option maxRecDepth 100000
set_option maxRecDepth 100000
set_option maxRecDepth 100000
set_option maxRecDepth 100000
theorem MV {ks:List Cls.KE}{i:Nat}(hi:i<ks.length):(qT ks)[i*3]? =some ks[i].rep/\(qT ks)[i*3+1]? =some (aB (ks[i].ord:Int))/\(qT ks)[i*3+2]? =some (aB (ks[i].size:Int)):=by
 induction ks generalizing i with
 |nil=>simp at hi
 |cons a r ih=>
  have e:qT (a::r)= [a.rep,aB (a.ord:Int),aB (a.size:Int)]++qT r:=rfl
  cases i with
  |zero=>exact⟨rfl,rfl,rfl⟩
  |succ i=>
   have h1:=ih (i:=i) (by simpa using hi);rw[e,show (i+1)*3=i*3+3 by omega];refine⟨?_,?_,?_⟩
   ·rw[List.getElem?_append_right (by simp)];exact h1.1
   ·rw[List.getElem?_append_right (by simp)];exact h1.2.1
   ·rw[List.getElem?_append_right (by simp)];exact h1.2.2
end Go.Proofs.YtapfcpkecmmagaaGreat
namespace Go.Pm
set_option maxRecDepth 100000
section
variable {n:Nat} {t:Bm}
theorem vE.gt (T:vE n t){i p:Nat}{y:List Nat}(h:t i p=some y):i<p:=by
 have Y:=T.dY _ _ _ h;have F:=T.fix _ _ _ h;obtain⟨h1,h2,h3⟩:=T.lt _ _ _ h;have m:=T.maps _ _ _ h;rcases Nat.lt_or_ge p i with h4|h4
 ·exact absurd (Y.inj h1 h2 (m.trans (F p h4).symm)) (by omega)
 ·omega
def eR (t:Bm)(i p:Nat):xG:=(List.range p).filterMap (t i)
def eB (n:Nat)(t:Bm)(i:Nat):xG:=(List.range i).flatMap λi=>eR t i n
theorem ZI:eB n t n=iQ n t 0:=by
 unfold eB iQ eR;simp
theorem Ar (T:vE n t):(iQ n t 0).Nodup:=by
 have key: ∀i p i' p' y,t i p=some y->t i' p'=some y->i=i'/\p=p':=λi p i' p' y h1 h2=>by
  have g1:=T.gt h1;have g2:=T.gt h2;have f1:=T.fix _ _ _ h1;have f2:=T.fix _ _ _ h2;have m1:=T.maps _ _ _ h1;have m2:=T.maps _ _ _ h2
  have e:i=i':=by
   rcases Nat.lt_trichotomy i i' with h|h|h
   ·have:=f2 i h;omega
   ·exact h
   ·have:=f1 i' h;omega
  subst e;exact⟨rfl,m1.symm.trans m2⟩
 rw[←ZI];unfold eB;rw[List.Nodup,List.pairwise_flatMap];refine⟨λi _=>?_,?_⟩
 ·unfold eR
  rw[List.pairwise_filterMap];refine (List.nodup_range (n:=n)).imp ?_;intro p p' hne y hy y' hy' e;subst e;exact hne (key _ _ _ _ _ hy hy').2
 ·refine (List.nodup_range (n:=n)).imp ?_
  intro i i' hne y hy y' hy' e;subst e;obtain⟨p,_,h1⟩:=List.mem_filterMap.1 hy;obtain⟨p',_,h2⟩:=List.mem_filterMap.1 hy';exact hne (key _ _ _ _ _ h1 h2).1
def frF (n:Nat)(t:Bm)(l:xG):xG:=(iQ n t 0).filter λy=>decide (y∉l)
def clF (n:Nat)(t:Bm)(x:List Nat)(l:xG):xG:=if (iQ n t 0).length<(iQ n (tQ t n x) 0).length then l++frF n (tQ t n x) l else l
structure Oh (n:Nat)(L:List Nat->Prop)(t:Bm)(l:xG):Prop where
 tl:Vh n L t
 nd:l.Nodup
 mem: ∀y,y∈l↔y∈iQ n t 0
variable {L:List Nat->Prop} {l:xG}
theorem Oh.dY (c:Oh n L t l): ∀y∈l,bF n y:=λy hy=>c.tl.Kb.HO y ((c.mem y).1 hy)
theorem Oh.start (c:Vh n L t):Oh n L t (iQ n t 0):=⟨c,Ar c.Kb,λ_=>Iff.rfl⟩
theorem Si {t':Bm}(s:Sub t t'): ∀y,y∈iQ n t 0->y∈iQ n t' 0:=λy hy=>by
 obtain⟨i,p,h1,h2,h3,h4⟩:=fY.1 hy;exact fY.2 ⟨i,p,h1,h2,h3,s _ _ _ h4⟩
theorem Oh.step (c:Oh n L t l)(hL: ∀g,L g->bF n g){x:List Nat}(hx:dS n L x):
  Oh n L (tQ t n x) (clF n t x l)/\Sub t (tQ t n x)/\ins (tQ t n x) n 0 x=none/\ ∃m,clF n t x l=l++m:=by
 obtain⟨a1,a2,a3⟩:=c.tl.ins hL hx
 have nd':=Ar a1.Kb
 refine⟨?_,a2,a3,?_⟩
 ·cases h:ins t n 0 x with
  |none=>
   have e:tQ t n x=t:=by unfold tQ;rw[h]
   unfold clF;rw[e,if_neg (Nat.lt_irrefl _)];exact c
  |some q=>
   obtain⟨i,r⟩:=q;have e:tQ t n x=put t i (r.getD i 0) r:=by unfold tQ;rw[h]
   obtain⟨b1,b2,b3,b4,b5,b6,_⟩:=yF c.tl.Kb n 0 x i r (by omega) (hx.dY hL) (λk hk=>by omega) h;have hr:r∈iQ n (tQ t n x) 0:=fY.2 ⟨i,r.getD i 0,Nat.zero_le _,b2,b3.eY b2,by rw[e];unfold put;rw[if_pos ⟨rfl,rfl⟩]⟩
   have hr2:r∉iQ n t 0:=λh=>by
    obtain⟨j,q,_,_,_,h4⟩:=fY.1 h;have h5:=a2 _ _ _ h4;have g1:=a1.Kb.gt h5;have f1:=a1.Kb.fix _ _ _ h5;have m1:=a1.Kb.maps _ _ _ h5;have h6:tQ t n x i (r.getD i 0)=some r:=by rw[e];unfold put;rw[if_pos ⟨rfl,rfl⟩]
    have g2:=a1.Kb.gt h6
    have eij:i=j:=by
     rcases Nat.lt_trichotomy i j with h|h|h
     ·have:=f1 i h;omega
     ·exact h
     ·have:=b4 j h;omega
    subst eij;rw[←m1] at h4;rw[b6] at h4;cases h4
   have hlt:(iQ n t 0).length<(iQ n (tQ t n x) 0).length:=by
    have:(r::iQ n t 0).length<=(iQ n (tQ t n x) 0).length:=List.Nodup.length_le_of_subset (List.nodup_cons.2 ⟨hr2,Ar c.tl.Kb⟩) (λy hy=>by
     rcases List.mem_cons.1 hy with rfl|hy
     ·exact hr
     ·exact Si a2 y hy)
    rw[List.length_cons] at this;omega
   unfold clF;rw[if_pos hlt];refine⟨a1,List.nodup_append.2 ⟨c.nd,nd'.filter _,λy hy z hz e2=>?_⟩,λy=>?_⟩
   ·subst e2
    have:=(List.mem_filter.1 hz).2;simp at this;exact this hy
   ·rw[List.mem_append]
    unfold frF;rw[List.mem_filter];constructor
    ·rintro (h|h)
     ·exact Si a2 y ((c.mem y).1 h)
     ·exact h.1
    ·intro h
     by_cases h2:y∈l
     ·exact .inl h2
     ·exact .inr ⟨h,by simpa using h2⟩
 ·unfold clF
  split
  ·exact⟨_,rfl⟩
  ·exact⟨[],(List.append_nil _).symm⟩
theorem Oh.gen (c:Oh n L t l): ∀y∈l,dS n L y:=λy hy=>c.tl.gen y ((c.mem y).1 hy)
def Pr (n:Nat)(t:Bm)(l:xG)(a b:Nat):Prop:=ins t n 0 (aU (l.getD a []) (l.getD b []))=none
theorem Pr.mono {t':Bm}{m:xG}{a b:Nat}(h:Pr n t l a b)(s:Sub t t')(ha:a<l.length)(hb:b<l.length):Pr n t' (l++m) a b:=by
 have e: ∀k,k<l.length->(l++m).getD k []=l.getD k []:=λk hk=>by rw[List.getD,List.getD,List.getElem?_append_left hk]
 unfold Pr;rw[e a ha,e b hb];exact Oy s _ _ _ h
end
end Go.Pm
namespace Go.Proofs.YtapfcpkecmmagaaGreat
open Go Go.Ay Go.Pm
set_option maxRecDepth 100000
theorem Po (h:H)(x:Int):tC h 1 [aB 0] 1 [(0,1,aB x)]=some (.sl h.next 0 1 (.kn 1),h.new (.cells false (ints [x]))):=by
 have e:dW [aB 0] 1= [aB 0]:=rfl;simp [tC,jL,e,putAt,V.cells,V.one,ints]
theorem LA {h:H}{v:V}{sz b:Nat}{ws:List V}(o:eZ h v sz ws b): ∀id off len cap,v= .sl id off len cap->b<=id:=by
 rcases o with ⟨rfl,_⟩|⟨id,n,cap,rest,rfl,_,_,h3,_⟩
 ·intro _ _ _ _ e;cases e
 ·intro _ _ _ _ e;cases e;exact h3
theorem Gv (l:List Nat)(x:Nat):zi (l++ [x])=zi l++ [(x:Int)]:=by simp [zi]
theorem Du {l:List Nat}{i:Nat}(hi:i<l.length):l.take (i+1)=l.take i++ [l.getD i 0]:=by
 rw[List.take_add_one,iD hi,cT hi];rfl
theorem Zo (u w:V)(a b:List Nat)(h:H)(hN:a.length<=1000)(hu:SI h u (zi a))(hw:SI h w (zi b))(hr: ∀i,i<a.length->a.getD i 0<b.length):
  Ev T 24 [u,w] h (λv h'=>SI h' v (zi (aU a b))/\Fr h h'/\ ∀id off len cap,v= .sl id off len cap->h.next<=id):=by
 refine bN Dt rfl rfl ?_
 have lu:=hu.lens
 rw[aT] at lu
 obtain⟨id,off,sh,hid,hc⟩:=hu.open
 rw[aT] at sh hid hc
 obtain⟨id2,off2,sh2,hid2,hc2⟩:=hw.open
 rw[aT] at sh2 hid2 hc2
 simp(disch:=omega)only[go_sem,Dt,aE]
 refine aI (λk' vars hh=> ∃(i:Nat) (o:V),(∃j:Nat->V,vars= [u,w,j 2,o,aB i,j 5])/\i<=a.length/\eZ hh o 1 (ints (zi ((aU a b).take i))) h.next/\Fr h hh/\k'=a.length-i) a.length
  ⟨0,.aC,aA rfl,lL _,eZ.aC _ _ _,Fr.refl h,rfl⟩ ?_
 rintro k' vars h2 ⟨i,o,⟨jk,rfl⟩,hi,oO,F,rfl⟩
 simp(disch:=omega)only[go_sem,lu]
 by_cases hlt:(i:Int)<(a.length:Int)
 ·rw[decide_eq_true hlt]
  have hi':i<a.length:=by omega
  have ci:h2.cell id (off+i)=some (aB (a.getD i 0:Nat)):=by rw[F.cell (hid (by omega)),hc i hi'];congr 2;simp [zi,hi']
  have r:=hr i hi'
  have hm:=cV (b:=b) hi'
  generalize hk:a.getD i 0=k at ci r hm
  have ck:h2.cell id2 (off2+k)=some (aB (b.getD k 0:Nat)):=by rw[F.cell (hid2 (by omega)),hc2 k r];congr 2;simp [zi,r]
  simp(disch:=omega)only[go_sem,sh.ixa,ci,sh2.ixa,ck,Po]
  have hf31:Fr h2 (h2.new (.cells false (ints [((b.getD k 0:Nat):Int)]))):=(Fr.refl h2).new _
  have hg31:(h2.new (.cells false (ints [((b.getD k 0:Nat):Int)]))).get h2.next=some (.cells false (ints [((b.getD k 0:Nat):Int)])):=H.aM ..
  have hn31:(h2.new (.cells false (ints [((b.getD k 0:Nat):Int)]))).next=h2.next+1:=H.aV ..
  generalize h2.new (.cells false (ints [((b.getD k 0:Nat):Int)]))=h31 at*
  have sx:SV h31 (.sl h2.next 0 1 (.kn 1)) 1 (ints [((b.getD k 0:Nat):Int)]):=SV.all rfl (by omega) hg31 _
  have nF:=F.next
  have hl:(aU a b).length=a.length:=fE a b
  obtain⟨v2,h32,e32,a32⟩:=(oO.fr hf31).app (bytes:=8) (n:=i) (m:=1) (by omega) sx (by rw[aN,aT,Ky,Nat.mul_one];omega) rfl (by omega) (by omega)
  simp(disch:=omega)only[go_sem,e32]
  have t32:=a32.own
  rw[←pU,←hm,←Gv,←Du (by omega)] at t32
  rw[jJ i]
  exact⟨a.length-(i+1),by omega,i+1,v2,aA rfl,by omega,t32,a32.fr h (F.trans hf31) (iP _),rfl⟩
 rw[decide_eq_false hlt]
 obtain rfl:i=a.length:=by omega
 simp(disch:=omega)only[go_sem]
 rw[List.take_of_length_le (by rw[fE];omega)] at oO
 exact⟨oO.sv,F,LA oO⟩
theorem Yw (n:Nat)(h:H)(hN:n<=1000):
  Ev T 51 [aB n] h (λv h'=>SI h' v (zi (bI n))/\Fr h h'/\ ∀id off len cap,v= .sl id off len cap->h.next<=id):=by
 refine bN uL rfl rfl ?_
 simp(disch:=omega)only[go_sem,uL,aE]
 refine aI (λk' vars hh=> ∃(i:Nat) (o:V),(∃j:Nat->V,vars= [aB n,j 1,o,aB i,j 4])/\i<=n/\eZ hh o 1 (ints (zi ((bI n).take i))) h.next/\Fr h hh/\k'=n-i) n
  ⟨0,.aC,aA rfl,lL _,eZ.aC _ _ _,Fr.refl h,rfl⟩ ?_
 rintro k' vars h2 ⟨i,o,⟨jk,rfl⟩,hi,oO,F,rfl⟩
 simp(disch:=omega)only[go_sem]
 by_cases hlt:(i:Int)<(n:Int)
 ·rw[decide_eq_true hlt]
  have hi':i<n:=by omega
  simp(disch:=omega)only[go_sem,Po]
  have hf31:Fr h2 (h2.new (.cells false (ints [(i:Int)]))):=(Fr.refl h2).new _
  have hg31:(h2.new (.cells false (ints [(i:Int)]))).get h2.next=some (.cells false (ints [(i:Int)])):=H.aM ..
  have hn31:(h2.new (.cells false (ints [(i:Int)]))).next=h2.next+1:=H.aV ..
  generalize h2.new (.cells false (ints [(i:Int)]))=h31 at*
  have sx:SV h31 (.sl h2.next 0 1 (.kn 1)) 1 (ints [(i:Int)]):=SV.all rfl (by omega) hg31 _
  have nF:=F.next
  have hl:=gT n
  obtain⟨v2,h32,e32,a32⟩:=(oO.fr hf31).app (bytes:=8) (n:=i) (m:=1) (by omega) sx (by rw[aN,aT,Ky,Nat.mul_one];omega) rfl (by omega) (by omega)
  simp(disch:=omega)only[go_sem,e32]
  have t32:=a32.own
  have hm:=eX hi'
  have e1:zi ((bI n).take i)++ [(i:Int)]=zi ((bI n).take (i+1)):=by rw[Du (by omega),Gv,hm]
  rw[←pU,e1] at t32
  rw[jJ i]
  exact⟨n-(i+1),by omega,i+1,v2,aA rfl,by omega,t32,a32.fr h (F.trans hf31) (iP _),rfl⟩
 rw[decide_eq_false hlt]
 obtain rfl:i=n:=by omega
 simp(disch:=omega)only[go_sem]
 rw[List.take_of_length_le (by rw[gT];omega)] at oO
 exact⟨oO.sv,F,LA oO⟩
structure CP (b:Nat)(W:Nat->Prop)(h:H)(n:Nat)(tv:V)(ρ:Nat->Nat)(F:Nat->Nat->V)(t:Bm):Prop where
 sv:SV h tv 1 (rc n λi=> .sl (ρ i) 0 n (.kn n))
 off:CM W tv
 row: ∀i,i<n->h.get (ρ i)=some (.cells false (rc n (F i)))
 wb: ∀i,i<n->W (ρ i)
 CG: ∀id,W id->id<h.next
 low: ∀id,W id->b<=id
 inj: ∀i j,i<n->j<n->ρ i=ρ j->i=j
 ent: ∀i p,i<n->p<n->Slot W h (F i p) (t i p)
section
variable {b:Nat} {W:Nat->Prop} {h h':H} {n:Nat} {tv:V} {ρ:Nat->Nat} {F:Nat->Nat->V} {t:Bm}
theorem CP.open (R:CP b W h n tv ρ F t):dN tv=some (aB n)/\ ∃id off,Sl tv 1 n id off/\ ∀i,i<n->h.cell id (off+i)=some (.sl (ρ i) 0 n (.kn n)):=by
 have s:=R.sv;have hl:(rc n λi=>V.sl (ρ i) 0 n (.kn n)).length=n:=dG n _;refine⟨by unfold dN;rw[SV.len s (n:=n) (by omega) (by omega)];rfl,?_⟩;obtain⟨id,off,sh,hid,hc⟩:=SV.shape s n (by omega) (by omega);refine⟨id,off,sh,λi hi=>?_⟩;rw[hc i (by omega),sK hi]
theorem CP.cell (R:CP b W h n tv ρ F t){i p:Nat}(hi:i<n)(hp:p<n):h.cell (ρ i) p=some (F i p):=wV (R.row i hi) hp
theorem CP.mono (R:CP b W h n tv ρ F t)(f:Fr h h'):CP b W h' n tv ρ F t:=
 ⟨R.sv.mono f,R.off,λi hi=>by rw[f.get _ (R.CG _ (R.wb i hi))];exact R.row i hi,R.wb,λid hid=>kO (R.CG id hid) f.next,R.low,R.inj,λi p hi hp=>(R.ent i p hi hp).fx (Fx.of f)⟩
theorem CP.go (R:CP b W h n tv ρ F t){W':Nat->Prop}(f:Fx W h h')(hr: ∀i,i<n->h'.get (ρ i)=h.get (ρ i))(hw: ∀id,id<h.next->W' id->W id)(hw2: ∀id,W id->W' id)(CG: ∀id,W' id->id<h'.next)(low: ∀id,W' id->b<=id):CP b W' h' n tv ρ F t:=
 ⟨R.sv.fx R.off f,R.off.tA R.sv hw,λi hi=>by rw[hr i hi];exact R.row i hi,λi hi=>hw2 _ (R.wb i hi),CG,low,R.inj,λi p hi hp=>(R.ent i p hi hp).go f hw⟩
def WB (n:Nat)(ρ:Nat->Nat)(id:Nat):Prop:= ∃i,i<n/\ρ i=id
def F2 (F:Nat->Nat->V)(i p:Nat)(v:V):Nat->Nat->V:=λj q=>if j=i/\q=p then v else F j q
theorem CP.put (R:CP b W h n tv ρ F t){i p:Nat}(hi:i<n)(hp:p<n){vx:V}{x:List Nat}(hx:PV W h vx x):
  ∃h',fO (h.get (ρ i)) h (ρ i) p [vx]=some h'/\CP b W h' n tv ρ (F2 F i p vx) (Pm.put t i p x)/\Fx (WB n ρ) h h'/\h'.next=h.next:=by
 have pt:=aZ (vs:=rc n (F i)) (off:=p) (by rw[dG];exact hp) h (ρ i) vx
 rw[R.row i hi,pt,iR]
 refine⟨_,rfl,?_,Fx.set h (W:=WB n ρ) ⟨i,hi,rfl⟩ _,rfl⟩
 have f:Fx W h (h.set (ρ i) (some (.cells false (rc n λj=>if j=p then vx else F i j)))):=Fx.set h (R.wb i hi) _
 refine⟨R.sv.fx R.off f,R.off,λj hj=>?_,R.wb,R.CG,R.low,R.inj,λj q hj hq=>?_⟩
 ·by_cases e:j=i
  ·subst e
   rw[H.aS]
   congr 2
   refine bH λq _=>?_
   unfold F2
   by_cases e2:q=p
   ·rw[if_pos e2,if_pos ⟨rfl,e2⟩]
   ·rw[if_neg e2,if_neg (λh=>e2 h.2)]
  ·rw[H.aH h (λe2=>e (R.inj _ _ hj hi e2)),R.row j hj]
   congr 2
   refine bH λq _=>?_
   unfold F2
   rw[if_neg (λh=>e h.1)]
 ·unfold F2 Pm.put
  by_cases e:j=i/\q=p
  ·rw[if_pos e,if_pos e]
   exact PV.fx hx f
  ·rw[if_neg e,if_neg e]
   exact (R.ent j q hj hq).fx f
theorem PV.fresh {v:V}{l:List Nat}(s:SI h' v (zi l))(hf: ∀id off len cap,v= .sl id off len cap->h.next<=id)(hw: ∀id,W id->id<h.next):PV W h' v l:=by
 refine⟨s,?_⟩
 cases v with
 |sl id off len cap=>exact λhx=>by have:=hf _ _ _ _ rfl;have:=hw id hx;omega
 |_=>trivial
theorem Slot.nil {v:V}(s:Slot W h v none):v= .aC:=s
end
theorem jN.open {W:Nat->Prop}{h:H}{v:V}{ws:List V}{l:LN}(sv:SV h v 1 ws)(p:jN W h ws l):dN v=some (aB (l.length:Int))/\ ∃id off,Sl v 1 l.length id off/\ ∀i,i<l.length->id<h.next/\h.cell id (off+i)=some (ws.getD i .undef)/\PV W h (ws.getD i .undef) (l.getD i []):=by
 have hl:=cF.length p;refine⟨by unfold dN;rw[SV.len sv (n:=l.length) (by omega) (by omega)];rfl,?_⟩;obtain⟨id,off,sh,hid,hc⟩:=SV.shape sv l.length (by omega) (by omega);refine⟨id,off,sh,λi hi=>⟨hid (by omega),?_,?_⟩⟩
 ·rw[hc i (by omega)];simp [List.getD,show i<ws.length by omega]
 ·obtain⟨w,h1,h2⟩:=jN.at p hi
  rw[List.getD,h1];exact h2
theorem OX {α:Type}{l:List α}{x d:α}{k:Nat}:x∈l.take k↔ ∃q,q<k/\q<l.length/\l.getD q d=x:=by
 constructor
 ·intro h
  obtain⟨q,hq,e⟩:=Ge.1 h;rw[Ky] at hq;refine⟨q,by omega,by omega,?_⟩;rw[List.getElem_take] at e;rw[List.getD,iD (by omega),←e];rfl
 ·rintro⟨q,h1,h2,e⟩
  rw[List.getD,iD h2] at e;refine Ge.2 ⟨q,by rw[Ky];omega,?_⟩;rw[List.getElem_take];exact e
set_option maxRecDepth 100000
set_option maxRecDepth 100000
set_option maxRecDepth 100000
theorem NF (h:H)(n:Nat)(hn:n<=100000):Ef h 1 24 [.aC] (aB n) (aB n)=some (.sl h.next 0 n (.kn n),h.new (.cells false (rc n λ_=> .aC))):=by
 have e:dW [V.aC] n=rc n λ_=> .aC:=(Jn (by simp [dW]) λi hi=>by simp [dW,hi,Nat.mod_one]).symm
 rw[rQ (by omega) (Int.le_refl _) (by omega) (by omega),Int.toNat_natCast,Nat.mul_one,e]
section
variable {h:H} {v:V} {n:Nat} {l:List Nat}
theorem nT (x:Nat)(l:List Int)(n:Int)(h:H)(ht:Tk h x l)(hl:l.length<9223372036854775808)(hn:1<=n)(hn2:n<1000000000):
  Ev T 50 [.ptr x 0,aB n] h (λv h'=> ∃z,v= aB z/\0<=z/\z<n/\Tk h' x l/\yR x h h'):=by
 obtain⟨vl,a,hg,hs,hne,ha,hx⟩:=ht
 refine bN oV rfl rfl ?_
 have g0:h.cell x 0=some vl:=by rw[H.aF hg];rfl
 have g1:h.cell x 1=some (aB a):=by rw[H.aF hg];rfl
 have ev:eH vl vl=true:=SV.eH hs
 obtain⟨id,off,hsl,hid,hc⟩:=hs.open
 simp (disch:=first|omega|(simp only[Qn];(try omega);done)|fail) only[go_sem,oV,aE,g0,g1,hs.lens,ev]
 by_cases hal:(l.length:Int)<=(a:Int)
 ·rw[decide_eq_true hal]
  simp (disch:=first|omega|(simp only[Qn];(try omega);done)|fail) only[go_sem]
  exact⟨0,rfl,by omega,by omega,⟨vl,a,hg,hs.mono ((Fr.refl h).bJ (by omega)),hne,ha,by show x<h.next+14;omega⟩,yR.of ((Fr.refl h).bJ (by omega))⟩
 ·rw[decide_eq_false hal]
  simp (disch:=first|omega|(simp only[Qn];(try omega);done)|fail) only[go_sem]
  rw[decide_eq_false (show ¬n<1 by omega)]
  simp (disch:=first|omega|(simp only[Qn];(try omega);done)|fail) only[go_sem,g1,hg]
  have hne2:id≠x:=by
   intro e;have:=hsl.ixa .i64 0 (by omega) (by omega);rcases hs with ⟨_,h0⟩|⟨id',o',len',cap',_,_,rfl,_⟩
   ·have:(ints l).length=0:=by rw[h0];rfl
    rw[aN] at this;omega
   ·have hll:len'=l.length:=Option.some.inj hsl.len
    rw[Bs (by omega) (by omega)] at this;simp only[Option.some.injEq,V.ptr.injEq] at this;have:=hne _ _ _ _ rfl;omega
  have c0:h.cell id (off+a)=some (aB (l.getD a 0)):=hc a (by omega)
  have ea:((a:Int)+1- 1).toNat=a:=by omega
  simp (disch:=first|omega|(simp only[Qn];(try omega);done)|fail) only[go_sem,g0,g1,hg,hsl.ixa,c0,ev,ea]
  have hgg: ∀m,(H.mk ((H.mk h.tr (h.next+14)).set x (some (.cells false [vl,aB ((a:Int)+1)]))).tr m).get x=some (.cells false [vl,aB ((a:Int)+1)]):=λm=>H.aS ..
  have hfx:yR x h (H.mk ((H.mk h.tr (h.next+14)).set x (some (.cells false [vl,aB ((a:Int)+1)]))).tr (h.next+14+14)):=⟨by show h.next<=h.next+14+14;omega,λid hid hne=>H.aH _ hne _⟩
  have hnn:(H.mk ((H.mk h.tr (h.next+14)).set x (some (.cells false [vl,aB ((a:Int)+1)]))).tr (h.next+14+14)).next=h.next+14+14:=rfl
  have hgx:=hgg (h.next+14+14)
  generalize H.mk ((H.mk h.tr (h.next+14)).set x (some (.cells false [vl,aB ((a:Int)+1)]))).tr (h.next+14+14)=h2 at*
  refine (Pu (l.getD a 0) n h2 (by omega) hn2).mono ?_
  rintro v h3 ⟨rfl,rfl⟩
  have k0:h3.cell x 0=some vl:=by rw[H.aF hgx];rfl
  have k1:h3.cell x 1=some (aB ((a:Int)+1)):=by rw[H.aF hgx];rfl
  simp (disch:=first|omega|(simp only[Qn];(try omega);done)|fail) only[go_sem,k0,k1,ev]
  have hr:=Va (l.getD a 0) (show 0<n by omega)
  refine⟨_,rfl,hr.1,hr.2,⟨vl,a+1,?_,?_,hne,by omega,by omega⟩,hfx⟩
  ·rw[hgx];simp
  ·rcases hs with h0|⟨id',o',len',cap',ro,vs,rfl,q2,q3,q4,q5,q6⟩
   ·exact .inl h0
   ·exact .inr ⟨id',o',len',cap',ro,vs,rfl,q2,by omega,(hfx.get id' q3 (λe=>by have:=hne _ _ _ _ rfl;omega)).trans q4,q5,q6⟩
theorem Jp (n:Nat)(h:H)(hN:n<=1000):
  Ev T 51 [aB n] h (λv h'=>eZ h' v 1 (ints (zi (bI n))) h.next/\Fr h h'):=by
 refine bN uL rfl rfl ?_
 simp (disch:=first|omega|(simp only[Qn];(try omega);done)|fail) only[go_sem,uL,aE]
 refine aI (λk' vars hh=> ∃(i:Nat) (o:V),(∃j:Nat->V,vars= [aB n,j 1,o,aB i,j 4])/\i<=n/\eZ hh o 1 (ints (zi ((bI n).take i))) h.next/\Fr h hh/\k'=n-i) n
  ⟨0,.aC,aA rfl,lL _,eZ.aC _ _ _,Fr.refl h,rfl⟩ ?_
 rintro k' vars h2 ⟨i,o,⟨jk,rfl⟩,hi,oO,F,rfl⟩
 simp (disch:=first|omega|(simp only[Qn];(try omega);done)|fail) only[go_sem]
 by_cases hlt:(i:Int)<(n:Int)
 ·rw[decide_eq_true hlt]
  have hi':i<n:=by omega
  simp (disch:=first|omega|(simp only[Qn];(try omega);done)|fail) only[go_sem,Po]
  have hf31:Fr h2 (h2.new (.cells false (ints [(i:Int)]))):=(Fr.refl h2).new _
  have hg31:(h2.new (.cells false (ints [(i:Int)]))).get h2.next=some (.cells false (ints [(i:Int)])):=H.aM ..
  have hn31:(h2.new (.cells false (ints [(i:Int)]))).next=h2.next+1:=H.aV ..
  generalize h2.new (.cells false (ints [(i:Int)]))=h31 at*
  have sx:SV h31 (.sl h2.next 0 1 (.kn 1)) 1 (ints [(i:Int)]):=SV.all rfl (by omega) hg31 _
  have nF:=F.next
  have hl:=gT n
  obtain⟨v2,h32,e32,a32⟩:=(oO.fr hf31).app (bytes:=8) (n:=i) (m:=1) (by omega) sx (by rw[aN,aT,Ky,Nat.mul_one];omega) rfl (by omega) (by omega)
  simp (disch:=first|omega|(simp only[Qn];(try omega);done)|fail) only[go_sem,e32]
  have t32:=a32.own
  have hm:=eX hi'
  have e1:zi ((bI n).take i)++ [(i:Int)]=zi ((bI n).take (i+1)):=by rw[Du (by omega),Gv,hm]
  rw[←pU,e1] at t32
  rw[jJ i]
  exact⟨n-(i+1),by omega,i+1,v2,aA rfl,by omega,t32,a32.fr h (F.trans hf31) (iP _),rfl⟩
 rw[decide_eq_false hlt]
 obtain rfl:i=n:=by omega
 simp (disch:=first|omega|(simp only[Qn];(try omega);done)|fail) only[go_sem]
 rw[List.take_of_length_le (by rw[gT];omega)] at oO
 exact⟨oO,F⟩
structure Mp (h:H)(v:V)(n id:Nat)(l:List Nat):Prop where
 ex: ∃cap rest,v= .sl id 0 n cap/\id<h.next/\h.get id=some (.cells false (ints (zi l)++rest))
 dY:bF n l
theorem Mp.of {b:Nat}(h0:0<n)(X:bF n l)(o:eZ h v 1 (ints (zi l)) b): ∃id,Mp h v n id l/\b<=id:=by
 rcases o with ⟨_,e⟩|⟨id,m,cap,rest,rfl,e2,e3,e4,e5,e6⟩
 ·have:=congrArg List.length e
  rw[aN,aT,List.length_nil,X.len] at this;omega
 ·rw[aN,aT,Nat.mul_one,X.len] at e2
  subst e2;exact⟨id,⟨⟨cap,rest,rfl,e5,e6⟩,X⟩,e4⟩
theorem Mp.si {id:Nat}(m:Mp h v n id l):SI h v (zi l):=by
 obtain⟨⟨cap,rest,rfl,h1,h2⟩,X⟩:=m;refine .inr ⟨id,0,n,cap,false,_,rfl,by rw[aN,aT,X.len,Nat.mul_one],h1,h2,by rw[oF,aN,aT,X.len];omega,?_⟩;rw[List.drop_zero,Nat.mul_one,List.take_left' (by rw[aN,aT,X.len])]
theorem Mp.mono {h':H}{id:Nat}(m:Mp h v n id l)(hn:h.next<=h'.next)(hg:h'.get id=h.get id):Mp h' v n id l:=by
 obtain⟨⟨cap,rest,h1,h2,h3⟩,X⟩:=m;exact⟨⟨cap,rest,h1,by omega,by rw[hg];exact h3⟩,X⟩
theorem Tn {rest:List V}{i:Nat}(hi:i<l.length)(x:Nat):(ints (zi l)++rest).set i (aB x)=ints (zi (l.set i x))++rest:=by
 rw[List.set_append_left _ _ (by rw[aN,aT];exact hi)];congr 1;simp [ints,zi,List.map_set]
def TR (n a b:Nat):List Nat:=(List.range n).map λj=>if j=b- 1 then a else if a<=j/\j<b then j+1 else j
theorem Hr {f:Nat->Nat}{j:Nat}(hj:j<n):((List.range n).map f).getD j 0=f j:=by simp [List.getD,hj]
theorem IZ {a b:Nat}(h1:a<b)(h2:b<=n):bF n (TR n a b):=by
 unfold TR;refine bF.Ql (by simp) (λi hi=>?_) (λi j hi hj h=>?_)
 ·rw[Hr hi]
  split
  ·omega
  ·split<;>omega
 ·rw[Hr hi,Hr hj] at h
  split at h<;>split at h<;>(try split at h)<;>(try split at h)<;>omega
theorem NG (f:Nat->Nat):(rc n λj=>aB (f j:Nat))=ints (zi ((List.range n).map f)):=by
 have e:=Us ((List.range n).map f);rw[rK,List.length_range] at e;rw[←e];exact bH λj hj=>by rw[Hr hj]
theorem Rl (h:H)(v:V)(n id a b:Nat)(hn:n<=64)(m:Mp h v n id (bI n))(h1:a<b)(h2:b<=n):
  Ev T 53 [v,aB a,aB b] h (λw h'=>w=v/\Mp h' v n id (TR n a b)/\yR id h h'):=by
 refine bN xY rfl rfl ?_
 obtain⟨⟨cap,rest,rfl,hid,hg⟩,_⟩:=m
 have e0:ints (zi (bI n))=rc n λj=> aB (((if a<=j/\j<a then j+1 else j:Nat)):Int):=by
  rw[NG];congr 2;refine (rW (by simp [bI]) λi hi=>?_).symm;rw[rK,List.length_range] at hi;rw[Hr hi,eX hi,if_neg (by omega)]
 rw[e0] at hg
 simp (disch:=first|omega|(simp only[Qn];(try omega);done)|fail) only[go_sem,xY,aE]
 refine cI (λvs hh=>(∃g:Nat->V,vs= [.sl id 0 n cap,aB a,aB b,g 3,g 4,g 5])/\hh.get id=some (.cells false ((rc n λj=> aB (((if a<=j/\j<b then j+1 else j:Nat)):Int))++rest))/\yR id h hh) ?_ ?_
 ·refine aI (λk' vars hh=> ∃(i:Nat),(∃g:Nat->V,vars= [.sl id 0 n cap,aB a,aB b,g 3,aB i,g 5])/\a<=i/\i<=b/\hh.get id=some (.cells false ((rc n λj=> aB (((if a<=j/\j<i then j+1 else j:Nat)):Int))++rest))/\yR id h hh/\k'=b-i) (b-a)
   ⟨a,aA rfl,iP _,by omega,hg,yR.refl _ _,rfl⟩ ?_
  rintro k' vars h3 ⟨i,⟨g,rfl⟩,hi1,hi2,g3,f3,rfl⟩
  by_cases hlt:(i:Int)<(b:Int)
  case neg=>
   have e1:=iZ hlt;obtain rfl:i=b:=by omega
   simp (disch:=first|omega|(simp only[Qn];(try omega);done)|fail) only[go_sem,e1];exact⟨aA rfl,g3,f3⟩
  have e1:=mL hlt
  have hin:i<n:=by omega
  have e3:decide ((i:Int)<0)=false:=iZ (by omega)
  have e4:decide ((n:Int)<=(i:Int))=false:=iZ (by omega)
  have pt:=aZ (vs:=(rc n λj=> aB (((if a<=j/\j<i then j+1 else j:Nat)):Int))++rest) (off:=i) (by rw[oF,dG];omega) h3 id (aB ((i:Int)+1))
  rw[List.set_append_left _ _ (by rw[dG];exact hin),iR] at pt
  simp (disch:=first|omega|(simp only[Qn];(try omega);done)|fail) only[go_sem,e1,e3,e4,g3,pt]
  rw[jJ i]
  refine⟨b-(i+1),by omega,i+1,aA rfl,by omega,by omega,?_,f3.set _,rfl⟩
  congr 3
  refine bH λj hj=>?_
  by_cases e:j=i
  ·rw[if_pos e,if_pos ⟨by omega,by omega⟩,e]
  ·rw[if_neg e]
   by_cases e5:a<=j/\j<i
   ·rw[if_pos e5,if_pos ⟨e5.1,by omega⟩]
   ·rw[if_neg e5,if_neg (by omega)]
 rintro vars h3 ⟨⟨g,rfl⟩,g3,f3⟩
 have eb:(b:Int)- 1=((b- 1:Nat):Int):=by omega
 have e3:decide (((b- 1:Nat):Int)<0)=false:=iZ (by omega)
 have e4:decide ((n:Int)<=((b- 1:Nat):Int))=false:=iZ (by omega)
 have pt:=aZ (vs:=(rc n λj=> aB (((if a<=j/\j<b then j+1 else j:Nat)):Int))++rest) (off:=b- 1) (by rw[oF,dG];omega) h3 id (aB a)
 rw[List.set_append_left _ _ (by rw[dG];omega),iR] at pt
 simp (disch:=first|omega|(simp only[Qn];(try omega);done)|fail) only[go_sem,eb,e3,e4,g3,pt]
 refine⟨⟨⟨cap,rest,rfl,kO hid f3.next,?_⟩,IZ h1 h2⟩,f3.set _⟩
 rw[H.aS]
 congr 3
 unfold TR
 rw[←NG]
 refine bH λj hj=>?_
 by_cases e:j=b- 1
 ·rw[if_pos e,if_pos e]
 ·rw[if_neg e,if_neg e]
def FX (l:List Nat)(i k:Nat):List Nat:=(l.set i (l.getD k 0)).set k (l.getD i 0)
theorem KP (X:bF n l){i k:Nat}(hi:i<n)(hk:k<n):bF n (FX l i k):=by
 have hl:=X.len
 have at': ∀j,j<n->(FX l i k).getD j 0=if j=k then l.getD i 0 else if j=i then l.getD k 0 else l.getD j 0:=λj hj=>by
  unfold FX;rw[cT (by simp;omega),List.getElem_set]
  by_cases e:k=j
  ·rw[if_pos e,if_pos e.symm]
  ·rw[if_neg e,if_neg (Ne.symm e),List.getElem_set]
   by_cases e2:i=j
   ·rw[if_pos e2,if_pos e2.symm]
   ·rw[if_neg e2,if_neg (Ne.symm e2)];exact (cT (by omega)).symm
 refine bF.Ql (by unfold FX;simp [hl]) (λj hj=>?_) (λa c ha hc h=>?_)
 ·rw[at' j hj]
  split
  ·exact X.eY hi
  ·split
   ·exact X.eY hk
   ·exact X.eY hj
 ·rw[at' a ha,at' c hc] at h
  split at h<;>split at h<;>(try split at h)<;>(try split at h)
  all_goals first
   |omega
   |(have:=X.inj hi hi h;omega)
   |(have:=X.inj hi hk h;omega)
   |(have:=X.inj hk hi h;omega)
   |(have:=X.inj hi hc h;omega)
   |(have:=X.inj ha hi h;omega)
   |(have:=X.inj hk hk h;omega)
   |(have:=X.inj hk hc h;omega)
   |(have:=X.inj ha hk h;omega)
   |(have:=X.inj ha hc h;omega)
theorem NV (x:Nat)(l:List Int)(n:Nat)(h:H)(hn:n<=64)(n0:0<n)(ht:Tk h x l)(hl:l.length<9223372036854775808):
  Ev T 52 [.ptr x 0,aB n] h (λv h'=> ∃id q,Mp h' v n id q/\h.next<=id/\Tk h' x l/\yR x h h'):=by
 refine bN Aq rfl rfl ?_
 simp (disch:=first|omega|(simp only[Qn];(try omega);done)|fail) only[go_sem,Aq,aE]
 refine (Jp n h (by omega)).mono ?_
 rintro v h1 ⟨o1,f1⟩
 obtain⟨id,m1,hid⟩:=Mp.of n0 (bF.one n) o1
 have m1':=m1
 obtain⟨⟨cap,rest0,rfl,_,_⟩,_⟩:=m1'
 have hxn:x<h.next:=by obtain⟨_,_,_,_,_,_,hx⟩:=ht;exact hx
 have hne:id≠x:=by omega
 simp (disch:=first|omega|(simp only[Qn];(try omega);done)|fail) only[go_sem]
 refine aI (λk' vars hh=> ∃(i:Nat) (q:List Nat),(∃g:Nat->V,vars= [.ptr x 0,aB n,g 2,.sl id 0 n cap,aB i,g 5,g 6])/\i<n/\Mp hh (.sl id 0 n cap) n id q/\Tk hh x l/\yR x h hh/\k'=n-i) n
  ⟨0,bI n,aA rfl,n0,m1,ht.mono f1,yR.of f1,rfl⟩ ?_
 rintro k' vars h2 ⟨i,q,⟨g,rfl⟩,hi,m2,t2,f2,rfl⟩
 by_cases hlt:(i:Int)+1<(n:Int)
 case neg=>
  have e1:=iZ hlt;simp (disch:=first|omega|(simp only[Qn];(try omega);done)|fail) only[go_sem,e1];exact⟨id,q,m2,hid,t2,f2⟩
 have e1:=mL hlt
 simp (disch:=first|omega|(simp only[Qn];(try omega);done)|fail) only[go_sem,e1]
 refine (nT x l ((n:Int)-(i:Int)) h2 t2 hl (by omega) (by omega)).mono ?_
 rintro _ h3 ⟨z,rfl,hz0,hz1,t3,f3⟩
 obtain⟨c,rfl⟩: ∃c:Nat,z=(c:Int):=⟨z.toNat,by omega⟩
 obtain⟨k,hk⟩: ∃k,k=i+c:=⟨_,rfl⟩
 have ek:(i:Int)+(c:Int)=(k:Int):=by omega
 have hkn:k<n:=by omega
 have m3:=m2.mono f3.next (f3.get id (by obtain⟨⟨_,_,_,h5,_⟩,_⟩:=m2;exact h5) hne)
 obtain⟨⟨cap',rest,e,hid3,g3⟩,Q⟩:=m3
 cases e
 have ql:=Q.len
 have cell: ∀hh:H,∀l':List Nat,l'.length=n->hh.get id=some (.cells false (ints (zi l')++rest))-> ∀j,j<n->hh.cell id j=some (aB (l'.getD j 0:Nat)):=λhh l' hl' hg j hj=>by
  rw[H.aF hg,Jw (by rw[aN,aT];omega),Al (by omega)]
 have ci:=cell h3 q ql g3 i hi
 have ck:=cell h3 q ql g3 k hkn
 have a1:decide ((i:Int)<0)=false:=iZ (by omega)
 have a2:decide ((n:Int)<=(i:Int))=false:=iZ (by omega)
 have a3:decide ((k:Int)<0)=false:=iZ (by omega)
 have a4:decide ((n:Int)<=(k:Int))=false:=iZ (by omega)
 have pt: ∀(hh:H) (l':List Nat) (j y:Nat),l'.length=n->j<n->fO (some (.cells false (ints (zi l')++rest))) hh id j [aB y]=some (hh.set id (some (.cells false (ints (zi (l'.set j y))++rest)))):=λhh l' j y hl' hj=>by
  rw[aZ (by rw[oF,aN,aT];omega),Tn (by omega)]
 simp (disch:=first|omega|(simp only[Qn];(try omega);done)|fail) only[go_sem,ek]
 simp (disch:=first|omega|(simp only[Qn];(try omega);done)|fail) only[go_sem,a1,a2,a3,a4,ci,ck,g3,pt _ q i (q.getD k 0) ql hi,pt _ (q.set i (q.getD k 0)) k (q.getD i 0) (by simp [ql]) hkn]
 rw[jJ i]
 obtain⟨h4,h4e⟩: ∃h4:H,h4=((H.mk h3.tr (h3.next+16)).set id (some (.cells false (ints (zi (q.set i (q.getD k 0)))++rest)))).set id (some (.cells false (ints (zi ((q.set i (q.getD k 0)).set k (q.getD i 0)))++rest))):=⟨_,rfl⟩
 rw[←h4e]
 have n4:h4.next=h3.next+16:=by rw[h4e];rfl
 have o4: ∀j,j≠id->h4.get j=h3.get j:=λj hj=>by rw[h4e,H.aH _ hj,H.aH _ hj];rfl
 have g4:h4.get id=some (.cells false (ints (zi (FX q i k))++rest)):=by rw[h4e,H.aS];rfl
 refine⟨n-(i+1),by omega,i+1,FX q i k,aA rfl,by omega,⟨⟨cap,rest,rfl,by omega,g4⟩,KP Q hi hkn⟩,t3.low (by omega) (λj hj=>o4 j (by omega)),?_,rfl⟩
 have f23:=f2.trans f3
 have:=f23.next
 exact⟨by omega,λj hj hjx=>by rw[o4 j (by omega)];exact f23.get j hj hjx⟩
end
theorem MH (h:H){v u:V}(hv1:v.one=true)(hu1:u.one=true):Gd h (.agg [v,u])=some (.ptr h.next 0,h.new (.cells false [v,u])):=vD h _ (by simp [hv1,hu1])
theorem LF {x y:V}(h:H)(id:Nat)(u:V):fO (cG [x,y]) h id 1 [u]=some (h.set id (cG [x,u])):=by
 simp [fO,putAt]
theorem BF {v z w:V}(hc:v.cells= [v])(ho:v.one=true):tZ [z,w] [(0,1,v)]=some (.agg [v,w]):=by
 have e1:putAt [z,w] 0 [v]=some [v,w]:=by simp [putAt]
 simp [tZ,jL,e1,hc,ho]
theorem yR.cell {x:Nat}{a c:H}(f:yR x a c){id off:Nat}(h1:id<a.next)(h2:id≠x):c.cell id off=a.cell id off:=by unfold H.cell;rw[f.get id h1 h2]
structure GJ (h hh:H)(T0 C D n:Nat)(l:List Int)(gens:LN):Prop where
 ex: ∃vg ws,hh.get C=cG [aB n,vg]/\eZ hh vg 1 ws (C+1)/\jN (λid=>id<=C∨ ∃off m c,vg= .sl id off m c) hh ws gens
 tk:Tk hh T0 l
 gD:hh.get D=cG [aB 0,.aC]
 dY: ∀g∈gens,bF n g
 nx:C<hh.next
 fr:Fr h hh
theorem Vg (vl:V)(l:List Int)(most:Nat)(h:H)(hv:SI h vl l)(hl:l.length<9223372036854775808)(m1:1<=most)(m2:most<=60):
  Ev T 17 [vl,aB most] h (λv h'=> ∃(n:Nat) (vg:V) (gens:LN),v= .agg [aB n,vg]/\1<=n/\n<=most/\gens.length<=3/\(∀g∈gens,bF n g)/\SP h' vg gens/\Fr h h'):=by
 refine bN uH rfl rfl ?_
 obtain⟨D,hD⟩:=exI h.next
 obtain⟨h1,e1,n1,g1,o1,f1⟩:=iX hD [aB 0,.aC]
 obtain⟨h2,e2,n2,g2,o2,f2⟩:=iX n1 [vl,aB 0]
 have wl:=SV.eI hv
 simp(disch:=omega)only[go_sem,uH,aE,hD,e1,BF wl.1 wl.2.1,MH h1 (v:=vl) (u:= aB 0) wl.2.1 rfl,n1,e2]
 have tk2:Tk h2 (D+1) l:=⟨vl,0,g2,hv.mono (f1.trans f2),λid off len c e=>by have:=SV.in hv _ _ _ _ e;omega,lL _,by omega⟩
 refine (nT (D+1) l most h2 tk2 hl (by omega) (by omega)).mono ?_
 rintro _ h3 ⟨z,rfl,hz0,hz1,tk3,f3⟩
 obtain⟨n,hn⟩: ∃n:Nat,1+z=(n:Int):=⟨(1+z).toNat,by omega⟩
 have n3:=f3.next
 obtain⟨C,hC⟩:=exI h3.next
 obtain⟨h4,e4,n4,g4,o4,f4⟩:=iX hC [aB 0,.aC]
 obtain⟨h5,e5,n5,g5,o5⟩:=Fq h4 C [aB n,.aC]
 simp(disch:=omega)only[go_sem,hn,hC,e4,BF (v:= aB n) (z:= aB 0) (w:= .aC) rfl rfl,Bx h4 C 0 (v:= aB n) (u:= .aC) rfl rfl,g4,yD,e5]
 have tk5:Tk h5 (D+1) l:=tk3.low (by omega) (λid hid=>by rw[o5 id (by omega),o4 id (by omega)])
 refine (nT (D+1) l 4 h5 tk5 hl (by omega) (by omega)).mono ?_
 rintro _ h6 ⟨z2,rfl,hk0,hk1,tk6,f6⟩
 obtain⟨K,rfl⟩: ∃K:Nat,z2=(K:Int):=⟨z2.toNat,by omega⟩
 have n6:=f6.next
 simp(disch:=omega)only[go_sem]
 refine aI (λk' vars hh=> ∃(k:Nat) (gens:LN),(∃g:Nat->V,vars= [vl,aB most,.ptr D 0,.ptr (D+1) 0,.ptr C 0,aB k,g 6,g 7,g 8,g 9,g 10])/\gens.length+k<=3/\GJ h hh (D+1) C D n l gens/\k'=k) K
  ⟨K, [],aA rfl,by simp;omega,⟨⟨.aC, [],by rw[f6.get C (by omega) (by omega)];exact g5,eZ.aC _ _ _,trivial⟩,tk6,?_,λg hg=>absurd hg List.not_mem_nil,by omega,?_⟩,rfl⟩ ?_
 ·rw[f6.get D (by omega) (by omega),o5 D (by omega),o4 D (by omega),f3.get D (by omega) (by omega),o2 D (by omega)];exact g1
 ·refine⟨by omega,λid hid=>?_⟩
  rw[f6.get id (by omega) (by omega),o5 id (by omega),o4 id (by omega),f3.get id (by omega) (by omega),o2 id (by omega),o1 id (by omega)]
 rintro k' vars h7 ⟨k,gens,⟨g,rfl⟩,hk,J,rfl⟩
 have cn:h7.cell C 0=some (aB n):=by
  obtain⟨⟨vg,ws,gC,_⟩,_⟩:=J;rw[H.aF gC];rfl
 by_cases hlt:(0:Int)<(k':Int)
 case neg=>
  have d1:=iZ hlt;obtain⟨⟨vg,ws,gC,ow,pvs⟩,tk,gD,dY,nx,fr⟩:=J;have rC:=Pv gC;obtain⟨h8,e8,n8,g8,o8⟩:=Fq h7 D [aB n,vg];have r8:=Pv g8;have wg:=SV.eI ow.sv;simp(disch:=omega)only[go_sem,d1,rC,Bx h7 D 0 (v:= aB n) (u:=vg) rfl wg.2.1,gD,yD,e8,r8]
  have x8:Fx (λid=>id<=C∨ ∃off m c,vg= .sl id off m c) h7 h8:=⟨by omega,λid _ hw=>o8 id (λe=>hw (.inl (by omega)))⟩
  have sv8:SV h8 vg 1 ws:=(ow.qN (h':=h8) (by omega) (λid off m c e hid=>by have:=(ow.in _ _ _ _ e).2.1;exact o8 id (by omega))).sv;refine⟨n,vg,gens,rfl,by omega,by omega,by omega,dY,⟨ws,sv8,?_⟩,⟨by have:=fr.next;omega,λid hid=>by rw[o8 id (by omega)];exact fr.get id hid⟩⟩;have pv8:=jN.fx pvs x8;have hl8:=cF.length pv8
  exact cF.mZ (by simpa using hl8) λi hi hj=>by
   have:=(cF.get pv8 i hi (by omega)).si;simpa using this
 have d1:=mL hlt
 have nx:=J.nx
 have hn0:0<n:=by omega
 have hn64:n<=64:=by omega
 simp(disch:=omega)only[go_sem,d1,cn]
 refine (Jp n h7 (by omega)).mono ?_
 rintro v6 h8 ⟨o6,f8⟩
 obtain⟨id6,mp8,hid6⟩:=Mp.of hn0 (bF.one n) o6
 simp(disch:=omega)only[go_sem]
 refine (nT (D+1) l 3 h8 (J.tk.mono f8) hl (by omega) (by omega)).mono ?_
 rintro _ h9 ⟨z3,rfl,_,_,tk9,f9⟩
 have fT9:yR (D+1) h7 h9:=(yR.of f8).trans f9
 have mp9:Mp h9 v6 n id6 (bI n):=mp8.mono f9.next (f9.get id6 (by obtain⟨⟨_,_,_,h5,_⟩,_⟩:=mp8;exact h5) (by omega))
 have cell7: ∀hh,yR (D+1) h7 hh->hh.cell C 0=some (aB n):=λhh f=>by rw[f.cell nx (by omega)];exact cn
 simp(disch:=omega)only[go_sem]
 refine oY (λvs hh=> ∃(v6:V) (x:List Nat),(∃g:Nat->V,vs= [vl,aB most,.ptr D 0,.ptr (D+1) 0,.ptr C 0,aB (k':Int),v6,g 7,g 8,g 9,g 10])/\SI hh v6 (zi x)/\bF n x/\(∀id off len cap,v6= .sl id off len cap->h7.next<=id)/\Tk hh (D+1) l/\yR (D+1) h7 hh) ?_ ?_
 ·refine aY (λ_=>?_) (λ_=>?_)
  ·simp(disch:=omega)only[go_sem,cell7 h9 fT9]
   refine (NV (D+1) l n h9 hn64 hn0 tk9 hl).mono ?_
   rintro w h10 ⟨id,q,mp,hid,tk10,f10⟩
   have n9:=fT9.next
   simp(disch:=omega)only[go_sem]
   refine .inl ⟨w,q,aA rfl,mp.si,mp.dY,λid' off len cap e=>?_,tk10,fT9.trans f10⟩
   obtain⟨⟨_,_,e2,_⟩,_⟩:=mp
   rw[e2] at e;cases e;omega
  ·simp(disch:=omega)only[go_sem,cell7 h9 fT9]
   refine (nT (D+1) l n h9 tk9 hl (by omega) (by omega)).mono ?_
   rintro _ h10 ⟨z4,rfl,a4,b4,tk10,f10⟩
   obtain⟨a,rfl⟩: ∃a:Nat,z4=(a:Int):=⟨z4.toNat,by omega⟩
   have fT10:=fT9.trans f10
   simp(disch:=omega)only[go_sem,cell7 h10 fT10]
   refine (nT (D+1) l ((n:Int)-(a:Int)) h10 tk10 hl (by omega) (by omega)).mono ?_
   rintro _ h11 ⟨z5,rfl,a5,b5,tk11,f11⟩
   obtain⟨c,rfl⟩: ∃c:Nat,z5=(c:Int):=⟨z5.toNat,by omega⟩
   have fT11:=fT10.trans f11
   have f911:=f10.trans f11
   have id9:id6<h9.next:=by obtain⟨⟨_,_,_,h5,_⟩,_⟩:=mp9;exact h5
   have mp11:Mp h11 v6 n id6 (bI n):=mp9.mono f911.next (f911.get id6 id9 (by omega))
   have eb:(a:Int)+1+(c:Int)=((a+1+c:Nat):Int):=by omega
   simp(disch:=omega)only[go_sem,eb]
   refine (Rl h11 v6 n id6 a (a+1+c) hn64 mp11 (by omega) (by omega)).mono ?_
   rintro w h12 ⟨hw,mp12,f12⟩
   have hw':=hw.symm
   subst hw'
   have n8:=fT9.next
   have n9:=f911.next
   have n12:=f12.next
   have fT12:yR (D+1) h7 h12:=⟨by omega,λid hid hne=>by rw[f12.get id (by omega) (by omega),f911.get id (by omega) hne];exact fT9.get id hid hne⟩
   have tk12:Tk h12 (D+1) l:=tk11.low n12 (λid hid=>f12.get id (by omega) (by omega))
   have id12:id6<h12.next:=by omega
   simp(disch:=omega)only[go_sem,cell7 h12 fT12]
   refine (nT (D+1) l n h12 tk12 hl (by omega) (by omega)).mono ?_
   rintro _ h13 ⟨z6,rfl,a6,b6,tk13,f13⟩
   obtain⟨a2,rfl⟩: ∃a:Nat,z6=(a:Int):=⟨z6.toNat,by omega⟩
   simp(disch:=omega)only[go_sem]
   refine (nT (D+1) l 2 h13 tk13 hl (by omega) (by omega)).mono ?_
   rintro _ h14 ⟨z7,rfl,a7,b7,tk14,f14⟩
   have fT14:=(fT12.trans f13).trans f14
   have f1214:=f13.trans f14
   have n14:=f1214.next
   have mp14:Mp h14 v6 n id6 _:=mp12.mono f1214.next (f1214.get id6 id12 (by omega))
   have fr6: ∀id off len cap,v6= .sl id off len cap->h7.next<=id:=λid' off len cap e=>by
    obtain⟨⟨_,_,e2,_⟩,_⟩:=mp14;rw[e2] at e;cases e;omega
   simp(disch:=omega)only[go_sem]
   refine aY (λhz=>?_) (λhz=>?_)
   ·have v6e:=SV.eH mp14.si
    simp(disch:=omega)only[go_sem,cell7 h14 fT14]
    have fb:Fr h14 (H.mk h14.tr (h14.next+17)):=(Fr.refl h14).bJ (by omega)
    refine (Jp n _ (by omega)).mono ?_
    rintro w h15 ⟨ow,f15⟩
    obtain⟨idw,mp15,hidw⟩:=Mp.of hn0 (bF.one n) ow
    have n15:=f15.next
    have hb:(H.mk h14.tr (h14.next+17)).next=h14.next+17:=rfl
    rw[hb] at hidw n15
    have f1415:=fb.trans f15
    have fT15:=fT14.trans (yR.of f1415)
    have idw15:idw<h15.next:=by obtain⟨⟨_,_,_,h5,_⟩,_⟩:=mp15;exact h5
    simp(disch:=omega)only[go_sem,cell7 h15 fT15]
    refine (nT (D+1) l ((n:Int)-(a2:Int)) h15 (tk14.mono f1415) hl (by omega) (by omega)).mono ?_
    rintro _ h16 ⟨z8,rfl,a8,b8,tk16,f16⟩
    obtain⟨c2,rfl⟩: ∃c:Nat,z8=(c:Int):=⟨z8.toNat,by omega⟩
    have fT16:=fT15.trans f16
    have n16:=f16.next
    have n147:=fT14.next
    have mp16:Mp h16 w n idw (bI n):=mp15.mono f16.next (f16.get idw idw15 (by omega))
    have eb2:(a2:Int)+1+(c2:Int)=((a2+1+c2:Nat):Int):=by omega
    simp(disch:=omega)only[go_sem,cell7 h16 fT16,eb2]
    refine (Rl h16 w n idw a2 (a2+1+c2) hn64 mp16 (by omega) (by omega)).mono ?_
    rintro w' h17 ⟨hw2,mp17,f17⟩
    have hw2':=hw2.symm
    subst hw2'
    have n17:=f17.next
    have fT17:yR (D+1) h7 h17:=⟨by have:=fT16.next;omega,λid hid hne=>by rw[f17.get id (by have:=fT16.next;omega) (by omega)];exact fT16.get id hid hne⟩
    have tk17:Tk h17 (D+1) l:=tk16.low n17 (λid hid=>f17.get id (by omega) (by omega))
    have id14:id6<h14.next:=by obtain⟨⟨_,_,_,h5,_⟩,_⟩:=mp14;exact h5
    have mp617:Mp h17 v6 n id6 _:=mp14.mono (by omega) (by rw[f17.get id6 (by omega) (by omega),f16.get id6 (by omega) (by omega),f1415.get id6 id14])
    simp(disch:=omega)only[go_sem,cell7 h17 fT17,v6e]
    refine (Zo v6 w _ _ h17 (by rw[mp617.dY.len];omega) mp617.si mp17.si (λj hj=>by rw[mp17.dY.len];exact mp617.dY.eY (by rw[←mp617.dY.len];exact hj))).mono ?_
    rintro v h18 ⟨s18,f18,l18⟩
    have fT18:=fT17.trans (yR.of f18)
    simp(disch:=omega)only[go_sem,cell7 h18 fT18,v6e]
    exact .inl ⟨v,_,aA rfl,s18,mp617.dY.mul mp17.dY,λid off len cap e=>by have:=l18 _ _ _ _ e;have:=fT17.next;omega,tk17.mono f18,fT18⟩
   ·simp(disch:=omega)only[go_sem]
    exact .inl ⟨v6,_,aA rfl,mp14.si,mp14.dY,fr6,tk14,fT14⟩
 clear mp8 mp9 o6 f8 tk9 fT9 v6 h8 h9 f9 hid6
 rintro vars h8 ⟨v6,x,⟨g,rfl⟩,sx,X,fr6,tk8,f8⟩
 obtain⟨⟨vg,ws,gC,ow,pvs⟩,_,gD,dY,_,fr⟩:=J
 have n8:=f8.next
 have hvin:=λid off m c (e:vg=V.sl id off m c)=>ow.in id off m c e
 have hlw:=cF.length pvs
 have gC8:h8.get C=cG [aB n,vg]:=by rw[f8.get C nx (by omega)];exact gC
 have c8:h8.cell C 1=some vg:=by rw[H.aF gC8];rfl
 have frn:=fr.next
 have Fr8:Fr h h8:=⟨by omega,λid hid=>by rw[f8.get id (by omega) (by omega)];exact fr.get id hid⟩
 have ow8:eZ h8 vg 1 ws (C+1):=ow.qN n8 λid off m c e hid=>by have:=(hvin _ _ _ _ e).2.1;exact f8.get id hid (by omega)
 have pv8:jN (λid=>id<=C∨ ∃off m c,vg= .sl id off m c) h8 ws gens:=jN.fx pvs ⟨n8,λid hid hw=>f8.get id hid (λe=>hw (.inl (by omega)))⟩
 have px:PV (λid=>id<=C∨ ∃off m c,vg= .sl id off m c) h8 v6 x:=by
  refine⟨sx,?_⟩
  cases v6 with
  |sl id off len cap=>
   have:=fr6 _ _ _ _ rfl;rintro (h|⟨off',m',c',e⟩)
   ·omega
   ·have:=(hvin _ _ _ _ e).1;omega
  |_=>trivial
 obtain⟨h9,e9,n9,g9,o9,f9⟩:=iX (h:=h8) rfl [v6]
 have ow9:=ow8.fr f9
 obtain⟨h10,a10,p10⟩:=ow9.push (bytes:=24) (SV.one (by omega) g9 (.kn 1)) (n:=gens.length) (m:=1) (by omega) rfl (by omega) (by omega) (by omega)
 have n10:=p10.next
 rw[n9] at a10
 have apC:dO vg C:=λid off m c e e2=>by have:=(hvin _ _ _ _ e).2.1;omega
 have gC10:h10.get C=cG [aB n,vg]:=by rw[p10.old C (by omega) apC,o9 C (by omega)];exact gC8
 obtain⟨h11,e11,n11,g11,o11⟩:=Fq h10 C [aB n,.sl (h8.next+1) 0 (gens.length+1) (.un 1)]
 simp(disch:=omega)only[go_sem,c8,dV _ (z:= .aC) px.gX.1 px.gX.2,e9,a10,gC10,LF,e11]
 have ek:(k':Int)- 1=((k'- 1:Nat):Int):=by omega
 rw[ek]
 have old: ∀id,id<h8.next->id≠C->dO vg id->h11.get id=h8.get id:=λid h1 h2 h3=>by rw[o11 id h2,p10.old id (by omega) h3,o9 id (by omega)]
 have apl: ∀id,id<=C->dO vg id:=λid hid id' off m c e e2=>by have:=(hvin _ _ _ _ e).2.1;omega
 have ow11:=p10.own (by omega) rfl (b:=C+1) (by omega)
 rw[n9] at ow11
 have x11:Fx (λid=>id<=C∨ ∃off m c,vg= .sl id off m c) h8 h11:=⟨by omega,λid hid hw=>old id hid (λe=>hw (.inl (by omega))) (λid' off m c e e2=>hw (.inr ⟨off,m,c,e2▸e⟩))⟩
 have hw11: ∀id,id<h8.next->(id<=C∨ ∃off m c,V.sl (h8.next+1) 0 (gens.length+1) (.un 1)= .sl id off m c)->(id<=C∨ ∃off m c,vg= .sl id off m c):=λid hid hw=>by
  rcases hw with hw|⟨off,m,c,e⟩
  ·exact .inl hw
  ·cases e;omega
 refine⟨k'- 1,by omega,k'- 1,gens++ [x],aA rfl,by rw[oF];simp;omega,⟨⟨_,_,g11,ow11.qN (by omega) (λid off m c e hid=>by cases e;exact o11 _ (by omega)),(jN.go pv8 x11 hw11).append (jN.one (PV.go px x11 hw11))⟩,tk8.low (by omega) (λid hid=>old id (by omega) (by omega) (apl id (by omega))),?_,λu hu=>?_,by omega,⟨by omega,λid hid=>?_⟩⟩,rfl⟩
 ·rw[old D (by omega) (by omega) (apl D (by omega)),f8.get D (by omega) (by omega)];exact gD
 ·rcases Ks.1 hu with hu|hu
  ·exact dY u hu
  ·simp at hu;subst hu;exact X
 ·rw[old id (by omega) (by omega) (apl id (by omega))];exact Fr8.get id hid
set_option maxRecDepth 100000
section
variable {x:List Nat}
section
variable {n:Nat} {G:List Nat->Prop} {L:LN} {K:List Nat}
theorem Er (E:fL G L){y:List Nat}(hy:G y):L.idxOf y<L.length/\L.getD (L.idxOf y) []=y:=by
 have h1:=(E.mem y).2 hy;have h2:=List.idxOf_lt_length_iff.2 h1;refine⟨h2,?_⟩;rw[List.getD,iD h2];simp
theorem Dh.lt (k:Dh n G L K){r:Nat}(hr:r∈K):r<L.length:=(oT.1 (k.perm.mem_iff.1 hr)).1
theorem Dh.nd (k:Dh n G L K):K.Nodup:=k.perm.nodup_iff.2 (by unfold jK;exact List.nodup_range.filter _)
theorem Qw {c:List Nat}(X:bF n x)(C:bF n c):iM x c=bI n↔x=bI n:=by
 constructor
 ·intro h
  have e:=zL X C;rw[h] at e;rw[←e];show aU (aU (dA (dA c)) (bI n)) (dA c)=bI n;rw[bU C.inv.inv,fM C.inv]
 ·rintro rfl
  show aU (aU (dA c) (bI n)) c=bI n;rw[bU C.inv,fM C]
theorem SK (X:bF n x){a b:Nat}(h:a%fN x n=b%fN x n):pw n x a=pw n x b:=by
 rw[MY X a,MY X b,h]
noncomputable def zp (n:Nat)(x:List Nat)(z:Int):List Nat:=pw n x (z%(fN x n:Nat)).toNat
theorem aaZ (X:bF n x){z:Int}{a:Nat}(h:(a:Int)%(fN x n:Nat)=z%(fN x n:Nat)):zp n x z=pw n x a:=by
 have o:=rY X;unfold zp;refine SK X ?_;have h1:=Int.emod_nonneg z (b:=(fN x n:Nat)) (by omega);have h2:=Int.emod_lt_of_pos z (b:=(fN x n:Nat)) (by omega);have h3:(z%(fN x n:Nat)).toNat%fN x n=(z%(fN x n:Nat)).toNat:=Nat.mod_eq_of_lt (by omega);rw[h3];omega
theorem VW (z:Int)(r:Nat):Qq n G L K z r=fS G L K (L.idxOf (zp n (L.getD r []) z)):=rfl
variable (hG:sZ n G) (E:fL G L) (k:Dh n G L K)
include hG E k
theorem vJ {j:Nat}(hj:j<L.length):fS G L K j<K.length/\cR G L (K.getD (fS G L K j) 0) j:=by
 obtain⟨i,hi,h⟩:=En hG E k.perm hj;have e:=Gn hG E k.perm hi h;rw[e];exact⟨hi,(mK.1 h).2⟩
theorem GD {i j:Nat}(hi:i<L.length)(hj:j<L.length)(h:cR G L i j):fS G L K i=fS G L K j:=by
 obtain⟨h1,h2⟩:=vJ hG E k hi;have hr:K.getD (fS G L K i) 0<L.length:=k.lt (bB h1);exact ((Bz hG E k.perm h1 hj).2 (qE hG E hr h2 h)).symm
omit hG E k in
theorem Ca (X:bF n x):fN x n=1↔x=bI n:=by
 constructor
 ·intro h
  have:=(pQ X 1).1 (by rw[h];exact Nat.dvd_refl _);rwa [Gl X] at this
 ·intro h
  have:=(pQ X 1).2 (by rw[Gl X];exact h);exact Nat.dvd_one.1 this
theorem Cc:0<K.length/\K.getD 0 0=0:=by
 obtain⟨h0,h1⟩:=Db hG E;have hm:0∈K:=k.perm.mem_iff.2 (oT.2 ⟨h0,λj hj=>by omega⟩);have hl:=List.length_pos_of_mem hm;refine⟨hl,?_⟩;obtain⟨i,hi,ei⟩:=Ge.1 hm
 by_cases e:i=0
 ·subst e;rw[List.getD,iD hl];exact ei
 ·have:=List.pairwise_iff_getElem.1 k.asc 0 i hl hi (by omega)
  rw[ei] at this;have e1:fN (L.getD 0 []) n=1:=(Ca (by rw[h1];exact bF.one n)).2 h1;have hr:K[0]<L.length:=k.lt (List.getElem_mem hl);have X:=kP hG E hr;have p:=rY X;unfold WJ at this;rw[e1] at this;have h2:fN (L.getD K[0] []) n=1:=by omega
  have h3:=(Ca X).1 h2;rw[←h1] at h3;have:=Iu E.nodup hr h0 h3;rw[List.getD,iD hl];exact this
theorem DL {y:List Nat}(hy:G y):fS G L K (L.idxOf y)=0↔y=bI n:=by
 obtain⟨h0,h1⟩:=Db hG E;obtain⟨k0,k1⟩:=Cc hG E k;obtain⟨j1,j2⟩:=Er E hy;rw[Bz hG E k.perm k0 j1,k1];unfold cR cj;rw[j2,h1];constructor
 ·rintro⟨g,hg,e⟩
  rw[←e];exact (Qw (bF.one n) (hG.dY hg)).2 rfl
 ·rintro rfl
  exact⟨bI n,hG.one,zE (bF.one n)⟩
end
end
def RT (n:Nat)(x:List Nat):Nat->Nat->Nat
 |0,k=>k
 |f+1,k=>if pw n x k=bI n then k else RT n x f (k+1)
def Vd (n:Nat)(x:List Nat):Nat:=RT n x 420 1
theorem Zc {n:Nat}{x:List Nat}(X:bF n x): ∀f k,0<k->k<=fN x n->fN x n<=k+f->RT n x f k=fN x n
 |0,k,_,h1,h2=>by show k=_;omega
 |f+1,k,h0,h1,h2=>by
  unfold RT;split
  ·rename_i e
   exact Nat.le_antisymm h1 (Nat.le_of_dvd h0 ((pQ X k).2 e))
  ·rename_i e
   refine Zc X f (k+1) (by omega) ?_ (by omega)
   by_cases h:k=fN x n
   ·exact absurd ((pQ X k).1 (by rw[h];exact Nat.dvd_refl _)) e
   ·omega
theorem QK {n:Nat}{x:List Nat}(X:bF n x)(hn:n<=7):fN x n=Vd n x:=
 (Zc X 420 1 (by omega) (rY X) (by have:=Nat.le_of_dvd (by omega) (Tb X hn);omega)).symm
def cRb (L:LN)(i j:Nat):Bool:=L.any λc=>iM (L.getD i []) c==L.getD j []
def FF (L:LN)(i:Nat):List Nat:=(List.range L.length).filter (cRb L i)
def Tp (L:LN):List Nat:=(List.range L.length).filter λj=>(List.range j).all λi=>!cRb L i j
def PH (L:LN)(K:List Nat)(j:Nat):Nat:=K.findIdx λr=>cRb L r j
def YD (n:Nat)(L:LN)(r s:Nat):Bool:=decide (Vd n (L.getD r [])<Vd n (L.getD s [])∨Vd n (L.getD r [])=Vd n (L.getD s [])/\((FF L r).length<(FF L s).length∨(FF L r).length=(FF L s).length/\r<s))
section
variable {n:Nat} {G:List Nat->Prop} {L:LN} {K:List Nat}
theorem YM (E:fL G L){x y:List Nat}:cj G x y↔(L.any λc=>iM x c==y)=true:=by
 rw[List.any_eq_true];constructor
 ·rintro⟨c,hc,e⟩
  exact⟨c,(E.mem c).2 hc,by simpa using e⟩
 ·rintro⟨c,hc,e⟩
  exact⟨c,(E.mem c).1 hc,by simpa using e⟩
theorem Ww (E:fL G L){i j:Nat}:cR G L i j↔cRb L i j=true:=YM E
theorem MJ (E:fL G L)(i j:Nat)(d:Decidable (cR G L i j)): @decide (cR G L i j) d=cRb L i j:=by
 rw[Bool.eq_iff_iff,decide_eq_true_iff];exact Ww E
theorem Zt (E:fL G L)(i:Nat):iN G L i=FF L i:=by
 unfold iN FF;exact List.filter_congr λj _=>MJ E i j _
theorem PB (E:fL G L):jK G L L.length=Tp L:=by
 unfold jK Tp;refine List.filter_congr λj _=>?_
 classical
 rw[Bool.eq_iff_iff,decide_eq_true_iff,List.all_eq_true];unfold AW;constructor
 ·intro h i hi
  have:=h i (Kw.1 hi);rw[Ww E] at this;simpa using this
 ·intro h i hi
  have:=h i (Kw.2 hi);rw[Ww E];simpa using this
theorem Pj (E:fL G L)(j:Nat):fS G L K j=PH L K j:=by
 unfold fS PH;congr 1;funext r;exact MJ E r j _
theorem acH (hG:sZ n G)(E:fL G L): ∀x∈L,bF n x:=λx hx=>hG.dY ((E.mem x).1 hx)
theorem Vw (hG:sZ n G)(E:fL G L)(hn:n<=7){r:Nat}(hr:r<L.length):fN (L.getD r []) n=Vd n (L.getD r []):=QK (acH hG E _ (bB hr)) hn
theorem UZ (hG:sZ n G)(E:fL G L)(hn:n<=7){r s:Nat}(hr:r<L.length)(hs:s<L.length):WJ n G L r s↔YD n L r s=true:=by
 unfold WJ YD;rw[decide_eq_true_iff,Vw hG E hn hr,Vw hG E hn hs,Zt E,Zt E]
def LS (n:Nat)(L:LN)(K:List Nat):Bool:=K.isPerm (Tp L)&&decide (K.Pairwise λr s=>YD n L r s=true)
theorem LS.isK (hG:sZ n G)(E:fL G L)(hn:n<=7)(h:LS n L K=true):Dh n G L K:=by
 unfold LS at h;rw[Bool.and_eq_true,decide_eq_true_iff] at h;have p:K.Perm (Tp L):=List.isPerm_iff.1 h.1
 have hm: ∀r∈K,r<L.length:=λr hr=>by
  have:=p.mem_iff.1 hr;unfold Tp at this;exact Kw.1 (MZ.1 this).1
 exact⟨by rw[PB E];exact p,List.Pairwise.imp_of_mem (λhr hs h=>(UZ hG E hn (hm _ hr) (hm _ hs)).2 h) h.2⟩
theorem LS.eq (hG:sZ n G)(E:fL G L)(hn:n<=7){K0:List Nat}(h:LS n L K0=true)(k:Dh n G L K):K=K0:=k.uniq (LS.isK hG E hn h)
end
def acE (n:Nat)(S:LN)(w:List Nat):List Nat:=w.foldl (λx i=>aU x (S.getD i [])) (bI n)
theorem Uq {n:Nat}{S:LN}: ∀(w:List Nat) (x:List Nat),(∀i∈w,i<S.length)->dS n (· ∈S) x->dS n (· ∈S) (w.foldl (λx i=>aU x (S.getD i [])) x)
 | [],_,_,h=>h
 |i::w,x,hw,h=>Uq w _ (λj hj=>hw j (by simp [hj])) (h.mul (bB (hw i (by simp))))
def OG (n:Nat)(S L:LN)(ws:LN):Bool:=
 L==ws.map (acE n S)&&ws.all (λw=>w.all λi=>decide (i<S.length))&&decide (L.Pairwise λx y=>sH x y=true)&&L.all (λx=>x.length==n)&&L.contains (bI n)&&L.all λx=>S.all λg=>L.contains (aU x g)
theorem OG.abE {n:Nat}{S L:LN}{ws:LN}(h:OG n S L ws=true):fL (dS n (· ∈S)) L:=by
 unfold OG at h;simp only[Bool.and_eq_true,beq_iff_eq,List.all_eq_true,decide_eq_true_iff,List.contains_iff_mem] at h;obtain⟨⟨⟨⟨⟨h1,h2⟩,h3⟩,h4⟩,h5⟩,h6⟩:=h;refine⟨List.Pairwise.imp_of_mem (λhx hy h=>(nG (by rw[h4 _ hx,h4 _ hy])).1 h) h3,λx=>⟨λhx=>?_,λhx=>?_⟩⟩
 ·rw[h1] at hx
  obtain⟨w,hw,rfl⟩:=xB.1 hx;exact Uq w _ (h2 w hw) .one
 ·induction hx with
  |one=>exact h5
  |mul _ hg ih=>exact h6 _ ih _ hg
def C4:LN:= [[1,2,3,0]]
def A4:LN:= [[1,2,0,3], [0,2,3,1]]
def L3:LN:= [[0,1,2], [0,2,1], [1,0,2], [1,2,0], [2,0,1], [2,1,0]]
def L4:LN:= [[0,1,2,3], [1,2,3,0], [2,3,0,1], [3,0,1,2]]
theorem Zw:fL (dS 4 (· ∈C4)) L4:=OG.abE (ws:= [[], [0], [0,0], [0,0,0]]) (by decide+kernel)
theorem WC:LS 3 L3 [0,1,3]=true:=by decide+kernel
theorem abO:LS 4 L4 [0,2,1,3]=true:=by decide+kernel
def Lu (n:Nat)(x:List Nat):Bool:=x.length==n&&decide x.Nodup&&x.all λp=>decide (p<n)
theorem Tg {n:Nat}{x:List Nat}(h:Lu n x=true):bF n x:=by
 unfold Lu at h;simp only[Bool.and_eq_true,beq_iff_eq,List.all_eq_true,decide_eq_true_iff] at h;exact⟨h.1.1,h.1.2,h.2⟩
theorem aaE: ∀g∈C4,bF 4 g:=λg hg=>Tg ((List.all_eq_true.1 (show C4.all (Lu 4)=true by decide+kernel)) g hg)
theorem Vl (h:H)(x y z:Int):tC h 1 [aB 0] 3 [(0,1,aB x),(1,1,aB y),(2,1,aB z)]=some (.sl h.next 0 3 (.kn 3),h.new (.cells false (ints [x,y,z]))):=by
 have e:dW [aB 0] 3= [aB 0,aB 0,aB 0]:=rfl;simp [tC,jL,e,putAt,V.cells,V.one,ints]
theorem IM (h:H)(x y z w:Int):tC h 1 [aB 0] 4 [(0,1,aB x),(1,1,aB y),(2,1,aB z),(3,1,aB w)]=some (.sl h.next 0 4 (.kn 4),h.new (.cells false (ints [x,y,z,w]))):=by
 have e:dW [aB 0] 4= [aB 0,aB 0,aB 0,aB 0]:=rfl;simp [tC,jL,e,putAt,V.cells,V.one,ints]
theorem ZY (h:H){v u:V}(hv:v.cells= [v]/\v.one=true)(hu:u.cells= [u]/\u.one=true):tC h 1 [.aC] 2 [(0,1,v),(1,1,u)]=some (.sl h.next 0 2 (.kn 2),h.new (.cells false [v,u])):=by
 have e:dW [V.aC] 2= [.aC,.aC]:=rfl;simp [tC,jL,e,putAt,hv.1,hv.2,hu.1,hu.2]
theorem xN (id o m:Nat)(c:qF):(V.sl id o m c).cells= [.sl id o m c]/\(V.sl id o m c).one=true:=⟨rfl,rfl⟩
theorem VM {h:H}{ID:Nat}(hid:h.next=ID)(l:List Int): ∃x,h.new (.cells false (ints l))=x/\x.next=ID+1/\SI x (.sl ID 0 l.length (.kn l.length)) l/\Fr h x:=by
 obtain⟨x,e,n,g,o,f⟩:=iX hid (ints l);exact⟨x,e,n,SV.all (by rw[aN,Nat.mul_one]) (by omega) g _,f⟩
theorem SP.two {h h':H}{id:Nat}{v u:V}{a b:List Nat}(hv:SI h v (zi a))(hu:SI h u (zi b))(hid:id<h'.next)(f:Fr h h')(g:h'.get id=cG [v,u])(cap:qF):SP h' (.sl id 0 2 cap) [a,b]:=
 ⟨[v,u],SV.all rfl hid g _,hv.mono f,hu.mono f,trivial⟩
theorem SP.abW {h h':H}{id:Nat}{v:V}{a:List Nat}(hv:SI h v (zi a))(hid:id<h'.next)(f:Fr h h')(g:h'.get id=cG [v])(cap:qF):SP h' (.sl id 0 1 cap) [a]:=
 ⟨[v],SV.all rfl hid g _,hv.mono f,trivial⟩
theorem GC.sl {W:Nat->Prop}{h:H}{vc:V}{n:Nat}{O:LN}{R:pF}{G:List Nat->Prop}(g:GC W h vc n O R G): ∃vO vR,vc= .agg [aB n,vO,vR]/\vO.one=true/\vR.one=true/\eH vO vO=true/\eH vR vR=true:=by
 obtain⟨vO,vR,wsO,wsR,e,t1,_,_,t2,_,_⟩:=g.cw;exact⟨vO,vR,e,t1.eI.2.1,t2.eI.2.1,t1.eH,t2.eH⟩
theorem GC.el {W:Nat->Prop}{h:H}{vc:V}{n:Nat}{O:LN}{R:pF}{G:List Nat->Prop}{L:LN}(g:GC W h vc n O R G)(E:fL G L):dC O R n 0 (bI n)=L:=(iT g.nC g.isc).1.uniq E
theorem uK {v:V}{h:H}{l:List Int}(s:SI h v l):v.cells= [v]/\v.one=true:=⟨(SV.eI s).1,(SV.eI s).2.1⟩
theorem dT {i:Decidable True}: @decide True i=true:=decide_eq_true trivial
def SB (h:H)(v:V)(l:List Bool):Prop:=SV h v 1 (l.map V.bool)
theorem SB.mono {h h':H}{v:V}{l:List Bool}(s:SB h v l)(f:Fr h h'):SB h' v l:=SV.mono s f
theorem SB.open {h:H}{v:V}{l:List Bool}(s:SB h v l):dN v=some (aB (l.length:Int))/\ ∃id off,Sl v 1 l.length id off/\ ∀i,i<l.length->id<h.next/\h.cell id (off+i)=some (.bool (l.getD i false)):=by
 have hl:(l.map V.bool).length=l.length:=rK ..;refine⟨by unfold dN;rw[SV.len s (n:=l.length) (by omega) (by omega)];rfl,?_⟩;obtain⟨id,off,sh,hid,hc⟩:=SV.shape s l.length (by omega) (by omega);exact⟨id,off,sh,λi hi=>⟨hid (by omega),by rw[hc i (by omega),List.getElem?_map,List.getD,iD hi];rfl⟩⟩
set_option maxRecDepth 100000
theorem GC.all {W:Nat->Prop}{h:H}{vc:V}{n:Nat}{O:LN}{R:pF}{G:List Nat->Prop}(g:GC W h vc n O R G):fL G (dC O R n 0 (bI n))/\(dC O R n 0 (bI n)).length<=5040:=by
 have e:=iT g.nC g.isc;exact⟨e.1,by rw[e.2];exact mN g⟩
theorem Wx {n:Nat}{a b x:List Nat}(A:bF n a)(B:bF n b)(X:bF n x):iM (aU a b) x=aU (iM a x) (iM b x):=by
 unfold iM;rw[aW (X.inv.mul A) X (X.inv.mul B|>.mul X),←aW X (X.inv.mul B) X,←aW X X.inv B,iI X,fF B,←aW (X.inv.mul A) B X,aW X.inv A B]
section
variable {n:Nat} {G H:List Nat->Prop} {L M:LN} {K K':List Nat} {x:List Nat}
variable (hG:sZ n G) (E:fL G L) (k:Dh n G L K) (hH:sZ n H) (F:fL H M) (k':Dh n H M K') (X:bF n x) (hx: ∀y,H y↔ ∃g,G g/\iM g x=y)
include hG E k hH F k' X hx
end
def fI (v:V)(id:Nat):Prop:= ∃off m c,v= .sl id off m c
theorem jN.sp' {W:Nat->Prop}{h:H}{v:V}{ws:List V}{l:LN}(sv:SV h v 1 ws)(p:jN W h ws l):SP h v l:=by
 refine⟨ws,sv,?_⟩;have hl:=cF.length p
 exact cF.mZ (by simpa using hl) λi hi hj=>by
  have:=(cF.get p i hi (by omega)).si;simpa using this
section
variable {h:H} {v:V} {ws:List V} {b k n:Nat} {x y:List Nat} {A S Q:LN}
def Rc (h:H)(v:V)(ws:List V)(b:Nat):Prop:= ∃id cap rest,v= .sl id 0 ws.length cap/\b<=id/\id<h.next/\h.get id=cG (ws++rest)/\(cap= .un 1∨cap= .kn 1/\ws.length+rest.length=1)
theorem Rc.sv (t:Rc h v ws b):SV h v 1 ws:=by
 obtain⟨id,cap,rest,rfl,h1,h2,h3,_⟩:=t;exact .inr ⟨id,0,_,cap,false,_,rfl,(Nat.mul_one _).symm,h2,h3,by rw[oF];omega,by rw[List.drop_zero,Nat.mul_one,List.take_left' rfl]⟩
theorem Rc.qN {h':H}(t:Rc h v ws b)(hn:h.next<=h'.next)(hg: ∀id,fI v id->h'.get id=h.get id):Rc h' v ws b:=by
 obtain⟨id,cap,rest,e,h1,h2,h3,h4⟩:=t;exact⟨id,cap,rest,e,h1,by omega,by rw[hg id ⟨_,_,_,e⟩];exact h3,h4⟩
theorem Rc.in (t:Rc h v ws b){id:Nat}(hb:fI v id):b<=id/\id<h.next:=by
 obtain⟨i,cap,rest,rfl,h1,h2,_⟩:=t;obtain⟨_,_,_,e⟩:=hb;cases e;exact⟨h1,h2⟩
theorem Rc.pop (t:Rc h v ws b)(hk:ws.length=k+1):
  ∃v',uV 1 v none (some (aB k)) none=some v'/\Rc h v' (ws.take k) b/\ ∀id,fI v' id->fI v id:=by
 obtain⟨id,cap,rest,rfl,h1,h2,h3,h4⟩:=t
 have hl:(ws.take k).length=k:=by rw[Ky];omega
 have hr:ws++rest=ws.take k++(ws.drop k++rest):=by rw[←List.append_assoc,List.take_append_drop]
 rcases h4 with rfl|⟨rfl,h5⟩
 ·refine⟨_,XD (by omega) (by omega),⟨id,_,ws.drop k++rest,by rw[hl,Int.toNat_natCast],h1,h2,by rw[h3,hr],.inl rfl⟩,λi ⟨_,_,_,e⟩=>by cases e;exact⟨_,_,_,rfl⟩⟩
 ·refine⟨_,WX (by omega) (by omega),⟨id,_,ws.drop k++rest,by rw[hl,Int.toNat_natCast],h1,h2,by rw[h3,hr],.inr ⟨rfl,by rw[hl,oF,List.length_drop];omega⟩⟩,λi ⟨_,_,_,e⟩=>by cases e;exact⟨_,_,_,rfl⟩⟩
theorem Rc.push {y:V}{S:Nat}{c:qF}(t:Rc h v ws b)(hS:SV h (.sl S 0 1 c) 1 [y])(hb:b<=h.next)(hw:ws.length<1000000):
  ∃v' h',Au h 1 24 v (.sl S 0 1 c)=some (v',h')/\Rc h' v' (ws++ [y]) b/\(∀k,k<h.next-> ¬fI v k->h'.get k=h.get k)/\h.next<=h'.next/\h'.next<=h.next+1/\ ∀k,fI v' k->fI v k∨k=h.next:=by
 have e1:Au h 1 24 v (.sl S 0 1 c)=Ay.vX h 1 24 v 1 [y]:=by
  simp only[Au,hS.len (n:=1) rfl (by omega),hS.slice]
 rw[e1]
 have hx:=t.sv
 have hlen:=hx.len (n:=ws.length) (by omega) (by omega)
 have hsl:=hx.slice
 obtain⟨id,cap,rest,rfl,h1,h2,h3,h4⟩:=t
 unfold Ay.vX
 simp only[hlen,hsl]
 rw[if_neg (by omega),if_pos ⟨by omega,by omega⟩]
 have key: ∀g:H,g.next=h.next->(∀k,k<h.next->k≠id->g.get k=h.get k)-> ∃v' h',some (V.sl h.next 0 (ws.length+1) (.un 1),g.new (.cells false (ws++ [y])))=some (v',h')/\Rc h' v' (ws++ [y]) b/\(∀k,k<h.next-> ¬fI (.sl id 0 ws.length cap) k->h'.get k=h.get k)/\h.next<=h'.next/\h'.next<=h.next+1/\ ∀k,fI v' k->fI (.sl id 0 ws.length cap) k∨k=h.next:=by
  intro g gn gg;refine⟨_,_,rfl,⟨h.next,_, [],by rw[oF];rfl,hb,by rw[H.aV];omega,by rw[←gn,H.aM,List.append_nil],.inl rfl⟩,λk hk ha=>?_,by rw[H.aV];omega,by rw[H.aV];omega,λk ⟨_,_,_,e⟩=>by cases e;exact .inr rfl⟩;rw[H.bD g (by omega)];exact gg k hk (λe=>ha ⟨_,_,_,by rw[e]⟩)
 rcases h4 with rfl|⟨rfl,h5⟩
 ·simp only[h3,if_true]
  exact key (h.set id none) rfl (λk _ hk=>H.aH h hk none)
 ·simp only
  by_cases e:ws.length+1<=1
  ·rw[if_pos e]
   have e0:ws= []:=List.eq_nil_of_length_eq_zero (by omega)
   subst e0
   obtain⟨z,rfl⟩: ∃z,rest= [z]:=List.length_eq_one_iff.1 (by simpa using h5)
   have hp:h.put id (0+([]:List V).length*1) [y]=some (h.set id (cG [y])):=by
    simp [H.put,h3,putAt]
   rw[hp]
   refine⟨_,_,rfl,⟨id,_, [],rfl,h1,h2,by rw[H.aS];rfl,.inr ⟨rfl,rfl⟩⟩,λk hk ha=>H.aH h (λe=>ha ⟨0,0,.kn 1,by rw[e];rfl⟩) _,iP _,Nat.le_succ _,λk ⟨_,_,_,e⟩=>by cases e;exact .inl ⟨_,_,_,rfl⟩⟩
  ·rw[if_neg e]
   exact key h rfl (λ_ _ _=>rfl)
def YX (n:Nat):LN:=(yN n n).filter (Lu n)
theorem OQ (X:bF n x):x∈YX n:=by
 unfold YX;rw[MZ];refine⟨X.rO,?_⟩;unfold Lu;simp only[Bool.and_eq_true,beq_iff_eq,List.all_eq_true,decide_eq_true_iff];exact⟨⟨X.len,X.nd⟩,X.lt⟩
theorem wU (hn:n<=5){l:LN}(nd:l.Nodup)(hP: ∀x∈l,bF n x):l.length<=120:=by
 have h: ∀n,n<=5->(YX n).length<=120:=by decide+kernel
 exact Nat.le_trans (List.Nodup.length_le_of_subset nd λx hx=>OQ (hP x hx)) (h n hn)
theorem Bw {n:Nat}(asc:A.Pairwise Lt):A.Nodup:=asc.imp λh e=>by rw[e] at h;exact h.irrefl
def Li (A:LN)(k:Nat)(y:List Nat):LN:=A.take k++y::A.drop k
theorem oC {z:List Nat}:z∈Li A k y↔z=y∨z∈A:=by
 unfold Li;rw[Ks,List.mem_cons];constructor
 ·rintro (h|h|h)
  ·exact .inr (List.mem_of_mem_take h)
  ·exact .inl h
  ·exact .inr (List.mem_of_mem_drop h)
 ·rintro (h|h)
  ·exact .inr (.inl h)
  ·rw[←List.take_append_drop k A,Ks] at h
   rcases h with h|h
   ·exact .inl h
   ·exact .inr (.inr h)
theorem xZ:(Li A k y).length=A.length+1:=by
 unfold Li;rw[oF,List.length_cons,Ky,List.length_drop];omega
theorem II {a b:List Nat}(A:bF n a)(B:bF n b)(h1: ¬Lt a b)(h2:a≠b):Lt b a:=by
 have h: ∃i,i<n/\a.getD i 0≠b.getD i 0:=Kt λh=>h2 (rW (by rw[A.len,B.len]) λi hi=>Kt λh3=>h ⟨i,by rw[←A.len];exact hi,h3⟩)
 obtain⟨i,hi,hne⟩:=h
 have hw: ∃i,(i<n/\a.getD i 0≠b.getD i 0)/\ ∀j,j<i-> ¬(j<n/\a.getD j 0≠b.getD j 0):=by
  revert hi hne
  induction i using Nat.strongRecOn with
  |ind i ih=>
   intro hi hne
   by_cases h: ∃j,j<i/\j<n/\a.getD j 0≠b.getD j 0
   ·obtain⟨j,h3,h4,h5⟩:=h
    exact ih j h3 h4 h5
   ·exact⟨i,⟨hi,hne⟩,λj hj hjn=>h ⟨j,hj,hjn⟩⟩
 obtain⟨k,⟨hk,hk2⟩,hmin⟩:=hw;have he: ∀j,j<k->a.getD j 0=b.getD j 0:=λj hj=>Kt λh3=>hmin j hj ⟨by omega,h3⟩
 rcases Nat.lt_or_gt_of_ne hk2 with h4|h4
 ·exact (h1 ⟨k,by rw[A.len];exact hk,he,h4⟩).elim
 ·exact⟨k,by rw[B.len];exact hk,λj hj=>(he j hj).symm,h4⟩
theorem OW (hP: ∀x∈A,bF n x)(Y:bF n y)(asc:A.Pairwise Lt)(p:Plc A y k)(hy:y∉A):(Li A k y).Pairwise Lt:=by
 unfold Li;rw[List.pairwise_append];have at': ∀{z:List Nat},z∈A.take k-> ∃i,i<k/\i<A.length/\A.getD i []=z:=λh=>(OX (d:= [])).1 h
 have bt: ∀{z:List Nat},z∈A.drop k-> ∃i,k<=i/\i<A.length/\A.getD i []=z:=λh=>by
  obtain⟨q,hq,e⟩:=Ge.1 h;rw[List.length_drop] at hq;rw[List.getElem_drop] at e;exact⟨k+q,by omega,by omega,by rw[List.getD,iD (by omega),←e];rfl⟩
 have lo: ∀z∈A.take k,Lt z y:=λz hz=>by
  obtain⟨i,h1,h2,rfl⟩:=at' hz;exact (nG (by rw[(hP _ (bB h2)).len,Y.len])).1 (p.lo i h1)
 have hi: ∀z∈A.drop k,Lt y z:=λz hz=>by
  obtain⟨i,h1,h2,rfl⟩:=bt hz;have Z:=hP _ (bB (d:= []) h2);refine II Z Y (λh=>?_) (λe=>hy (by rw[←e];exact bB h2));have:=p.hi i h1 h2;rw[(nG (by rw[Z.len,Y.len])).2 h] at this;cases this
 refine⟨asc.sublist (List.take_sublist k A),List.pairwise_cons.2 ⟨hi,asc.sublist (List.drop_sublist k A)⟩,λz hz w hw=>?_⟩;rcases List.mem_cons.1 hw with rfl|hw
 ·exact lo z hz
 ·have Z:=hP z (List.mem_of_mem_take hz)
  exact Lt.trans (by rw[Z.len,Y.len]) (lo z hz) (hi w hw)
structure SW (n:Nat)(S A Q:LN):Prop where
 asc:A.Pairwise Lt
 gen: ∀x∈A,dS n (· ∈S) x
 one:bI n∈A
 sub: ∀x∈Q,x∈A
 cl: ∀x∈A,x∉Q-> ∀g∈S,aU x g∈A
theorem SW.start (n:Nat)(S:LN):SW n S [bI n] [bI n]:=
 ⟨List.pairwise_singleton _ _,λx hx=>by simp at hx;subst hx;exact .one,by simp,λx hx=>hx,λx hx h=>absurd hx h⟩
theorem SW.done (j:SW n S A []):fL (dS n (· ∈S)) A:=by
 refine⟨j.asc,λx=>⟨j.gen x,λh=>?_⟩⟩
 induction h with
 |one=>exact j.one
 |mul _ hg ih=>exact j.cl _ ih List.not_mem_nil _ hg
structure FN (n:Nat)(S:LN)(x:List Nat)(i:Nat)(A Q:LN):Prop where
 asc:A.Pairwise Lt
 gen: ∀x∈A,dS n (· ∈S) x
 one:bI n∈A
 sub: ∀x∈Q,x∈A
 mem:x∈A
 cl: ∀z∈A,z∉Q->z=x∨ ∀g∈S,aU z g∈A
 dn: ∀j,j<i->aU x (S.getD j [])∈A
theorem FN.start (j:SW n S A (Q++ [x])):FN n S x 0 A Q:=
 ⟨j.asc,j.gen,j.one,λz hz=>j.sub z (by simp [hz]),j.sub x (by simp),λz hz hq=>by
  by_cases e:z=x
  ·exact .inl e
  ·exact .inr (j.cl z hz (by simp [hq,e])),λj hj=>by omega⟩
theorem FN.done (j:FN n S x S.length A Q):SW n S A Q:=
 ⟨j.asc,j.gen,j.one,j.sub,λz hz hq g hg=>by
  rcases j.cl z hz hq with rfl|h
  ·obtain⟨i,hi,e⟩:=Ge.1 hg
   have:=j.dn i hi;rwa [List.getD,iD hi,Option.getD_some,e] at this
  ·exact h g hg⟩
theorem FN.skip {i:Nat}(j:FN n S x i A Q)(h:aU x (S.getD i [])∈A):FN n S x (i+1) A Q:=
 ⟨j.asc,j.gen,j.one,j.sub,j.mem,j.cl,λk hk=>by
  by_cases e:k=i
  ·rw[e];exact h
  ·exact j.dn k (by omega)⟩
theorem FN.step {i:Nat}(j:FN n S x i A Q)(hS: ∀g∈S,bF n g)(hi:i<S.length)(h:aU x (S.getD i [])∉A)(p:Plc A (aU x (S.getD i [])) k):FN n S x (i+1) (Li A k (aU x (S.getD i []))) (Q++ [aU x (S.getD i [])]):=by
 have gx:=j.gen x j.mem;have gy:dS n (· ∈S) (aU x (S.getD i [])):=gx.mul (bB hi);obtain⟨y,hy⟩:=exI (aU x (S.getD i []));rw[hy] at gy h p ⊢;refine⟨OW (λz hz=>(j.gen z hz).dY hS) (gy.dY hS) j.asc p h,λz hz=>?_,oC.2 (.inr j.one),λz hz=>?_,oC.2 (.inr j.mem),λz hz hq=>?_,λq hq=>?_⟩
 ·rcases oC.1 hz with rfl|hz
  ·exact gy
  ·exact j.gen z hz
 ·rcases Ks.1 hz with hz|hz
  ·exact oC.2 (.inr (j.sub z hz))
  ·simp at hz;exact oC.2 (.inl hz)
 ·rcases oC.1 hz with rfl|hz
  ·exact absurd (by simp) hq
  ·rcases j.cl z hz (λh=>hq (by simp [h])) with e|h2
   ·exact .inl e
   ·exact .inr λg hg=>oC.2 (.inr (h2 g hg))
 ·by_cases e:q=i
  ·rw[e,hy];exact oC.2 (.inl rfl)
  ·exact oC.2 (.inr (j.dn q (by omega)))
theorem GB {A:List V}(hk:k<=A.length)(z y:V):(((A++ [z]).take (k+1)++A.drop k).set k y)=A.take k++y::A.drop k:=by
 have h1:(A++ [z]).take (k+1)=A.take k++ [(A++ [z]).getD k .undef]:=by
  rw[iU .undef (by rw[oF];simp;omega),List.take_append_of_le_length hk]
 rw[h1,List.append_assoc,List.set_append_right _ _ (by rw[Ky];omega),Ky,Nat.min_eq_left hk,Nat.sub_self]
 rfl
theorem jN.Li {W:Nat->Prop}{wa:List V}(p:jN W h wa A)(q:PV W h v y)(hk:k<=A.length):jN W h (wa.take k++v::wa.drop k) (Go.Proofs.YtapfcpkecmmagaaGreat.Li A k y):=by
 have hl:=cF.length p
 have t: ∀(k:Nat) (wa:List V) (A:LN),jN W h wa A->jN W h (wa.take k) (A.take k)/\jN W h (wa.drop k) (A.drop k):=by
  intro k
  induction k with
  |zero=>intro wa A p;exact⟨trivial,p⟩
  |succ k ih=>
   intro wa A p
   cases wa with
   |nil=>cases A with
    |nil=>exact⟨trivial,trivial⟩
    |cons=>exact p.elim
   |cons a wa=>cases A with
    |nil=>exact p.elim
    |cons b A=>
     obtain⟨h1,h2⟩:=ih wa A p.2
     exact⟨⟨p.1,h1⟩,h2⟩
 obtain⟨h1,h2⟩:=t k wa A p;exact h1.append ⟨q,h2⟩
theorem Rc.own (t:Rc h v ws b)(h0:0<ws.length):eZ h v 1 ws b:=by
 obtain⟨id,cap,rest,rfl,h1,h2,h3,h4⟩:=t;refine .inr ⟨id,ws.length,cap,rest,rfl,(Nat.mul_one _).symm,?_,h1,h2,h3⟩;rcases h4 with h4|⟨rfl,h5⟩
 ·exact .inl h4
 ·have e:ws.length=1:=by omega
  exact .inr ⟨by rw[e],List.eq_nil_of_length_eq_zero (by omega)⟩
theorem YN {Q m:Nat}(hk:k<=m):uV 1 (.sl Q 0 (m+1) (.un 1)) (some (aB k)) none none=some (.sl Q k (m+1-k) (.un 1)):=by
 simp only[uV,oE];rw[if_pos ⟨by omega,by omega⟩];simp only[if_true,Int.toNat_natCast];rw[if_pos (by omega),Nat.zero_add,Nat.mul_one]
theorem VD {Q m:Nat}(hk:k<=m):uV 1 (.sl Q 0 (m+1) (.un 1)) (some (aB ((k:Int)+1))) none none=some (.sl Q (if k<m then k+1 else 0) (m-k) (.un 1)):=by
 simp only[uV,oE];rw[if_pos ⟨by omega,by omega⟩];have e:((k:Int)+1).toNat=k+1:=by omega
 simp only[if_true,e]
 by_cases h:k<m
 ·rw[if_pos (by omega),if_pos h]
  simp only[Option.some.injEq,V.sl.injEq,true_and,and_true];omega
 ·rw[if_neg (by omega),if_neg h]
  simp only[Option.some.injEq,V.sl.injEq,true_and,and_true];omega
theorem SN {Q:Nat}{z:V}(hk:k<=ws.length)(hg:h.get Q=cG (ws++ [z])):
  FY h 1 (.sl Q (if k<ws.length then k+1 else 0) (ws.length-k) (.un 1)) (.sl Q k (ws.length+1-k) (.un 1))=some (aB (ws.length-k:Nat),h.set Q (cG ((ws++ [z]).take (k+1)++ws.drop k))):=by
 have e1:qH (.sl Q (if k<ws.length then k+1 else 0) (ws.length-k) (.un 1))=some (ws.length-k):=rfl
 have e2:qH (.sl Q k (ws.length+1-k) (.un 1))=some (ws.length+1-k):=rfl
 have e3:min (ws.length+1-k) (ws.length-k)=ws.length-k:=by omega
 have e4:h.row Q k (ws.length-k)=some (ws.drop k):=by
  unfold H.row;rw[hg];show sub (ws++ [z]) k (ws.length-k)=_;unfold sub;rw[if_pos (by rw[oF];omega),List.drop_append_of_le_length hk,List.take_left' (by rw[List.length_drop])]
 have e5:h.put Q (if k<ws.length then k+1 else 0) (ws.drop k)=some (h.set Q (cG ((ws++ [z]).take (k+1)++ws.drop k))):=by
  unfold H.put;rw[hg];show (putAt (ws++ [z]) _ (ws.drop k)).map _=_;unfold putAt;have hl:(ws++ [z]).length=ws.length+1:=by simp
  by_cases h:k<ws.length
  ·rw[if_pos h,if_pos (by rw[hl,List.length_drop];omega),List.length_drop,List.drop_eq_nil_of_le (as:=ws++ [z]) (by rw[hl];omega),List.append_nil];rfl
  ·have e:k=ws.length:=by omega
   rw[if_neg h,if_pos (by rw[hl,List.length_drop];omega),e,List.drop_length,List.append_nil,List.append_nil];have e6:(ws++ [z]).take (ws.length+1)=ws++ [z]:=List.take_of_length_le (by rw[hl];omega);rw[e6];simp
 simp only[FY,e1,e2,e3,Nat.mul_one,e4,e5]
structure ESt (h hh:H)(va vt:V)(A Q:LN):Prop where
 ex: ∃wa wt,Rc hh va wa h.next/\Rc hh vt wt h.next/\jN (λq=>fI va q∨fI vt q) hh wa A/\jN (λq=>fI va q∨fI vt q) hh wt Q
 Gj: ∀q,fI va q-> ¬fI vt q
 fr:Fr h hh
theorem El (mo n:Nat)(vl:V)(S:LN)(h:H)(n0:1<=n)(n5:n<=5)(hS: ∀g∈S,bF n g)(hl:S.length<=16)(hmo: ∀A:LN,A.Nodup->(∀x∈A,dS n (· ∈S) x)->A.length<=mo)(hv:SP h vl S):
  Ev T 18 [aB n,vl,aB mo] h (λv h'=> ∃A,fL (dS n (· ∈S)) A/\A.length<=120/\SP h' v A/\Fr h h'):=by
 refine bN sB rfl rfl ?_
 have lv:=hv.lens
 rw[rK] at lv
 obtain⟨id,off,ws,sh,hid,hwl,hc,hall⟩:=hv.open
 rw[rK] at sh hid hwl hc
 simp(disch:=omega)only[go_sem,sB,aE]
 refine (Yw n h (by omega)).mono ?_
 rintro v1 h1 ⟨s1,f1,l1⟩
 obtain⟨B,hB⟩:=exI h1.next
 obtain⟨h2,e2,n2,g2,o2,f2⟩:=iX hB [v1]
 simp(disch:=omega)only[go_sem,dV _ (z:= .aC) (uK s1).1 (uK s1).2,hB,e2]
 refine (Yw n h2 (by omega)).mono ?_
 rintro v3 h3 ⟨s3,f3,l3⟩
 obtain⟨C,hC⟩:=exI h3.next
 obtain⟨h4,e4,n4,g4,o4,f4⟩:=iX hC [v3]
 have k1:=f1.next
 have k3:=f3.next
 have F4:=((f1.trans f2).trans f3).trans f4
 have one4: ∀{v:V} {hh:H},SI hh v (zi (bI n))->Fr hh h4->(∀id off len cap,v= .sl id off len cap->id≠B/\id≠C)->PV (λq=>fI (.sl B 0 1 (.kn 1)) q∨fI (.sl C 0 1 (.kn 1)) q) h4 v (bI n):=λ{v hh} s f hne=>by
  refine⟨s.mono f,?_⟩
  cases v with
  |sl i o m c=>
   have:=hne _ _ _ _ rfl;rintro (⟨_,_,_,e⟩|⟨_,_,_,e⟩)
   ·cases e;omega
   ·cases e;omega
  |_=>trivial
 have st4:ESt h h4 (.sl B 0 1 (.kn 1)) (.sl C 0 1 (.kn 1)) [bI n] [bI n]:=by
  refine⟨⟨[v1], [v3],⟨B,_, [],rfl,by omega,by omega,by rw[o4 B (by omega),f3.get B (by omega)];exact g2,.inr ⟨rfl,rfl⟩⟩,⟨C,_, [],rfl,by omega,by omega,g4,.inr ⟨rfl,rfl⟩⟩,jN.one (one4 s1 ((f2.trans f3).trans f4) λi o m c e=>?_),jN.one (one4 s3 f4 λi o m c e=>?_)⟩,λq ⟨_,_,_,e⟩ ⟨_,_,_,e2⟩=>by cases e;cases e2;omega,F4⟩
  ·have:=SV.in s1 _ _ _ _ e;omega
  ·have:=SV.in s3 _ _ _ _ e;have:=l3 _ _ _ _ e;omega
 simp(disch:=omega)only[go_sem,dV _ (z:= .aC) (uK s3).1 (uK s3).2,hC,e4]
 refine aI (λk' vars hh=> ∃(A Q:LN) (va vt:V),(∃g:Nat->V,vars= [aB n,vl,aB mo,g 3,va,vt,g 6,g 7,g 8,g 9,g 10,g 11,g 12,g 13,g 14])/\SW n S A Q/\ESt h hh va vt A Q/\Q.length<=A.length/\k'=1000- 2*A.length+Q.length) _
  ⟨_,_,_,_,aA rfl,SW.start n S,st4,iP _,rfl⟩ ?_
 clear st4 one4 g2 g4 o2 o4 e2 e4 s1 s3 l1 l3 F4 f1 f2 f3 f4 k1 k3 n2 n4 hB hC
 rintro k' vars h5 ⟨A,Q,va,vt,⟨g,rfl⟩,J,st,hqa,rfl⟩
 have AP: ∀x∈A,bF n x:=λx hx=>(J.gen x hx).dY hS
 have la:=wU n5 (Bw J.asc (n:=n)) AP
 obtain⟨⟨wa,wt,ta,tt,pa,pt⟩,Gj,fr⟩:=st
 have lwa:=cF.length pa
 have lwt:=cF.length pt
 have lt5:dN vt=some (aB (Q.length:Int)):=by unfold dN;rw[SV.len tt.sv (n:=Q.length) (by omega) (by omega)];rfl
 by_cases hq:(0:Int)<(Q.length:Int)
 case neg=>
  have d1:=iZ hq;have e0:Q= []:=List.eq_nil_of_length_eq_zero (by omega);simp(disch:=omega)only[go_sem,lt5,d1];subst e0;exact⟨A,J.done,la,jN.sp' ta.sv pa,fr⟩
 have d1:=mL hq
 obtain⟨m,hm⟩: ∃m,Q.length=m+1:=⟨Q.length- 1,by omega⟩
 have em:(Q.length:Int)- 1=(m:Int):=by omega
 obtain⟨_,idt,offt,sht,hct⟩:=jN.open tt.sv pt
 obtain⟨_,cx,px⟩:=hct m (by omega)
 obtain⟨x,hx⟩:=exI (Q.getD m [])
 rw[hx] at px
 generalize wt.getD m .undef=vx at cx px
 obtain⟨vt',sl5,tt',bt'⟩:=tt.pop (k:=m) (by omega)
 have hQ:Q=Q.take m++ [x]:=by
  rw[←hx,←iU [] (by omega),List.take_of_length_le (by omega)]
 have ptk:jN (λq=>fI va q∨fI vt' q) h5 (wt.take m) (Q.take m):=by
  have t: ∀(k:Nat) (wa:List V) (A:LN),jN (λq=>fI va q∨fI vt q) h5 wa A->jN (λq=>fI va q∨fI vt q) h5 (wa.take k) (A.take k):=by
   intro k
   induction k with
   |zero=>intro wa A p;exact trivial
   |succ k ih=>
    intro wa A p
    cases wa with
    |nil=>cases A with
     |nil=>exact trivial
     |cons=>exact p.elim
    |cons a wa=>cases A with
     |nil=>exact p.elim
     |cons b A=>exact⟨p.1,ih wa A p.2⟩
  exact jN.tA (t m wt Q pt) λq _ hw=>hw.imp (λh=>h) (bt' q)
 have st':ESt h h5 va vt' A (Q.take m):=⟨⟨wa,wt.take m,ta,tt',jN.tA pa λq _ hw=>hw.imp (λh=>h) (bt' q),ptk⟩,λq h1 h2=>Gj q h1 (bt' q h2),fr⟩
 have px':PV (λq=>fI va q∨fI vt' q) h5 vx x:=PV.tA px λq _ hw=>hw.imp (λh=>h) (bt' q)
 have J':FN n S x 0 A (Q.take m):=FN.start (by rw[←hQ];exact J)
 have lq':(Q.take m).length=m:=by rw[Ky];omega
 simp(disch:=omega)only[go_sem,lt5,d1,em,sht.ixa,cx,sl5]
 refine Ce (λvs hh=> ∃(A' Q':LN) (va vt:V),(∃g:Nat->V,vs= [aB n,vl,aB mo,g 3,va,vt,g 6,g 7,g 8,g 9,g 10,g 11,g 12,g 13,g 14])/\SW n S A' Q'/\ESt h hh va vt A' Q'/\Q'.length<=A'.length/\1000- 2*A'.length+Q'.length<1000- 2*A.length+Q.length) ?_ ?_
 ·refine aI (λk' vars hh=> ∃(i:Nat) (A' Q':LN) (va vt:V),(∃g:Nat->V,vars= [aB n,vl,aB mo,g 3,va,vt,vx,aB i,g 8,g 9,g 10,g 11,g 12,g 13,g 14])/\i<=S.length/\FN n S x i A' Q'/\ESt h hh va vt A' Q'/\PV (λq=>fI va q∨fI vt q) hh vx x/\Q'.length+A.length+1=A'.length+Q.length/\A.length<=A'.length/\k'=S.length-i) S.length
   ⟨0,A,Q.take m,va,vt',aA rfl,lL _,J',st',px',by omega,iP _,rfl⟩ ?_
  clear st' px' J' ptk tt' bt' sl5 Gj fr pa pt ta tt lwa lwt lt5 cx px hct sht vt' g
  rintro k' vars h6 ⟨i,A',Q',va,vt,⟨g,rfl⟩,hi,J,st,px,hcnt,hle,rfl⟩
  have AP': ∀x∈A',bF n x:=λx hx=>(J.gen x hx).dY hS
  have la':=wU n5 (Bw J.asc (n:=n)) AP'
  by_cases hlt:(i:Int)<(S.length:Int)
  case neg=>
   have d2:=iZ hlt;obtain rfl:i=S.length:=by omega
   simp(disch:=omega)only[go_sem,lv,d2];exact⟨A',Q',va,vt,aA rfl,J.done,st,by omega,by omega⟩
  have d2:=mL hlt
  have hiS:i<S.length:=by omega
  obtain⟨⟨wa,wt,ta,tt,pa,pt⟩,Gj,fr⟩:=st
  have lwa:=cF.length pa
  have lwt:=cF.length pt
  have cg:h6.cell id (off+i)=some (ws.getD i .undef):=by rw[fr.cell (hid (by omega)),hc i hiS]
  have sg:=(Mu hall hiS).mono fr
  have Gp:bF n (S.getD i []):=hS _ (bB hiS)
  generalize ws.getD i .undef=vg at cg sg
  have X:bF n x:=AP' x J.mem
  simp(disch:=omega)only[go_sem,lv,d2,sh.ixa,cg]
  refine (Zo vx vg x _ h6 (by rw[X.len];omega) px.si sg (λj hj=>by rw[Gp.len];exact X.eY (by rw[←X.len];exact hj))).mono ?_
  rintro vy h7 ⟨sy,f7,l7⟩
  obtain⟨y,hy⟩:=exI (aU x (S.getD i []))
  have Y:bF n y:=by rw[←hy];exact X.mul Gp
  rw[hy] at sy
  have ta7:=ta.qN f7.next λq hq=>f7.get q (ta.in hq).2
  have tt7:=tt.qN f7.next λq hq=>f7.get q (tt.in hq).2
  have pa7:=jN.fx pa (Fx.of f7:Fx (λq=>fI va q∨fI vt q) h6 h7)
  have pt7:=jN.fx pt (Fx.of f7:Fx (λq=>fI va q∨fI vt q) h6 h7)
  have px7:=PV.mono px f7
  have hWlt: ∀q,(fI va q∨fI vt q)->q<h6.next:=λq hq=>hq.elim (λh=>(ta.in h).2) (λh=>(tt.in h).2)
  have py7:PV (λq=>fI va q∨fI vt q) h7 vy y:=PV.fresh sy l7 hWlt
  simp(disch:=omega)only[go_sem]
  refine (HU va vy n A' y h7 (by omega) (by omega) AP' Y J.asc (jN.sp' ta7.sv pa7) sy).mono ?_
  rintro _ h8 ⟨k,rfl,pk,_,f8⟩
  have ta8:=ta7.qN f8.next λq hq=>f8.get q (ta7.in hq).2
  have tt8:=tt7.qN f8.next λq hq=>f8.get q (tt7.in hq).2
  have pa8:=jN.fx pa7 (Fx.of f8:Fx (λq=>fI va q∨fI vt q) h7 h8)
  have pt8:=jN.fx pt7 (Fx.of f8:Fx (λq=>fI va q∨fI vt q) h7 h8)
  have px8:=PV.mono px7 f8
  have py8:=PV.mono py7 f8
  have fr8:=(fr.trans f7).trans f8
  by_cases hyA:y∈A'
  ·have d3:decide (y∈A')=true:=decide_eq_true hyA
   simp(disch:=omega)only[go_sem,d3]
   rw[jJ i]
   exact⟨S.length-(i+1),by omega,i+1,A',Q',va,vt,aA rfl,by omega,J.skip (by rw[hy];exact hyA),⟨⟨wa,wt,ta8,tt8,pa8,pt8⟩,Gj,fr8⟩,px8,hcnt,hle,rfl⟩
  have d3:decide (y∈A')=false:=decide_eq_false hyA
  have J2:=J.step hS hiS (by rw[hy];exact hyA) (by rw[hy];exact pk)
  rw[hy] at J2
  have la2:=wU n5 (Bw J2.asc (n:=n)) (λx hx=>(J2.gen x hx).dY hS)
  rw[xZ] at la2
  have lva:dN va=some (aB (A'.length:Int)):=by unfold dN;rw[SV.len ta8.sv (n:=A'.length) (by omega) (by omega)];rfl
  have la3:=hmo _ (Bw J2.asc (n:=n)) J2.gen
  rw[xZ] at la3
  have d4:decide ((mo:Int)<=(A'.length:Int))=false:=iZ (by omega)
  have hA0:0<A'.length:=List.length_pos_of_mem J.one
  obtain⟨N,hN⟩:=exI h8.next
  obtain⟨h9,e9,n9,g9,o9,f9⟩:=iX hN [.aC]
  have ow9:=(ta8.own (by omega)).fr f9
  obtain⟨h10,a10,p10⟩:=ow9.push (bytes:=24) (SV.one (by omega) g9 (.kn 1)) (n:=A'.length) (m:=1) (by omega) rfl (by omega) (by omega) (by omega)
  have n10:=p10.next
  rw[n9] at a10
  have hk:=pk.le
  have g10:h10.get (N+1)=cG (wa++ [.aC]):=by rw[←n9];exact p10.get
  obtain⟨hb,ehb,nhb,ghb⟩: ∃hb:H,H.mk h10.tr (h10.next+8)=hb/\hb.next=h10.next+8/\ ∀q,hb.get q=h10.get q:=⟨_,rfl,rfl,λ_=>rfl⟩
  have cp:=SN (k:=k) (by omega) ((ghb (N+1)).trans g10)
  rw[lwa] at cp
  obtain⟨h11,e11,n11,g11,o11⟩:=Fq hb (N+1) ((wa++ [V.aC]).take (k+1)++wa.drop k)
  rw[e11] at cp
  have d5:decide ((k:Int)<0)=false:=iZ (by omega)
  have d6:decide (((A'.length+1:Nat):Int)<=(k:Int))=false:=iZ (by omega)
  have hl11:((wa++ [V.aC]).take (k+1)++wa.drop k).length=A'.length+1:=by
   rw[oF,Ky,oF,List.length_drop];simp;omega
  have pt1:=aZ (vs:=(wa++ [V.aC]).take (k+1)++wa.drop k) (off:=k) (by omega) h11 (N+1) vy
  rw[GB (by omega)] at pt1
  obtain⟨h12,e12,n12,g12,o12⟩:=Fq h11 (N+1) (wa.take k++vy::wa.drop k)
  rw[e12] at pt1
  have cvy:=uK sy
  have fT: ∀q,q<N-> ¬fI va q->h12.get q=h8.get q:=λq h1 h2=>by
   rw[o12 q (by omega),o11 q (by omega),ghb,p10.old q (by omega) (λi o m c e e2=>h2 ⟨o,m,c,e2▸e⟩),o9 q (by omega)]
  have n12':h12.next=N+10:=by omega
  have tt12:=tt8.qN (h':=h12) (by omega) λq hq=>fT q (by have:=(tt8.in hq).2;omega) (λh=>Gj q h hq)
  obtain⟨P,hP⟩:=exI h12.next
  obtain⟨h13,e13,n13,g13,o13,f13⟩:=iX hP [vy]
  have tt13:=tt12.qN f13.next λq hq=>f13.get q (tt12.in hq).2
  have frn:=fr8.next
  obtain⟨vt2,h14,a14,tt14,old14,hn1,hn2,bk14⟩:=tt13.push (S:=P) (c:= .kn 1) (SV.one (by omega) g13 (.kn 1)) (by omega) (by omega)
  simp(disch:=omega)only[go_sem,d3,lva,d4,dV _ (z:= .aC) (v:= .aC) rfl rfl,hN,e9,a10,VD hk,YN hk,ehb,cp,d5,d6,g11,kS cvy.1 cvy.2,pt1,dV _ (z:= .aC) cvy.1 cvy.2,hP,e13,a14]
  rw[jJ i]
  have htN: ∀q,fI vt q->q<N:=λq hq=>by have:=(tt8.in hq).2;omega
  have oldAll: ∀q,q<N-> ¬fI va q-> ¬fI vt q->h14.get q=h8.get q:=λq h1 h2 h3=>by
   rw[old14 q (by omega) h3,f13.get q (by omega)];exact fT q h1 h2
  have xx:Fx (λq=>fI va q∨fI vt q) h8 h14:=⟨by omega,λq h1 h2=>oldAll q (by omega) (λh=>h2 (.inl h)) (λh=>h2 (.inr h))⟩
  have ww: ∀q,q<h8.next->(fI (.sl (N+1) 0 (A'.length+1) (.un 1)) q∨fI vt2 q)->fI va q∨fI vt q:=λq h1 h2=>by
   rcases h2 with ⟨_,_,_,e⟩|h2
   ·cases e;omega
   ·rcases bk14 q h2 with h3|h3
    ·exact .inr h3
    ·omega
  have g14:h14.get (N+1)=cG (wa.take k++vy::wa.drop k):=by
   rw[old14 (N+1) (by omega) (λh=>by have:=htN _ h;omega),f13.get (N+1) (by omega)];exact g12
  have py14:PV (λq=>fI (.sl (N+1) 0 (A'.length+1) (.un 1)) q∨fI vt2 q) h14 vy y:=PV.go py8 xx ww
  have pa14:=jN.Li (jN.go pa8 xx ww) py14 (k:=k) (by omega)
  have lia:(wa.take k++vy::wa.drop k).length=A'.length+1:=by rw[cF.length pa14,xZ]
  refine⟨S.length-(i+1),by omega,i+1,_,_,_,_,aA rfl,by omega,J2,⟨⟨_,_,⟨N+1,_, [],by rw[lia],by omega,by omega,by rw[List.append_nil];exact g14,.inl rfl⟩,tt14,pa14,(jN.go pt8 xx ww).append (jN.one py14)⟩,λq ⟨_,_,_,e⟩ h2=>?_,⟨by omega,λq hq=>?_⟩⟩,PV.go px8 xx ww,by rw[xZ,oF];simp;omega,by rw[xZ];omega,rfl⟩
  ·cases e
   rcases bk14 _ h2 with h3|h3
   ·have:=htN _ h3;omega
   ·omega
  ·rw[oldAll q (by omega) (λh=>by have:=(ta8.in h).1;omega) (λh=>by have:=(tt8.in h).1;omega)]
   exact fr8.get q hq
 clear st' px' J' ptk tt' bt' sl5 Gj fr pa pt ta tt lwa lwt lt5 cx px hct sht vt' g
 rintro vars h6 ⟨A',Q',va,vt,⟨g,rfl⟩,J,st,hle,hms⟩
 simp(disch:=omega)only[go_sem]
 exact⟨_,hms,A',Q',va,vt,aA rfl,J,st,hle,rfl⟩
end
end Go.Proofs.YtapfcpkecmmagaaGreat
namespace Go.Ay
open Go
set_option maxRecDepth 100000
section
variable {e:Nat×V} {y:V}
def Vb (o:Option Ob)(h:H)(id:Nat)(s:wK)(zero k:V):Option (V×H):=match o with
 |some (.wmap sh es)=>if s=sh/\isKey s k=true then
   match fP k es with
   |some e=>some (.tup [e.2,.int .i64 (e.1:Nat)],h)
   |none=>some (.tup [zero,.int .i64 es.length],h.set id (some (.wmap sh (es++ [(k,zero)]))))
  else none
 |_=>none
def XG (s:wK)(zero:V)(h:H)(x k:V):Option (V×H):=match x with
 | .mp id=>Vb (h.get id) h id s zero k
 |_=>none
theorem TI (ρ:X->V)(h:H)(s:wK)(zero:V)(x k:X):cU ρ h (.ent s zero x k)=XG s zero h (ρ x) (ρ k):=by
 simp only[cU,XG,Vb];cases ρ x<;>try rfl
theorem SF (s:wK)(zero:V)(h:H)(id:Nat)(k:V):XG s zero h (.mp id) k=Vb (h.get id) h id s zero k:=rfl
def DV (o:Option Ob)(h:H)(id:Nat)(n:Int)(y:V):Option (V×H):=match o with
 |some (.wmap sh es)=>if 0<=n then
   match es[n.toNat]? with
   |some e=>some (V.undef,h.set id (some (.wmap sh (es.set n.toNat (e.1,y)))))
   |none=>none
  else none
 |_=>none
def YZ (h:H)(x s y:V):Option (V×H):=match x,s with
 | .mp id,.int .i64 n=>DV (h.get id) h id n y
 |_,_=>none
theorem SC (ρ:X->V)(h:H)(x s y:X):cU ρ h (.ens x s y)=YZ h (ρ x) (ρ s) (ρ y):=by
 simp only[cU,YZ,DV];cases ρ x<;>try rfl
theorem TQ (h:H)(id:Nat)(n:Int)(y:V):YZ h (.mp id) (.int .i64 n) y=DV (h.get id) h id n y:=rfl
attribute [go_sem] TI SF SC TQ
section
variable {κ:Type} [DecidableEq κ]
def Ad:List (κ×V)->κ->Option (Nat×V)
 | [],_=>none
 |p::l,a=>if a=p.1 then some (0,p.2) else (Ad l a).map λq=>(q.1+1,q.2)
def iO (enc:κ->V)(l:List (κ×V)):List (V×V):=l.map λp=>(enc p.1,p.2)
def Kq (l:List (κ×V))(a:κ):Option V:=(Ad l a).map (·.2)
def Pq (l:List (κ×V))(a:κ)(y:V):List (κ×V):=match Ad l a with
 |some e=>l.set e.1 (a,y)
 |none=>l++ [(a,y)]
theorem yU {enc:κ->V}{P:κ->Prop}(he: ∀a b,P a->P b->eH (enc a) (enc b)=decide (a=b)){a:κ}(ha:P a): ∀{l:List (κ×V)},(∀p∈l,P p.1)->fP (enc a) (iO enc l)=Ad l a
 | [],_=>rfl
 |p::l,h=>by
  show (if eH (enc a) (enc p.1) then some (0,p.2) else (fP (enc a) (iO enc l)).map λq=>(q.1+1,q.2))=if a=p.1 then some (0,p.2) else (Ad l a).map λq=>(q.1+1,q.2)
  rw[he a p.1 ha (h p (by simp)),yU he ha λq hq=>h q (by simp [hq])]
  by_cases e:a=p.1<;>simp [e]
theorem LK {l:List (κ×V)}{a:κ}(h:Ad l a=some e):l[e.1]? =some (a,e.2):=by
 induction l generalizing e with
 |nil=>cases h
 |cons p l ih=>
  rw[Ad] at h
  by_cases c:a=p.1
  ·rw[if_pos c] at h
   cases h;simp [c]
  ·rw[if_neg c] at h
   obtain⟨q,hq,rfl⟩:=kW.1 h;simpa using ih hq
theorem TJ (a:κ)(l m:List (κ×V))(h:Ad l a=none):Ad (l++m) a=(Ad m a).map λq=>(q.1+l.length,q.2):=by
 induction l with
 |nil=>cases hm:Ad m a<;>simp [hm]
 |cons p l ih=>
  rw[Ad] at h
  by_cases c:a=p.1
  ·rw[if_pos c] at h;cases h
  ·rw[if_neg c] at h
   have h':Ad l a=none:=by cases hl:Ad l a with|none=>rfl|some x=>rw[hl] at h;cases h
   rw[List.cons_append,Ad,if_neg c,ih h',Option.map_map]
   rfl
theorem Qb (a:κ)(l m:List (κ×V))(h:Ad l a=some e):Ad (l++m) a=some e:=by
 induction l generalizing e with
 |nil=>cases h
 |cons p l ih=>
  rw[Ad] at h;rw[List.cons_append,Ad]
  by_cases c:a=p.1
  ·rw[if_pos c] at h ⊢;exact h
  ·rw[if_neg c] at h ⊢
   obtain⟨q,hq,rfl⟩:=kW.1 h;rw[ih hq];rfl
theorem TX (l:List (κ×V)){a:κ}(y:V)(h:Ad l a=some e)(b:κ):Kq (l.set e.1 (a,y)) b=if b=a then some y else Kq l b:=by
 unfold Kq
 induction l generalizing e with
 |nil=>cases h
 |cons p l ih=>
  rw[Ad] at h
  by_cases c:a=p.1
  ·rw[if_pos c] at h
   cases h;show Option.map _ (if b=a then some (0,y) else (Ad l b).map λq=>(q.1+1,q.2))=_
   by_cases d:b=a
   ·rw[if_pos d,if_pos d];rfl
   ·rw[if_neg d,if_neg d,Ad,if_neg (by rw[←c];exact d)]
  ·rw[if_neg c] at h
   obtain⟨q,hq,rfl⟩:=kW.1 h;have ih:=ih hq;show Option.map _ (if b=p.1 then some (0,p.2) else (Ad (l.set q.1 (a,y)) b).map λq=>(q.1+1,q.2))=_
   by_cases d:b=p.1
   ·rw[if_pos d,if_neg (by rw[d];exact λe=>c e.symm),Ad,if_pos d]
   ·rw[if_neg d,Option.map_map,Ad,if_neg d,Option.map_map]
    exact ih
theorem Gk (l:List (κ×V))(a:κ)(y:V)(b:κ):Kq (Pq l a y) b=if b=a then some y else Kq l b:=by
 unfold Pq
 cases h:Ad l a with
 |some e=>exact TX l y h b
 |none=>
  show Kq (l++ [(a,y)]) b=_;unfold Kq
  cases hb:Ad l b with
  |some e=>
   rw[Qb b l _ hb,if_neg (λe=>by rw[e,h] at hb;cases hb)]
  |none=>
   rw[TJ b l _ hb];show Option.map _ (Option.map _ (if b=a then some (0,y) else none))=_
   by_cases d:b=a
   ·rw[if_pos d,if_pos d];rfl
   ·rw[if_neg d,if_neg d];rfl
theorem Ec {P:κ->Prop}{l:List (κ×V)}{a:κ}(ha:P a)(hl: ∀p∈l,P p.1): ∀p∈Pq l a y,P p.1:=by
 unfold Pq;intro p hp;split at hp
 ·rcases List.mem_or_eq_of_mem_set hp with h|rfl
  ·exact hl p h
  ·exact ha
 ·rcases Ks.1 hp with h|h
  ·exact hl p h
  ·rw[List.mem_singleton.1 h];exact ha
omit [DecidableEq κ] in
theorem Jq {enc:κ->V}{l:List (κ×V)}{k:Nat}{a:κ}:(iO enc l).set k (enc a,y)=iO enc (l.set k (a,y)):=by
 unfold iO;rw[List.map_set]
omit [DecidableEq κ] in
theorem Ls {enc:κ->V}{l:List (κ×V)}{a:κ}:iO enc l++ [(enc a,y)]=iO enc (l++ [(a,y)]):=by
 unfold iO;rw[List.map_append];rfl
theorem HP {enc:κ->V}{P:κ->Prop}(he: ∀a b,P a->P b->eH (enc a) (enc b)=decide (a=b)){s:wK}(hk: ∀a,P a->isKey s (enc a)=true){l:List (κ×V)}(hl: ∀p∈l,P p.1){a:κ}(ha:P a)(y:V)(h:H)(id:Nat):
  Yr (some (.wmap s (iO enc l))) h id s (enc a) y=some (.undef,h.set id (some (.wmap s (iO enc (Pq l a y))))):=by
 simp only[Yr]
 rw[if_pos ⟨trivial,hk a ha⟩,yU he ha hl]
 unfold Pq
 cases Ad l a with
 |some e=>simp only[Jq]
 |none=>simp only[Ls]
theorem tI {enc:κ->V}{P:κ->Prop}(he: ∀a b,P a->P b->eH (enc a) (enc b)=decide (a=b)){s:wK}(hk: ∀a,P a->isKey s (enc a)=true){l:List (κ×V)}(hl: ∀p∈l,P p.1){a:κ}(ha:P a)(z:V):
  Kv (some (.wmap s (iO enc l))) s z false (enc a)=some ((Kq l a).getD z):=by
 simp only[Kv]
 rw[if_pos ⟨trivial,hk a ha⟩,yU he ha hl]
 unfold Kq
 cases Ad l a<;>rfl
theorem BI {enc:κ->V}{P:κ->Prop}(he: ∀a b,P a->P b->eH (enc a) (enc b)=decide (a=b)){s:wK}(hk: ∀a,P a->isKey s (enc a)=true){l:List (κ×V)}(hl: ∀p∈l,P p.1){a:κ}(ha:P a)(z y:V)(h:H)(id:Nat)(hg:h.get id=some (.wmap s (iO enc l))):
  ∃(v:V) (n:Nat) (l1:List (κ×V)) (h1:H),Vb (some (.wmap s (iO enc l))) h id s z (enc a)=some (.tup [v,.int .i64 (n:Int)],h1)/\h1.next=h.next/\(∀k,k≠id->h1.get k=h.get k)/\h1.get id=some (.wmap s (iO enc l1))/\(∀p∈l1,P p.1)/\(∀b,(Kq l1 b).getD z=(Kq l b).getD z)/\
   ∀hh,DV (some (.wmap s (iO enc l1))) hh id (n:Int) y=some (.undef,hh.set id (some (.wmap s (iO enc (Pq l a y))))):=by
 have hw:=yU he ha hl
 unfold Pq
 cases hx:Ad l a with
 |some e=>
  rw[hx] at hw;refine⟨e.2,e.1,l,h,?_,rfl,λ_ _=>rfl,hg,hl,λ_=>rfl,λhh=>?_⟩
  ·simp only[Vb];rw[if_pos ⟨trivial,hk a ha⟩,hw]
  ·have hs:=LK hx
   have:(iO enc l)[(e.1:Int).toNat]? =some (enc a,e.2):=by
    rw[Int.toNat_natCast];unfold iO;rw[List.getElem?_map,hs];rfl
   simp only[DV];rw[if_pos (by omega),this];simp only[Int.toNat_natCast,Jq]
 |none=>
  rw[hx] at hw;refine⟨z,l.length,l++ [(a,z)],h.set id (some (.wmap s (iO enc (l++ [(a,z)])))),?_,rfl,λk hk=>H.aH _ hk _,H.aS ..,?_,λb=>?_,λhh=>?_⟩
  ·simp only[Vb]
   rw[if_pos ⟨trivial,hk a ha⟩,hw];simp only[Ls];rw[show (iO enc l).length=l.length from by unfold iO;rw[rK]]
  ·intro p hp
   rcases Ks.1 hp with h|h
   ·exact hl p h
   ·rw[List.mem_singleton.1 h];exact ha
  ·have:=Gk l a z b
   unfold Pq at this;rw[hx] at this;have this:Kq (l++ [(a,z)]) b=if b=a then some z else Kq l b:=this
   rw[this]
   by_cases d:b=a
   ·rw[if_pos d,d];unfold Kq;rw[hx];rfl
   ·rw[if_neg d]
  ·have:(iO enc (l++ [(a,z)]))[(l.length:Int).toNat]? =some (enc a,z):=by
    rw[Int.toNat_natCast];unfold iO;rw[List.getElem?_map];simp
   simp only[DV];rw[if_pos (by omega),this];simp only[Int.toNat_natCast,Jq];simp
end
end
end Go.Ay
namespace Go.Proofs.YtapfcpkecmmagaaGreat
open Go Go.Ay Go.Pm
set_option maxRecDepth 100000
section
variable {h:H} {n:Nat}
theorem WV:([.int .u8 0,.int .u8 0,.int .u8 0,.int .u8 0,.int .u8 0,.int .u8 0,.int .u8 0,.int .u8 0,.int .u8 0,.int .u8 0,.int .u8 0,.int .u8 0,.int .u8 0,.int .u8 0,.int .u8 0,.int .u8 0,.int .u8 0,.int .u8 0,.int .u8 0,.int .u8 0,.int .u8 0,.int .u8 0,.int .u8 0,.int .u8 0,.int .u8 0,.int .u8 0,.int .u8 0,.int .u8 0,.int .u8 0,.int .u8 0,.int .u8 0,.int .u8 0,.int .u8 0,.int .u8 0,.int .u8 0,.int .u8 0,.int .u8 0,.int .u8 0,.int .u8 0,.int .u8 0,.int .u8 0,.int .u8 0,.int .u8 0,.int .u8 0,.int .u8 0,.int .u8 0,.int .u8 0,.int .u8 0,.int .u8 0,.int .u8 0,.int .u8 0,.int .u8 0,.int .u8 0,.int .u8 0,.int .u8 0,.int .u8 0,.int .u8 0,.int .u8 0,.int .u8 0,.int .u8 0,.int .u8 0,.int .u8 0,.int .u8 0,.int .u8 0]:List V)=rc 64 λ_=> .int .u8 0:=rfl
def Rd (x:List Nat):V:= .agg (rc 64 λi=> .int .u8 ((x.getD i 0:Nat):Int))
theorem Gq {id:Nat}{ws:List V}(hl:ws.length=n)(hg:h.get id=some (.cells false ws)):h.row id 0 n=some ws:=by
 unfold H.row;rw[hg];simp only[sub];rw[if_pos (by omega),List.drop_zero,List.take_of_length_le (by omega)]
theorem Um {vs ws:List V}(h1:vs.length=n)(h2:ws.length=n)(h:H)(id:Nat):fO (some (.cells false vs)) h id 0 ws=some (h.set id (some (.cells false ws))):=by
 simp only[fO,putAt];rw[if_pos (by omega),Option.map_some,List.take_zero,List.nil_append,List.drop_of_length_le (by omega),List.append_nil]
theorem JM {f:Nat->V}(hf: ∀i,(f i).one=true):(rc n f).all V.one=true:=by
 rw[List.all_eq_true];intro v hv;obtain⟨i,_,rfl⟩:=xB.1 hv;exact hf i
set_option maxHeartbeats 8000000
theorem By (u:V)(n:Nat)(x:List Nat)(h:H)(hn:n<=64)(X:bF n x)(hu:SI h u (zi x)):
  Ev T 40 [u] h (λv h'=>v=Rd x/\Fr h h'):=by
 refine bN qG rfl rfl ?_
 have lx:=X.len
 have lu:=hu.lens
 rw[aT,lx] at lu
 obtain⟨id,off,sh,hid,hc⟩:=hu.open
 rw[aT,lx] at sh hid hc
 obtain⟨A,hA⟩:=exI h.next
 obtain⟨h1,e1,n1,g1,o1,f1⟩:=iX hA (rc 64 λ_=> .int .u8 0)
 obtain⟨h2,e2,n2,g2,o2,f2⟩:=iX n1 (rc 64 λ_=> .int .u8 0)
 simp(disch:=omega)only[go_sem,qG,aE,WV,hA,e1,n1,e2,lu]
 refine aI (λk' vars hh=> ∃(i:Nat),(∃j:Nat->V,vars= [j 0,.ptr A 0,.ptr (A+1) 0,j 3,j 4,u,aB n,aB i,j 8])/\i<=n/\
   hh.get (A+1)=some (.cells false (rc 64 λj=> .int .u8 ((if j<i then x.getD j 0 else 0:Nat):Int)))/\hh.get A=some (.cells false (rc 64 λ_=> .int .u8 0))/\hh.next=A+1+1/\Fr h hh/\k'=n-i) n
  ⟨0,aA rfl,lL _,g2,by rw[o2 A (by omega)];exact g1,n2,f1.trans f2,rfl⟩ ?_
 rintro k' vars h3 ⟨i,⟨j,rfl⟩,hi,gB,gA,n3,F,rfl⟩
 by_cases hlt:(i:Int)<(n:Int)
 ·have d1:=mL hlt
  have hi':i<n:=by omega
  have ci:h3.cell id (off+i)=some (aB (x.getD i 0:Nat)):=by rw[F.cell (hid (by omega)),hc i hi'];congr 2;simp [zi,lx,hi']
  have r:x.getD i 0<n:=X.eY hi'
  obtain⟨p,hp⟩:=exI (x.getD i 0)
  rw[hp] at ci r
  have pt:=aZ (vs:=rc 64 λj=> .int .u8 ((if j<i then x.getD j 0 else 0:Nat):Int)) (off:=i) (by rw[dG];omega) h3 (A+1) (.int .u8 (p:Int))
  rw[iR] at pt
  simp(disch:=omega)only[go_sem,d1,sh.ixa,ci,rV,gB,pt]
  rw[jJ i]
  refine⟨n-(i+1),by omega,i+1,aA rfl,by omega,?_,?_,n3,F.set (by omega) _,rfl⟩
  ·congr 2
   refine bH λj hj=>?_
   by_cases e:j=i
   ·rw[if_pos e,if_pos (by omega),e,hp]
   ·rw[if_neg e]
    by_cases e2:j<i
    ·rw[if_pos e2,if_pos (by omega)]
    ·rw[if_neg e2,if_neg (by omega)]
  ·exact gA
 have d1:=iZ hlt
 obtain rfl:i=n:=by omega
 have rr:=Gq (n:=64) (by rw[dG]) gB
 have ek:(rc 64 λj=>V.int .u8 ((if j<i then x.getD j 0 else 0:Nat):Int))=rc 64 λj=> .int .u8 ((x.getD j 0:Nat):Int):=by
  refine bH λj hj=>?_
  by_cases e:j<i
  ·rw[if_pos e]
  ·rw[if_neg e,List.getD_eq_getElem?_getD,List.getElem?_eq_none (by omega)];rfl
 rw[ek] at rr
 have pa:=Um (vs:=rc 64 λ_=> .int .u8 0) (ws:=rc 64 λj=> .int .u8 ((x.getD j 0:Nat):Int)) (n:=64) (by rw[dG]) (by rw[dG]) h3 A
 have sa:=zH h3 A 0 64 (rc 64 λj=> .int .u8 ((x.getD j 0:Nat):Int)) (by rw[dG]) (JM λ_=>rfl)
 simp(disch:=omega)only[go_sem,d1,rr,sa,gA,pa]
 have ra:=Gq (h:=h3.set A (some (.cells false (rc 64 λj=> .int .u8 ((x.getD j 0:Nat):Int))))) (n:=64) (by rw[dG]) (H.aS ..)
 simp(disch:=omega)only[go_sem,ra]
 exact⟨rfl,F.set (by omega) _⟩
theorem SQ (u w:V)(n:Nat)(x y:List Nat)(h:H)(hn:n<=64)(X:bF n x)(Y:bF n y)(hu:SI h u (zi x))(hw:SI h w (zi y)):
  Ev T 80 [u,w] h (λv h'=>v=Rd (aU (dA x) y)/\Fr h h'):=by
 refine bN mW rfl rfl ?_
 have lx:=X.len
 have lu:=hu.lens
 rw[aT,lx] at lu
 obtain⟨id,off,sh,hid,hc⟩:=hu.open
 rw[aT,lx] at sh hid hc
 have ly:=Y.len
 obtain⟨idy,offy,shy,hidy,hcy⟩:=hw.open
 rw[aT,ly] at shy hidy hcy
 have Q:=X.inv.mul Y
 obtain⟨A,hA⟩:=exI h.next
 obtain⟨h1,e1,n1,g1,o1,f1⟩:=iX hA (rc 64 λ_=> .int .u8 0)
 obtain⟨h2,e2,n2,g2,o2,f2⟩:=iX n1 (rc 64 λ_=> .int .u8 0)
 simp(disch:=omega)only[go_sem,mW,aE,WV,hA,e1,n1,e2,lu]
 refine aI (λk' vars hh=> ∃(i:Nat),(∃j:Nat->V,vars= [j 0,w,.ptr A 0,.ptr (A+1) 0,j 4,j 5,u,aB n,aB i,j 9])/\i<=n/\
   hh.get (A+1)=some (.cells false (rc 64 λj=> .int .u8 ((if x.idxOf j<i then (aU (dA x) y).getD j 0 else 0:Nat):Int)))/\hh.get A=some (.cells false (rc 64 λ_=> .int .u8 0))/\hh.next=A+1+1/\Fr h hh/\k'=n-i) n
  ⟨0,aA rfl,lL _,g2,by rw[o2 A (by omega)];exact g1,n2,f1.trans f2,rfl⟩ ?_
 rintro k' vars h3 ⟨i,⟨j,rfl⟩,hi,gB,gA,n3,F,rfl⟩
 by_cases hlt:(i:Int)<(n:Int)
 ·have d1:=mL hlt
  have hi':i<n:=by omega
  have ci:h3.cell id (off+i)=some (aB (x.getD i 0:Nat)):=by rw[F.cell (hid (by omega)),hc i hi'];congr 2;simp [zi,lx,hi']
  have r:x.getD i 0<n:=X.eY hi'
  obtain⟨p,hp⟩:=exI (x.getD i 0)
  rw[hp] at ci r
  have cy:h3.cell idy (offy+i)=some (aB (y.getD i 0:Nat)):=by rw[F.cell (hidy (by omega)),hcy i hi'];congr 2;simp [zi,ly,hi']
  have r2:y.getD i 0<n:=Y.eY hi'
  have ip:x.idxOf p=i:=by rw[←qW (by omega),←hp];exact rP X hi'
  have qp:(aU (dA x) y).getD p 0=y.getD i 0:=by rw[cV (by rw[X.inv.len];exact r),←hp,rP X hi']
  obtain⟨q,hq⟩:=exI (y.getD i 0)
  rw[hq] at cy r2 qp
  have pt:=aZ (vs:=rc 64 λj=> .int .u8 ((if x.idxOf j<i then (aU (dA x) y).getD j 0 else 0:Nat):Int)) (off:=p) (by rw[dG];omega) h3 (A+1) (.int .u8 (q:Int))
  rw[iR] at pt
  simp(disch:=omega)only[go_sem,d1,sh.ixa,ci,shy.ixa,cy,rV,gB,pt]
  rw[jJ i]
  refine⟨n-(i+1),by omega,i+1,aA rfl,by omega,?_,?_,n3,F.set (by omega) _,rfl⟩
  ·congr 2
   refine bH λj hj=>?_
   by_cases e:j=p
   ·rw[if_pos e,if_pos (by rw[e,ip];omega),e,qp]
   ·rw[if_neg e]
    have ne:x.idxOf j≠i:=λh=>e (by
     by_cases hjn:j<n
     ·rw[←hp,←h,←qW (by omega),ZR X hjn]
     ·have:x.idxOf j=x.length:=List.idxOf_eq_length λhm=>hjn (X.lt j hm)
      omega)
    by_cases e2:x.idxOf j<i
    ·rw[if_pos e2,if_pos (by omega)]
    ·rw[if_neg e2,if_neg (by omega)]
  ·exact gA
 have d1:=iZ hlt
 obtain rfl:i=n:=by omega
 have rr:=Gq (n:=64) (by rw[dG]) gB
 have ek:(rc 64 λj=>V.int .u8 ((if x.idxOf j<i then (aU (dA x) y).getD j 0 else 0:Nat):Int))=rc 64 λj=> .int .u8 (((aU (dA x) y).getD j 0:Nat):Int):=by
  refine bH λj hj=>?_
  by_cases e:x.idxOf j<i
  ·rw[if_pos e]
  ·have hjn: ¬j<i:=λhjn=>e (by rw[←qW (by omega)];exact X.inv.eY hjn)
   rw[if_neg e,List.getD_eq_getElem?_getD,List.getElem?_eq_none (by rw[Q.len];omega)];rfl
 rw[ek] at rr
 have pa:=Um (vs:=rc 64 λ_=> .int .u8 0) (ws:=rc 64 λj=> .int .u8 (((aU (dA x) y).getD j 0:Nat):Int)) (n:=64) (by rw[dG]) (by rw[dG]) h3 A
 have sa:=zH h3 A 0 64 (rc 64 λj=> .int .u8 (((aU (dA x) y).getD j 0:Nat):Int)) (by rw[dG]) (JM λ_=>rfl)
 simp(disch:=omega)only[go_sem,d1,rr,sa,gA,pa]
 have ra:=Gq (h:=h3.set A (some (.cells false (rc 64 λj=> .int .u8 (((aU (dA x) y).getD j 0:Nat):Int))))) (n:=64) (by rw[dG]) (H.aS ..)
 simp(disch:=omega)only[go_sem,ra]
 exact⟨rfl,F.set (by omega) _⟩
theorem Bn {v:V}{L:LN}(s:SP h v L):dN v=some (aB (L.length:Int))/\eH v v=true/\ ∃(id off:Nat) (ws:List V),Sl v 1 L.length id off/\ ∀i,i<L.length->id<h.next/\h.cell id (off+i)=some (ws.getD i V.undef)/\SI h (ws.getD i V.undef) (zi (L.getD i [])):=by
 have lv:=s.lens;rw[rK] at lv;obtain⟨id,off,ws,sh,hid,hwl,hc,hall⟩:=s.open;rw[rK] at sh hid hwl hc;obtain⟨ws',sv',_⟩:=s;exact⟨lv,SV.eH sv',id,off,ws,sh,λi hi=>⟨hid (by omega),hc i hi,Mu hall hi⟩⟩
theorem Tc {α:Type}(f g:α->V): ∀l:List α,sS (l.map f) (l.map g)=l.all λi=>eH (f i) (g i)
 | []=>rfl
 |a::l=>by
  rw[List.map_cons,List.map_cons,List.all_cons,←Tc f g l]
  rfl
theorem Ji (hn:n<=64)(a b:List Nat)(A:bF n a)(B:bF n b):eH (Rd a) (Rd b)=decide (a=b):=by
 show sS (rc 64 _) (rc 64 _)=_;unfold rc;rw[Tc,Bool.eq_iff_iff,List.all_eq_true,decide_eq_true_iff];constructor
 ·intro h
  refine List.ext_getElem (by rw[A.len,B.len]) λi h1 h2=>?_
  have:=h i (Kw.2 (by have:=A.len;omega));have e:((a.getD i 0:Nat):Int)=((b.getD i 0:Nat):Int):=by simpa [eH] using this
  rw[Pm.cT h1,Pm.cT h2] at e;omega
 ·rintro rfl i _
  simp [eH]
theorem Cz (hn:n<=64)(a:List Nat)(A:bF n a):isKey (.arr 64 .u8) (Rd a)=true:=by
 unfold isKey Rd;simp only;rw[dG,decide_eq_true rfl,Bool.true_and,List.all_eq_true];intro v hv;obtain⟨i,hi,rfl⟩:=xB.1 hv
 have:a.getD i 0<256:=by
  by_cases h:i<a.length
  ·have:=A.eY (i:=i) (by rw[←A.len];exact h);omega
  ·rw[List.getD_eq_getElem?_getD,List.getElem?_eq_none (by omega)];decide
 have e1:IntKind.min .u8=0:=rfl;have e2:IntKind.max .u8=255:=rfl;simp only[e1,e2,Bool.and_eq_true,decide_eq_true_iff];exact⟨trivial,by omega,by omega⟩
structure Ip (n:Nat)(G:List Nat->Prop)(L:LN)(K:List Nat)(hh:H)(D:Nat):Prop where
 ex: ∃vL vC M l ks,hh.get D=some (.cells false [vL,vC,.mp M])/\D<hh.next/\M<hh.next/\SP hh vL L/\SV hh vC 3 (qT ks)/\cF (KR n G L hh) ks K/\hh.get M=some (.wmap (.arr 64 .u8) (iO Rd l))/\(∀p∈l,bF n p.1)/\ ∀i,i<L.length->Kq l (L.getD i [])=some (aB (fS G L K i:Nat))
theorem Ip.mono {G:List Nat->Prop}{L:LN}{K:List Nat}{h':H}{D:Nat}(d:Ip n G L K h D)(f:Fr h h'):Ip n G L K h' D:=by
 obtain⟨vL,vC,M,l,ks,g,hD,hM,sL,sC,al,gM,kl,lk⟩:=d.ex;exact⟨vL,vC,M,l,ks,by rw[f.get _ hD];exact g,kO hD f.next,kO hM f.next,sL.mono f,sC.mono f,al.mono λ_ _ k=>KR.mono k f,by rw[f.get _ hM];exact gM,kl,lk⟩
theorem PK (D:Nat)(u:V)(n:Nat)(G:List Nat->Prop)(L:LN)(K:List Nat)(x:List Nat)(h:H)(hn:n<=64)(d:Ip n G L K h D)(X:bF n x)(hx:x∈L)(hu:SI h u (zi x)):
  Ev T 47 [.ptr D 0,u] h (λv h'=>v= aB (fS G L K (L.idxOf x):Nat)/\Fr h h'):=by
 refine bN kZ rfl rfl ?_
 obtain⟨vL,vC,M,l,ks,g,hD,hM,sL,sC,al,gM,kl,lk⟩:=d.ex
 have eu:=hu.eH
 simp(disch:=omega)only[go_sem,kZ,aE,H.aF g]
 have fb:=(Fr.refl h).bJ (n:=h.next+8) (by omega)
 refine (By u n x _ hn X (hu.mono fb)).mono ?_
 rintro _ h1 ⟨rfl,f1⟩
 have F:=fb.trans f1
 have g1:h1.get D=some (.cells false [vL,vC,.mp M]):=by rw[F.get _ hD];exact g
 have gM1:h1.get M=some (.wmap (.arr 64 .u8) (iO Rd l)):=by rw[F.get _ hM];exact gM
 have hl:=List.idxOf_lt_length_of_mem hx
 have hxe:L.getD (L.idxOf x) []=x:=by rw[List.getD_eq_getElem?_getD,iD hl];exact List.getElem_idxOf hl
 have lk':=lk (L.idxOf x) hl
 rw[hxe] at lk'
 have lo:=λz=>tI (Ji hn) (λa A=>Cz hn a A) (P:=bF n) kl X z
 rw[lk'] at lo
 simp(disch:=omega)only[go_sem,H.aF g1,eu,gM1,lo]
 exact⟨by simp [eH],rfl,F⟩
end
set_option maxHeartbeats 16000000
theorem RE {v:V}(M:Nat)(hv:v.cells= [v])(h1:v.one=true):tZ [.aC,.aC,.nilm] [(1,1,v),(2,1,.mp M)]=some (.agg [.aC,v,.mp M]):=by
 simp [tZ,jL,putAt,hv,h1,show (V.mp M).cells= [V.mp M] from rfl,show (V.mp M).one=true from rfl]
theorem Ph {W0:Nat->Prop}(vc:V)(n:Nat)(O:LN)(R:pF)(G:List Nat->Prop)(h:H)(gc:GC W0 h vc n O R G)(L:LN)(hL:dC O R n 0 (bI n)=L):
  Ev T 38 [vc] h (λv h'=> ∃K,Dh n G L K/\Fr h h'/\(64<K.length/\v= .tup [.nilp,aB 5]∨K.length<=64/\ ∃D,v= .tup [.ptr D 0,aB 0]/\Ip n G L K h' D)):=by
 have gc0:=gc
 obtain⟨vO,vR,rfl,sO,sR⟩:=gc.ch
 refine bN sJ rfl rfl ?_
 have oneO:vO.one=true:=PS sO
 have oneR:vR.one=true:=PO sR
 have n7:=gc.n7
 have hG:=gc.nC
 obtain⟨E,ll⟩:=iT gc.nC gc.isc
 have ll5:=mN gc
 rw[hL] at E ll
 obtain⟨B,hB⟩:=exI h.next
 obtain⟨h1,e1,n1,g1,o1,f1⟩:=iX hB [aB n,vO,vR]
 have bx:=fG h (v:= aB n) (u:=vO) (w:=vR) rfl oneO oneR
 have rB: ∀hh,Fr h1 hh->hh.row B 0 3=some [aB n,vO,vR]:=λhh f=>bZ (by rw[f.get B (by omega)];exact g1)
 simp(disch:=omega)only[go_sem,sJ,aE,bx,hB,e1,rB h1 (Fr.refl _)]
 refine (Tz _ n O R G h1 (gc0.mono f1) L hL).mono ?_
 rintro _ h2 ⟨v4,K,ks,rfl,ik,s4,a4,f2⟩
 have lks:=cF.length a4
 have hwm:K.length<=5040:=by
  rw[ik.perm.length_eq];unfold jK;exact Nat.le_trans (List.length_filter_le _ _) (by rw[List.length_range];omega)
 have lv4:dN v4=some (aB (K.length:Int)):=by unfold dN;rw[SV.len s4 (n:=ks.length) (zA ks) (by omega),lks];rfl
 have w4:=s4.eI
 simp(disch:=omega)only[go_sem]
 refine aY (λhc=>(hc rfl).elim) (λ_=>?_)
 by_cases h64:(64:Int)<(K.length:Int)
 ·have d1:decide ((64:Int)<(K.length:Int))=true:=decide_eq_true h64
  simp(disch:=omega)only[go_sem,lv4,d1]
  exact⟨K,ik,f1.trans f2,.inl ⟨by omega,trivial⟩⟩
 have d1:decide ((64:Int)<(K.length:Int))=false:=decide_eq_false h64
 obtain⟨M,hM⟩:=exI h2.next
 obtain⟨h3,e3⟩:=exI (h2.new (.wmap (.arr 64 .u8) []))
 have n3:h3.next=M+1:=by rw[←e3,H.aV,hM]
 have g3:h3.get M=some (.wmap (.arr 64 .u8) []):=by rw[←e3,←hM];exact H.aM h2 _
 have o3: ∀k,k≠M->h3.get k=h2.get k:=λk hk=>by rw[←e3];exact H.bD h2 (by omega) _
 obtain⟨h4,e4,n4,g4,o4,f4⟩:=iX n3 [.aC,v4,.mp M]
 have F24:Fr h2 h4:=⟨by omega,λq hq=>by rw[o4 q (by omega),o3 q (by omega)]⟩
 have F14:=f2.trans F24
 have ba:=vD h3 [.aC,v4,.mp M] (by simp [w4.2.1,show V.aC.one=true from rfl,show (V.mp M).one=true from rfl])
 simp(disch:=omega)only[go_sem,lv4,d1,hM,e3,RE M w4.1 w4.2.1,ba,n3,e4,rB h4 F14]
 refine (Zr _ n O R G h4 (gc0.mono (f1.trans F14))).mono ?_
 rw[hL]
 rintro _ h5 ⟨vL,rfl,nw⟩
 have pl:=nw.pl
 have f5:=nw.fr
 have wL:vL.cells= [vL]/\vL.one=true:=by obtain⟨ws,s,_⟩:=pl;exact⟨s.eI.1,s.eI.2.1⟩
 have n5:=f5.next
 have g5:h5.get (M+1)=cG [.aC,v4,.mp M]:=by rw[f5.get _ (by omega)];exact g4
 obtain⟨h6,e6,n6,g6,o6⟩:=Fq h5 (M+1) [vL,v4,.mp M]
 have p6:fO (cG [.aC,v4,.mp M]) h5 (M+1) 0 [vL]=some h6:=by rw[aZ (by simp),←e6];rfl
 have F26:Fr h2 h6:=⟨by omega,λq hq=>by rw[o6 q (by omega),f5.get q (by omega)];exact F24.get q hq⟩
 have F16:=f2.trans F26
 simp(disch:=omega)only[go_sem,g5,kS wL.1 wL.2,p6,rB h6 F16]
 refine (YF _ n O R G h6 (gc0.mono (f1.trans F16)) L hL).mono ?_
 rintro _ h7 ⟨v7,K',rfl,ik',s7,f7⟩
 obtain rfl:=ik.uniq ik'
 have n7':=f7.next
 have F27:=F26.trans f7
 have g7:h7.get (M+1)=cG [vL,v4,.mp M]:=by rw[f7.get _ (by omega)];exact g6
 have gM7:h7.get M=some (.wmap (.arr 64 .u8) []):=by rw[f7.get _ (by omega),o6 _ (by omega),f5.get _ (by omega),o4 _ (by omega)];exact g3
 have pl7:PL (λid=>id<h4.next) h7 vL L:=by
  refine PL.go pl ⟨by omega,λid h1 h2=>?_⟩ (λid h1 h2=>h2);rw[f7.get _ (by omega),o6 _ (by omega)]
 have sL7:=pl7.sp
 obtain⟨lvL,eL,idL,offL,ws,shL,cL⟩:=Bn sL7
 have lnM:(zi (yO G L K)).length=L.length:=by rw[aT];simp [yO]
 obtain⟨idN,offN,shN,hidN,hcN⟩:=s7.open
 rw[lnM] at shN hidN hcN
 have e7':=s7.eH
 simp(disch:=omega)only[go_sem,H.aF g7,lvL]
 have nM: ∀{id off:Nat} {v:V},h7.cell id off=some v->id≠M:=λhc e=>by
  rw[e] at hc;unfold H.cell at hc;rw[gM7] at hc;cases hc
 refine aI (λk' vars hh=> ∃(i:Nat) (l:List (List Nat×V)),(∃g:Nat->V,vars= [g 0,g 1,g 2,g 3,g 4,g 5,.ptr (M+1) 0,v7,g 8,g 9,g 10,g 11,vL,aB (L.length:Int),aB i,g 15])/\i<=L.length/\hh.get M=some (.wmap (.arr 64 .u8) (iO Rd l))/\(∀p∈l,bF n p.1)/\(∀j,j<i->Kq l (L.getD j [])=some (aB (fS G L K j:Nat)))/\Fx (· =M) h7 hh/\k'=L.length-i) L.length
  ⟨0, [],aA rfl,lL _,gM7,λ_ h=>(by cases h),λj hj=>(by omega),Fx.refl _ _,rfl⟩ ?_
 rintro k' vars h8 ⟨i,l,⟨g,rfl⟩,hi,gM,kl,lk,F,rfl⟩
 have n8:=F.next
 have F28:Fr h2 h8:=⟨by omega,λq hq=>by rw[F.get q (by omega) (by show q≠M;omega)];exact F27.get q hq⟩
 have pl8:PL (λid=>id<h4.next) h8 vL L:=PL.go pl7 ⟨n8,λid h1 h2=>F.get id h1 (λe=>h2 (by rw[e];show M<h4.next;omega))⟩ (λid h1 h2=>h2)
 have g8:h8.get (M+1)=cG [vL,v4,.mp M]:=by rw[F.get _ (by omega) (by show M+1≠M;omega)];exact g7
 by_cases hlt:(i:Int)<(L.length:Int)
 case neg=>
  have d3:=iZ hlt;obtain rfl:i=L.length:=by omega
  simp(disch:=omega)only[go_sem,d3];refine⟨K,ik,(f1.trans f2).trans ⟨by omega,λq hq=>F28.get q (by omega)⟩|>.trans (Fr.refl _),.inr ⟨by omega,M+1,rfl,?_⟩⟩;exact⟨vL,v4,M,l,ks,g8,by omega,by omega,pl8.sp,s4.mono F28,a4.mono λ_ _ k=>KR.mono k F28,gM,kl,lk⟩
 have d3:=mL hlt
 have hiL:i<L.length:=by omega
 obtain⟨_,_,idL,offL,ws,shL,cL⟩:=Bn pl8.sp
 obtain⟨b1,c1,s1⟩:=cL i hiL
 generalize ws.getD i V.undef=ve at c1 s1
 have X:=kP hG E hiL
 obtain⟨x,hx⟩:=exI (L.getD i [])
 rw[hx] at s1 X
 have c7:=hcN i hiL
 rw[show (zi (yO G L K)).getD i 0=((fS G L K i:Nat):Int) from by simp [yO,zi,hiL]] at c7
 have cN:h8.cell idN (offN+i)=some (aB (fS G L K i:Nat)):=by rw[F.cell (hidN (by omega)) (nM c7)];exact c7
 have ex:=s1.eH
 simp(disch:=omega)only[go_sem,d3,shL.ixa,c1,H.aF g8,shN.ixa,cN]
 have fb:=(Fr.refl h8).bJ (n:=h8.next+11) (by omega)
 refine (By ve n x _ (by omega) X (s1.mono fb)).mono ?_
 rintro _ h9 ⟨rfl,f9⟩
 have F9:=fb.trans f9
 have g9:h9.get (M+1)=cG [vL,v4,.mp M]:=by rw[F9.get _ (by omega)];exact g8
 have gM9:h9.get M=some (.wmap (.arr 64 .u8) (iO Rd l)):=by rw[F9.get _ (by omega)];exact gM
 have cN9:h9.cell idN (offN+i)=some (aB (fS G L K i:Nat)):=by rw[F9.cell (by have:=hidN (by omega);omega)];exact cN
 have pm:=λhh=>HP (Ji (n:=n) (by omega)) (λa A=>Cz (n:=n) (by omega) a A) kl X (aB (fS G L K i:Nat)) hh M
 simp(disch:=omega)only[go_sem,H.aF g9,cN9,e7',gM9,pm]
 rw[jJ i]
 refine⟨by simp [eH],L.length-(i+1),by omega,i+1,_,aA rfl,by omega,rfl,Ec X kl,λj hj=>?_,(F.trans (Fx.of (W:=(· =M)) F9) λ_ _ h=>h).trans (Fx.set h9 (W:=(· =M)) rfl _) (λ_ _ h=>h),rfl⟩
 rw[Gk]
 by_cases e:L.getD j []=x
 ·rw[if_pos e,Iu E.nodup (by omega) hiL (e.trans hx.symm)]
 ·rw[if_neg e]
  refine lk j ?_
  rcases Nat.lt_or_ge j i with h|h
  ·exact h
  ·exact absurd (by rw[show j=i by omega];exact hx) e
noncomputable def Uz (G:List Nat->Prop)(L:LN)(K:List Nat)(a k:Nat):Nat:=fS G L K (L.idxOf (aU (dA (L.getD a [])) (L.getD (K.getD k 0) [])))
noncomputable def Dx (G:List Nat->Prop)(L:LN)(K:List Nat)(i k t j:Nat):Nat:=((List.range t).filter λa=>decide (fS G L K a=i/\Uz G L K a k=j)).length
noncomputable def kN (G:List Nat->Prop)(L:LN)(K:List Nat)(i j k:Nat):Nat:=Dx G L K i k L.length j
section
variable {n:Nat} {G:List Nat->Prop} {L:LN} {K:List Nat}
theorem Dz (i k t j:Nat):Dx G L K i k (t+1) j=Dx G L K i k t j+if fS G L K t=i/\Uz G L K t k=j then 1 else 0:=by
 unfold Dx;rw[List.range_succ,List.filter_append,oF]
 by_cases h:fS G L K t=i/\Uz G L K t k=j<;>simp [h]
theorem AJ (i k t j:Nat):Dx G L K i k t j<=t:=by
 unfold Dx;exact Nat.le_trans (List.length_filter_le _ _) (by rw[List.length_range];exact iP _)
def Uu (p:Nat×Nat):V:= .agg [aB (p.1:Int),aB (p.2:Int)]
def WM (p:Nat×Nat):Prop:=p.1<1000000/\p.2<1000000
theorem Qs (a b:Nat×Nat)(_:WM a)(_:WM b):eH (Uu a) (Uu b)=decide (a=b):=by
 show sS [_,_] [_,_]=_;simp only[sS,eH,Bool.and_true,beq_self_eq_true,Bool.true_and];rw[Bool.eq_iff_iff,Bool.and_eq_true,beq_iff_eq,beq_iff_eq,decide_eq_true_iff,Prod.ext_iff];omega
theorem Gr (a:Nat×Nat)(h:WM a):isKey (.arr 2 .i64) (Uu a)=true:=by
 obtain⟨h1,h2⟩:=h;unfold isKey Uu;have e1:IntKind.min .i64= -9223372036854775808:=rfl;have e2:IntKind.max .i64=9223372036854775807:=rfl;simp only[List.all_cons,List.all_nil,e1,e2,Bool.and_true,Bool.and_eq_true,decide_eq_true_iff];exact⟨rfl,⟨trivial,by omega,by omega⟩,trivial,by omega,by omega⟩
theorem NJ (x y:Int):tZ [aB 0,aB 0] [(0,1,aB x),(1,1,aB y)]=some (.agg [aB x,aB y]):=rfl
theorem srO {h:H}{v:V}{O:List (List Int)}(s:SR h v O):dN v=some (aB (O.length:Int))/\eH v v=true/\v.cells= [v]/\v.one=true/\ ∃(id off:Nat) (ws:List V),Sl v 1 O.length id off/\ ∀i,i<O.length->id<h.next/\h.cell id (off+i)=some (ws.getD i V.undef)/\SI h (ws.getD i V.undef) (O.getD i []):=by
 have lv:=s.lens;obtain⟨ws,sv,al⟩:=s;have hl:=cF.length al;obtain⟨id,off,sh,hid,hc⟩:=SV.shape sv O.length (by omega) (by omega);exact⟨lv,SV.eH sv,(SV.eI sv).1,(SV.eI sv).2.1,id,off,ws,sh,λi hi=>⟨hid (by omega),by rw[hc i (by omega)];simp [List.getD,show i<ws.length by omega],Nw al hi⟩⟩
theorem aaX {h:H}{id o:Nat}{a b c:V}(ha:h.cell id o=some a)(hb:h.cell id (o+1)=some b)(hc:h.cell id (o+2)=some c):h.row id o 3=some [a,b,c]:=by
 unfold H.cell at ha hb hc;unfold H.row;split at ha
 ·rename_i ro vs e
  rw[e] at hb hc;have hb:vs[o+1]? =some b:=hb;have hc:vs[o+2]? =some c:=hc;obtain⟨la,ea⟩:=List.getElem?_eq_some_iff.1 ha;obtain⟨lb,eb⟩:=List.getElem?_eq_some_iff.1 hb;obtain⟨lc,ec⟩:=List.getElem?_eq_some_iff.1 hc;rw[e];simp only[sub];rw[if_pos (by omega),List.drop_eq_getElem_cons la,List.drop_eq_getElem_cons lb,List.drop_eq_getElem_cons lc,ea,eb,ec]
  rfl
 ·cases ha
theorem pP {hh:H}{vC:V}{ks:List Cls.KE}(hK:K.length<1000000)(s:SV hh vC 3 (qT ks))(al:cF (KR n G L hh) ks K):
  dN vC=some (aB (K.length:Int))/\eH vC vC=true/\ ∃id off,Sl vC 3 K.length id off/\ ∀k,k<K.length->id<hh.next/\ ∃rep,hh.cell id (off+k*3)=some rep/\hh.cell id (off+k*3+2)=some (aB ((iN G L (K.getD k 0)).length:Int))/\hh.row id (off+k*3) 3=some [rep,aB (fN (L.getD (K.getD k 0) []) n:Int),aB ((iN G L (K.getD k 0)).length:Int)]/\SI hh rep (zi (L.getD (K.getD k 0) [])):=by
 have lks:=cF.length al
 have l3:=zA ks
 obtain⟨id,off,sh,hid,hc⟩:=s.shape K.length (by rw[l3,lks]) (by omega)
 refine⟨by unfold dN;rw[SV.len s (n:=ks.length) l3 (by omega),lks];rfl,s.eH,id,off,sh,λk hk=>?_⟩
 obtain⟨p1,p2,p3⟩:=MV (ks:=ks) (i:=k) (by omega)
 have ka:=cF.get al k (by omega) hk
 rw[←Pm.cT hk] at ka
 have c1:=(hc (k*3) (by omega)).trans p1
 have c2:=(hc (k*3+1) (by omega)).trans p2
 have c3:=(hc (k*3+2) (by omega)).trans p3
 rw[ka.ord] at c2
 rw[ka.size] at c3
 rw[←Nat.add_assoc] at c2 c3
 exact⟨hid (by omega),_,c1,c3,aaX c1 c2 c3,ka.rep⟩
end
section
variable {n i p:Nat} {G:List Nat->Prop} {o:List Nat} {r:LN}
structure Vx (n:Nat)(G:List Nat->Prop)(i p:Nat)(o:List Nat)(r:LN):Prop where
 asc:o.Pairwise (· < ·)
 mem: ∀q,q∈o↔q<p/\ ∃x,G x/\Fix i x/\x.getD i 0=q
 len:r.length=o.length
 rep: ∀t,t<o.length->Fl n G i (o.getD t 0) (r.getD t [])
theorem Vx.start (n:Nat)(G:List Nat->Prop)(i:Nat):Vx n G i 0 [] []:=⟨.nil,λq=>by simp,rfl,λt h=>by cases h⟩
theorem Vx.skip (c:Vx n G i p o r)(h: ∀x,G x->Fix i x->x.getD i 0≠p):Vx n G i (p+1) o r:=
 ⟨c.asc,λq=>by
  rw[c.mem];constructor
  ·rintro⟨h1,h2⟩;exact⟨by omega,h2⟩
  ·rintro⟨h1,x,gx,fx,ex⟩
   refine⟨?_,x,gx,fx,ex⟩;rcases Nat.lt_or_ge q p with h2|h2
   ·exact h2
   ·exact absurd (by omega) (h x gx fx),c.len,c.rep⟩
theorem Vx.step (c:Vx n G i p o r){x:List Nat}(hx:Fl n G i p x):Vx n G i (p+1) (o++ [p]) (r++ [x]):=by
 refine⟨List.pairwise_append.2 ⟨c.asc,List.pairwise_singleton _ _,λa ha b hb=>?_⟩,λq=>?_,by rw[oF,oF,c.len];rfl,λt ht=>?_⟩
 ·rw[List.mem_singleton.1 hb];exact ((c.mem a).1 ha).1
 ·rw[Ks,c.mem,List.mem_singleton]
  constructor
  ·rintro (⟨h1,h2⟩|rfl)
   ·exact⟨by omega,h2⟩
   ·exact⟨by omega,x,hx.mem,hx.fix,hx.maps⟩
  ·rintro⟨h1,h2⟩
   rcases Nat.lt_or_ge q p with h3|h3
   ·exact .inl ⟨h3,h2⟩
   ·exact .inr (by omega)
 ·by_cases e:t=o.length
  ·subst e
   have e1:(o++ [p]).getD o.length 0=p:=by simp [List.getD]
   have e2:(r++ [x]).getD o.length []=x:=by rw[←c.len];exact kB
   rw[e1,e2];exact hx
  ·have ht':t<o.length:=by rw[oF] at ht;simp at ht;omega
   have e1:(o++ [p]).getD t 0=o.getD t 0:=by simp [List.getD,Jw ht']
   rw[e1,lT (by rw[c.len];exact ht')];exact c.rep t ht'
theorem Vx.le (c:Vx n G i p o r):o.length<=p:=by
 have nd:o.Nodup:=c.asc.imp λh=>by omega
 have:=List.Nodup.length_le_of_subset nd (l₂:=List.range p) λq hq=>Kw.2 ((c.mem q).1 hq).1
 rwa [List.length_range] at this
theorem EC {A:LN}(E:fL G A){k:Nat}(hk:k<A.length)(h1:Fix i (A.getD k []))(h2:(A.getD k []).getD i 0=p)(h3: ∀k',k'<k-> ¬((A.getD k' []).getD i 0=p/\Fix i (A.getD k' []))):Fl n G i p (A.getD k []):=by
 refine⟨vN E hk,h1,h2,λy gy fy my=>?_⟩;obtain⟨m,hm,em⟩:=Ge.1 ((E.mem y).2 gy);have em':A.getD m []=y:=by rw[List.getD_eq_getElem?_getD,iD hm];exact em
 rcases Nat.lt_trichotomy m k with h|h|h
 ·exact absurd ⟨by rw[em'];exact my,by rw[em'];exact fy⟩ (h3 m h)
 ·subst h;rw[em'];exact .inl rfl
 ·rw[←em']
  have:=List.pairwise_iff_getElem.1 E.asc k m hk hm h;rw[List.getD_eq_getElem?_getD,iD hk,List.getD_eq_getElem?_getD,iD hm];exact .inr this
end
end Go.Proofs.YtapfcpkecmmagaaGreat
