/- Texts of the claim. -/
import Derived.Test.YtcdbmkidaecdiaaGreatP6etoP8e
import Derived.Test.YtcdbmkidaecdiaaGreatDp2toDp8
set_option maxHeartbeats 64000000
namespace Go.Proofs.YtcdbmkidaecdiaaGreat
open Go Go.Ay Go.Pm
set_option maxRecDepth 100000
theorem QH (h:H)(n:Nat)(a:n<=100000):Jz h 1 24 [.aD] (aC n) (aC n)=some (.sl h.next 0 n (.kn n),h.new (.cells false (rc n λ_=> .aD))):=by
 have e:dP [V.aD] n=rc n λ_=> .aD:=(Lq (by simp [dP]) λi hi=>by simp [dP,hi,Nat.mod_one]).symm
 rw[uM om (Int.le_refl _) om om,DK,tW,e]
theorem QL (n:Nat)(h:H)(hn:n<=64):Ev T 86 [aC n] h (λv h'=> ∃ρ F,Ji h.next (WB n ρ) h' n v ρ F (λ_ _=>none)/\Fr h h'):=by
 refine dW Er rfl ?_;simp(disch:=omega)only[go_sem,Er,aE]
 refine aI (λU l w=> ∃(i:Nat) (u:V) (b:List Nat),(∃g:Nat->V,l= [aC n,g 1,u,aC i,g 4])/\i<=n/\b.length=i/\dH w u 1 (b.map λr=> .sl r 0 n (.kn n)) h.next/\b.Nodup/\
   (∀r∈b,h.next<=r/\r<w.next/\w.get r=some (.cells false (rc n λ_=> .aD))/\dR u r)/\Fr h w/\U=n-i) n
  ⟨0,.aD, [],aB rfl,iB _,rfl,dH.aD _ _ _,List.nodup_nil,λr k=>absurd k List.not_mem_nil,Fr.refl h,rfl⟩ ?_
 rintro U l G ⟨i,u,b,⟨g,rfl⟩,hi,y,A,nd,k,f,rfl⟩
 by_cases s:(i:Int)<(n:Int)
 case neg=>
  have B:=bI s;obtain rfl:i=n:=om
  simp(disch:=omega)only[go_sem,B];have x: ∀j,j<i->b.getD j 0∈b:=λj d=>bC om
  refine⟨λj=>b.getD j 0,λ_ _=> .aD,⟨?_,?_,λj d=>(k _ (x j d)).2.2.1,λj d=>⟨j,d,rfl⟩,?_,?_,λa c Q L e=>?_,λ_ _ _ _=>rfl⟩,f⟩
  ·have O:(rc i λj=>V.sl (b.getD j 0) 0 i (.kn i))=b.map λr=> .sl r 0 i (.kn i):=Lq (by rw[iA];exact y) λj d=>by
    rw[Qy,dD om,List.getD,dD om];rfl
   rw[O];exact A.sv
  ·cases u with
   |sl id o m c=>
    rintro⟨j,d,e⟩;exact (k _ (x j d)).2.2.2 _ _ _ _ rfl e
   |_=>trivial
  ·rintro id ⟨j,d,rfl⟩;exact (k _ (x j d)).2.1
  ·rintro id ⟨j,d,rfl⟩;exact (k _ (x j d)).1
  ·have ea:=dD (show a<b.length by omega)
   have W:=dD (show c<b.length by omega);simp only[List.getD,ea,W,Option.getD_some] at e;rcases Nat.lt_trichotomy a c with p|p|p
   ·exact absurd e (GP.1 nd a c om om p)
   ·exact p
   ·exact absurd e.symm (GP.1 nd c a om om p)
 have B:=cI s;obtain⟨S,K⟩:=exI G.next;obtain⟨h3,Y,R,g3,o3,N⟩:=dK K (rc n λ_=> .aD);have fn:=f.next;obtain⟨h4,P,t,f4,n4,J⟩:=Je (v:= .sl S 0 n (.kn n)) (A.fr N) (f.trans N) (by rw[iA];omega) (bytes:=24) om;rw[iA,y,R] at P t;simp(disch:=omega)only[go_sem,B,QH G n om,K,Y,cK _ (z:= .aD) (v:= .sl S 0 n (.kn n)) rfl rfl,R,P];rw[fJ i];have q: ∀r∈b,r<S:=λr h=>by have:=(k r h).2.1;omega
 refine⟨n-(i+1),om,i+1,_,b++ [S],aB rfl,om,by rw[iV,y];rfl,by rw[List.map_append];exact t,List.nodup_append.2 ⟨nd,by simp,λa Q c L e=>?_⟩,λr h=>?_,f4,rfl⟩
 ·have:=q a Q
  simp at L;omega
 ·rcases oD.1 h with h|h
  ·obtain⟨b1,b2,b3,Z⟩:=k r h
   refine⟨b1,om,by rw[J r om Z,o3 r om];exact b3,λid o m c e=>by cases e;omega⟩
  ·simp at h
   subst h;refine⟨om,om,by rw[J _ om (λid o m c e O=>by have:=(A.in _ _ _ _ e).1;omega)];exact g3,λid o m c e=>by cases e;omega⟩
theorem rL (W:V)(n:Nat)(l:LN)(h:H)(n0:1<=n)(n7:n<=7)(hl:l.length<=4096)(hv:SP h W l)(hP: ∀g∈l,aY n g):
  Ev T 30 [aC n,W] h (λv h'=> ∃vc O R,v= .tup [vc,aC 0]/\GC (λid=>id<h.next) h' vc n O R (bM n (· ∈l))/\Fr h h'):=by
 refine dW Gs rfl ?_
 obtain⟨B,hB⟩:=exI h.next
 obtain⟨h1,e1,n1,g1,o1,f1⟩:=dK hB [aC 0,.aD,.aD]
 have d1:decide ((n:Int)<1)=false:=bI om
 have d2:decide ((64:Int)<(n:Int))=false:=bI om
 have Q:=hv.lens
 rw[iA] at Q
 have d3:decide ((4096:Int)<(l.length:Int))=false:=bI om
 obtain⟨id,L,ws,sh,d,a6,G,y⟩:=hv.open
 rw[iA] at sh d a6 G
 simp(disch:=omega)only[go_sem,Gs,aE,hB,e1,d1,d2,Q,d3]
 refine bQ (λP r=>(∃g:Nat->V,P= [aC n,W,.ptr B 0,g 3,g 4,g 5,g 6,g 7,g 8,g 9,g 10,g 11,g 12,g 13])/\Fr h1 r) ?_ ?_
 ·refine aI (λk' P r=> ∃(i:Nat),(∃g:Nat->V,P= [aC n,W,.ptr B 0,g 3,aC i,g 5,g 6,g 7,g 8,g 9,g 10,g 11,g 12,g 13])/\i<=l.length/\Fr h1 r/\k'=l.length-i) l.length
   ⟨0,aB rfl,iB _,Fr.refl h1,rfl⟩ ?_
  rintro k' o j ⟨i,⟨g,rfl⟩,hi,f,rfl⟩
  by_cases m:(i:Int)<(l.length:Int)
  ·have N:=cI m
   have a:i<l.length:=om
   have F2:=f1.trans f
   have ci:j.cell id (L+i)=some (ws.getD i .undef):=by rw[F2.cell (d om),G i a]
   have K:=xJ y a
   have X:aY n (l.getD i []):=hP _ (bC a)
   generalize ws.getD i .undef=vx at ci K
   have lx:=K.lens
   rw[aS,X.len] at lx
   simp(disch:=omega)only[go_sem,Q,N,sh.ixa,ci]
   refine (Hn vx _ j (by rw[aS,X.len];omega) (K.mono F2)).mono ?_
   rw[Wm X n0 om]
   rintro _ h3 ⟨rfl,s⟩
   have a4:h3.cell id (L+i)=some vx:=by rw[s.cell (by have:=d om;have:=F2.next;omega)];exact ci
   simp(disch:=omega)only[go_sem]
   refine bA (λG=>(G rfl).elim) (λ_=>?_)
   simp(disch:=omega)only[go_sem,sh.ixa,a4,lx]
   refine bA (λG=>(G rfl).elim) (λ_=>?_)
   simp(disch:=omega)only[go_sem]
   rw[fJ i]
   exact⟨l.length-(i+1),om,i+1,aB rfl,om,f.trans s,rfl⟩
  have N:=bI m
  simp(disch:=omega)only[go_sem,Q,N]
  exact⟨aB rfl,f⟩
 rintro o j ⟨⟨g,rfl⟩,f⟩
 have F2:=f1.trans f
 have nf:=f.next
 simp(disch:=omega)only[go_sem]
 refine (QL n j om).mono ?_
 rintro J h3 ⟨ρ,F,R,s⟩
 have F3:=F2.trans s
 simp(disch:=omega)only[go_sem]
 have hL: ∀g,g∈l->aY n g:=hP
 refine bQ (λP r=> ∃(z:Nat->Nat->V) (t:rX),(∃g:Nat->V,P= [aC n,W,.ptr B 0,g 3,g 4,g 5,J,g 7,g 8,g 9,g 10,g 11,g 12,g 13])/\Ji j.next (WB n ρ) r n J ρ z t/\Na n (· ∈l) t/\(∀g∈l,ins t n 0 g=none)/\Fx (WB n ρ) h3 r) ?_ ?_
 ·refine aI (λk' P r=> ∃(i:Nat) (z:Nat->Nat->V) (t:rX),(∃g:Nat->V,P= [aC n,W,.ptr B 0,g 3,g 4,g 5,J,aC i,g 8,g 9,g 10,g 11,g 12,g 13])/\i<=l.length/\Ji j.next (WB n ρ) r n J ρ z t/\Na n (· ∈l) t/\(∀g∈l.take i,ins t n 0 g=none)/\Fx (WB n ρ) h3 r/\k'=l.length-i) l.length
   ⟨0,F,_,aB rfl,iB _,R,⟨pQ.empty n,λg hg=>by
    obtain⟨_,_,_,_,_,e⟩:=gO.1 hg
    cases e⟩,λg hg=>absurd hg List.not_mem_nil,Fx.refl _ _,rfl⟩ ?_
  rintro k' o U ⟨i,z,t,⟨g,rfl⟩,hi,R4,tl,hn,x,rfl⟩
  by_cases m:(i:Int)<(l.length:Int)
  case neg=>
   have N:=bI m;obtain rfl:i=l.length:=om
   simp(disch:=omega)only[go_sem,Q,N];rw[List.take_length] at hn;exact⟨z,t,aB rfl,R4,tl,hn,x⟩
  have N:=cI m
  have a:i<l.length:=om
  have c: ∀q,WB n ρ q->j.next<=q:=R.low
  have X4:Fr h U:=F2.trans ⟨by have:=s.next;have:=x.next;omega,λq hq=>by rw[x.get q (by have:=s.next;omega) (λY=>by have:=c q Y;omega)];exact s.get q hq⟩
  have ci:U.cell id (L+i)=some (ws.getD i .undef):=by rw[X4.cell (d om),G i a]
  have K:=xJ y a
  have X:aY n (l.getD i []):=hP _ (bC a)
  generalize ws.getD i .undef=vx at ci K
  simp(disch:=omega)only[go_sem,Q,N,sh.ixa,ci]
  have px:PV (WB n ρ) U vx (l.getD i []):=by
   refine⟨K.mono X4,HN (b:=j.next) K om c⟩
  refine (Tf j.next (WB n ρ) U n J ρ z t vx _ om om R4 px X tl.tab).mono ?_
  rintro _ h5 ⟨F5,rfl,R5,f5⟩
  simp(disch:=omega)only[go_sem]
  rw[fJ i]
  obtain⟨p,k,A⟩:=tl.ins hL (x:=l.getD i []) (bM.of hL (bC a))
  refine⟨l.length-(i+1),om,i+1,F5,_,aB rfl,om,R5,p,λu hu=>?_,x.trans f5 (λ_ _ h=>h),rfl⟩
  rcases (Ee a).1 hu with hu|rfl
  ·exact Gz k _ _ _ (hn u hu)
  ·exact A
 clear g
 rintro o U ⟨z,t,⟨g,rfl⟩,R4,tl,hn,x⟩
 have x3:=x.next
 have n3:=s.next
 simp(disch:=omega)only[go_sem]
 refine (UM j.next (WB n ρ) U n J ρ z t (· ∈l) n7 n0 om R4 hL tl).mono ?_
 rintro _ h5 ⟨W5,F5,t5,R5,p,k,a2,x5,a8⟩
 have n5:=x5.next
 have tw:=HY p.tab a2
 simp(disch:=omega)only[go_sem]
 refine (NN j.next W5 h5 n J ρ F5 t5 om n0 R5 p.tab tw).mono ?_
 rintro vc h6 ⟨O,R',ch,a5,f6⟩
 have n6:=f6.next
 have c: ∀q,WB n ρ q->j.next<=q:=R.low
 have Z:Fr j h5:=⟨om,λq hq=>by
  rw[x5.get q om (λY=>by have:=c q Y;omega),x.get q om (λY=>by have:=c q Y;omega)]
  exact s.get q hq⟩
 have F6:=(F2.trans Z).trans f6
 have a3:=Z.trans f6
 have g6:h6.get B=some (.cells false [aC 0,.aD,.aD]):=by rw[a3.get B om,f.get B om];exact g1
 have a7:=ch
 obtain⟨vO,vR,b1,a9,e,t1,_,_,t2,_,_⟩:=ch
 subst e
 have a0:=t1.cT.2.1
 have a1:=t2.cT.2.1
 obtain⟨h7,e7,b0,g7,o7⟩:=mV h6 B [aC n,vO,vR]
 have r7:=aJ g7
 simp(disch:=omega)only[go_sem,cF h6 B 0 (v:= aC n) (u:=vO) (w:=vR) rfl a0 a1,g6,cH,e7,r7]
 have f7:Fx (λid=>id<h5.next) h6 h7:=⟨om,λid _ d=>o7 id om⟩
 refine⟨_,O,R',rfl,⟨a7.go f7 (λid _ h=>om),a5.congr (p.group hL n0 a2 λg hg=>Gz k _ _ _ (hn g hg)),bM.cY hP,n0,n7⟩,⟨by have:=F6.next;omega,λid d=>by rw[o7 id om];exact F6.get id d⟩⟩
section
variable {h:H} {v:V} {n:Nat} {l:List Nat}
structure Mp (h:H)(v:V)(n id:Nat)(l:List Nat):Prop where
 ex: ∃cap rest,v= .sl id 0 n cap/\id<h.next/\h.get id=aF (ints (zi l)++rest)
 bF:aY n l
theorem Mp.of {b:Nat}(k:0<n)(X:aY n l)(o:dH h v 1 (ints (zi l)) b): ∃id,Mp h v n id l/\b<=id:=by
 rcases o with ⟨_,e⟩|⟨id,m,c,a,rfl,d,j,f,g,i⟩
 ·have:=congrArg List.length e
  rw[aP,aS,List.length_nil,X.len] at this;omega
 ·rw[aP,aS,tW,X.len] at d
  subst d;exact⟨id,⟨⟨c,a,rfl,g,i⟩,X⟩,f⟩
theorem Mp.si {id:Nat}(m:Mp h v n id l):SI h v (zi l):=by
 obtain⟨⟨a,b,rfl,c,d⟩,X⟩:=m;refine .inr ⟨id,0,n,a,false,_,rfl,by rw[aP,aS,X.len,tW],c,d,by rw[iV,aP,aS,X.len];omega,?_⟩;rw[List.drop_zero,tW,List.take_left' (by rw[aP,aS,X.len])]
theorem Mp.mono {h':H}{id:Nat}(m:Mp h v n id l)(f:h.next<=h'.next)(e:h'.get id=h.get id):Mp h' v n id l:=by
 obtain⟨⟨b,a,c,g,d⟩,X⟩:=m;exact⟨⟨b,a,c,om,by rw[e];exact d⟩,X⟩
end
theorem Ah.cell {x:Nat}{a c:H}(f:Ah x a c){id off:Nat}(b:id<a.next)(h2:id≠x):c.cell id off=a.cell id off:=by unfold H.cell;rw[f.get id b h2]
set_option maxRecDepth 100000
section
variable {n:Nat} {G:List Nat->Prop} {L:LN} {K:List Nat}
theorem Ab.lt (k:Ab n G L K){r:Nat}(a:r∈K):r<L.length:=(jY.1 (k.perm.mem_iff.1 a)).1
theorem Ab.nd (k:Ab n G L K):K.Nodup:=k.perm.nodup_iff.2 (by unfold kC;exact List.nodup_range.filter _)
variable (hG:dO n G) (E:cZ G L) (k:Ab n G L K)
include hG E k
end
def abX (n:Nat)(x:List Nat):Nat->Nat->Nat
 |0,k=>k
 |f+1,k=>if pw n x k=aX n then k else abX n x f (k+1)
def KY (n:Nat)(x:List Nat):Nat:=abX n x 420 1
theorem HW {n:Nat}{x:List Nat}(X:aY n x): ∀f k,0<k->k<=oJ x n->oJ x n<=k+f->abX n x f k=oJ x n
 |0,k,_,h1,h2=>by show k=_;omega
 |f+1,k,h0,h1,h2=>by
  unfold abX;split
  ·rename_i e
   exact Nat.le_antisymm h1 (Nat.le_of_dvd h0 ((Aw X k).2 e))
  ·rename_i e
   refine HW X f (k+1) om ?_ om
   by_cases h:k=oJ x n
   ·exact absurd ((Aw X k).1 (by rw[h];exact Nat.dvd_refl _)) e
   ·omega
theorem YO {n:Nat}{x:List Nat}(X:aY n x)(a:n<=7):oJ x n=KY n x:=
 (HW X 420 1 om (Zj X) (by have:=Nat.le_of_dvd om (SN X a);omega)).symm
def cRb (L:LN)(i j:Nat):Bool:=L.any λc=>aT (L.getD i []) c==L.getD j []
def NY (L:LN)(i:Nat):List Nat:=(List.range L.length).filter (cRb L i)
def Xn (L:LN):List Nat:=(List.range L.length).filter λj=>(List.range j).all λi=>!cRb L i j
def ahC (n:Nat)(L:LN)(r s:Nat):Bool:=decide (KY n (L.getD r [])<KY n (L.getD s [])∨KY n (L.getD r [])=KY n (L.getD s [])/\((NY L r).length<(NY L s).length∨(NY L r).length=(NY L s).length/\r<s))
section
variable {n:Nat} {G:List Nat->Prop} {L:LN} {K:List Nat}
theorem agJ (E:cZ G L){x y:List Nat}:cj G x y↔(L.any λc=>aT x c==y)=true:=by
 rw[List.any_eq_true];constructor
 ·rintro⟨c,hc,e⟩
  exact⟨c,(E.mem c).2 hc,by simpa using e⟩
 ·rintro⟨c,hc,e⟩
  exact⟨c,(E.mem c).1 hc,by simpa using e⟩
theorem DY (E:cZ G L){i j:Nat}:cR G L i j↔cRb L i j=true:=agJ E
theorem ahO (E:cZ G L)(i j:Nat)(d:Decidable (cR G L i j)): @decide (cR G L i j) d=cRb L i j:=by
 rw[DW,Ak];exact DY E
theorem IH (E:cZ G L)(i:Nat):kU G L i=NY L i:=by
 unfold kU NY;exact List.filter_congr λj _=>ahO E i j _
theorem Xb (E:cZ G L):kC G L L.length=Xn L:=by
 unfold kC Xn;refine List.filter_congr λj _=>?_
 classical
 rw[DW,Ak,zP];unfold GU;constructor
 ·intro h i hi
  have:=h i (Dj.1 hi);rw[DY E] at this;simpa using this
 ·intro h i hi
  have:=h i (Dj.2 hi);rw[DY E];simpa using this
theorem akE (b:dO n G)(E:cZ G L): ∀x∈L,aY n x:=λx a=>b.bF ((E.mem x).1 a)
theorem TC (b:dO n G)(E:cZ G L)(a:n<=7){r:Nat}(c:r<L.length):oJ (L.getD r []) n=KY n (L.getD r []):=YO (akE b E _ (bC c)) a
theorem aaF (b:dO n G)(E:cZ G L)(a:n<=7){r s:Nat}(c:r<L.length)(d:s<L.length):Pa n G L r s↔ahC n L r s=true:=by
 unfold Pa ahC;rw[Ak,TC b E a c,TC b E a d,IH E,IH E]
def KOk (n:Nat)(L:LN)(K:List Nat):Bool:=K.isPerm (Xn L)&&decide (K.Pairwise λr s=>ahC n L r s=true)
theorem KOk.isK (e:dO n G)(E:cZ G L)(c:n<=7)(h:KOk n L K=true):Ab n G L K:=by
 unfold KOk at h;rw[sE,Ak] at h;have p:K.Perm (Xn L):=List.isPerm_iff.1 h.1
 have b: ∀r∈K,r<L.length:=λr a=>by
  have:=p.mem_iff.1 a;unfold Xn at this;exact Dj.1 (Rq.1 this).1
 exact⟨by rw[Xb E];exact p,List.Pairwise.imp_of_mem (λa d h=>(aaF e E c (b _ a) (b _ d)).2 h) h.2⟩
theorem KOk.eq (c:dO n G)(E:cZ G L)(b:n<=7){a:List Nat}(h:KOk n L a=true)(k:Ab n G L K):K=a:=k.uniq (KOk.isK c E b h)
end
def akF (n:Nat)(S:LN)(w:List Nat):List Nat:=w.foldl (λx i=>aM x (S.getD i [])) (aX n)
theorem AE {n:Nat}{S:LN}: ∀(w:List Nat) (x:List Nat),(∀i∈w,i<S.length)->bM n (· ∈S) x->bM n (· ∈S) (w.foldl (λx i=>aM x (S.getD i [])) x)
 | [],_,_,h=>h
 |i::w,x,hw,h=>AE w _ (λj a=>hw j (by simp [a])) (h.mul (bC (hw i (by simp))))
def Zm (n:Nat)(S L:LN)(ws:LN):Bool:=
 L==ws.map (akF n S)&&ws.all (λw=>w.all λi=>decide (i<S.length))&&decide (L.Pairwise λx y=>sQ x y=true)&&L.all (λx=>x.length==n)&&L.contains (aX n)&&L.all λx=>S.all λg=>L.contains (aM x g)
theorem Zm.AV {n:Nat}{S L:LN}{ws:LN}(h:Zm n S L ws=true):cZ (bM n (· ∈S)) L:=by
 unfold Zm at h;simp only[sE,beq_iff_eq,zP,Ak,List.contains_iff_mem] at h;obtain⟨⟨⟨⟨⟨c,e⟩,d⟩,b⟩,j⟩,i⟩:=h;refine⟨List.Pairwise.imp_of_mem (λa g h=>(mQ (by rw[b _ a,b _ g])).1 h) d,λx=>⟨λa=>?_,λa=>?_⟩⟩
 ·rw[c] at a
  obtain⟨w,f,rfl⟩:=pH.1 a;exact AE w _ (e w f) .one
 ·induction a with
  |one=>exact j
  |mul _ hg ih=>exact i _ ih _ hg
def A4:LN:= [[1,2,0,3], [0,2,3,1]]
def L3:LN:= [[0,1,2], [0,2,1], [1,0,2], [1,2,0], [2,0,1], [2,1,0]]
theorem RT (h:H)(x y z:Int):mH h 1 [aC 0] 3 [(0,1,aC x),(1,1,aC y),(2,1,aC z)]=some (.sl h.next 0 3 (.kn 3),h.new (.cells false (ints [x,y,z]))):=by
 have e:dP [aC 0] 3= [aC 0,aC 0,aC 0]:=rfl;simp [mH,iK,e,putAt,V.cells,V.one,ints]
theorem Gh (h:H)(x y z w:Int):mH h 1 [aC 0] 4 [(0,1,aC x),(1,1,aC y),(2,1,aC z),(3,1,aC w)]=some (.sl h.next 0 4 (.kn 4),h.new (.cells false (ints [x,y,z,w]))):=by
 have e:dP [aC 0] 4= [aC 0,aC 0,aC 0,aC 0]:=rfl;simp [mH,iK,e,putAt,V.cells,V.one,ints]
theorem Vf (h:H){v u:V}(a:v.cells= [v]/\v.one=true)(b:u.cells= [u]/\u.one=true):mH h 1 [.aD] 2 [(0,1,v),(1,1,u)]=some (.sl h.next 0 2 (.kn 2),h.new (.cells false [v,u])):=by
 have e:dP [V.aD] 2= [.aD,.aD]:=rfl;simp [mH,iK,e,putAt,a.1,a.2,b.1,b.2]
theorem nL (id o m:Nat)(c:pY):(V.sl id o m c).cells= [.sl id o m c]/\(V.sl id o m c).one=true:=⟨rfl,rfl⟩
theorem YJ {h:H}{ID:Nat}(a:h.next=ID)(l:List Int): ∃x,h.new (.cells false (ints l))=x/\x.next=ID+1/\SI x (.sl ID 0 l.length (.kn l.length)) l/\Fr h x:=by
 obtain⟨x,e,n,g,o,f⟩:=dK a (ints l);exact⟨x,e,n,SV.all (by rw[aP,tW]) om g _,f⟩
theorem SP.two {h h':H}{id:Nat}{v u:V}{a b:List Nat}(e:SI h v (zi a))(i:SI h u (zi b))(d:id<h'.next)(f:Fr h h')(g:h'.get id=aF [v,u])(c:pY):SP h' (.sl id 0 2 c) [a,b]:=
 ⟨[v,u],SV.all rfl d g _,e.mono f,i.mono f,trivial⟩
theorem GC.sl {W:Nat->Prop}{h:H}{a:V}{n:Nat}{O:LN}{R:jJ}{G:List Nat->Prop}(g:GC W h a n O R G): ∃vO vR,a= .agg [aC n,vO,vR]/\vO.one=true/\vR.one=true/\dI vO vO=true/\dI vR vR=true:=by
 obtain⟨vO,vR,f,d,e,c,_,_,b,_,_⟩:=g.cw;exact⟨vO,vR,e,c.cT.2.1,b.cT.2.1,c.dI,b.dI⟩
theorem GC.el {W:Nat->Prop}{h:H}{a:V}{n:Nat}{O:LN}{R:jJ}{G:List Nat->Prop}{L:LN}(g:GC W h a n O R G)(E:cZ G L):dM O R n 0 (aX n)=L:=(dB g.cY g.isc).1.uniq E
def SB (h:H)(v:V)(l:List Bool):Prop:=SV h v 1 (l.map V.bool)
theorem SB.mono {h h':H}{v:V}{l:List Bool}(s:SB h v l)(f:Fr h h'):SB h' v l:=SV.mono s f
theorem SB.open {h:H}{v:V}{l:List Bool}(s:SB h v l):bL v=some (aC (l.length:Int))/\ ∃id off,Sl v 1 l.length id off/\ ∀i,i<l.length->id<h.next/\h.cell id (off+i)=some (.bool (l.getD i false)):=by
 have d:(l.map V.bool).length=l.length:=iA ..;refine⟨by unfold bL;rw[SV.len s (n:=l.length) om om];rfl,?_⟩;obtain⟨id,off,b,a,c⟩:=SV.shape s l.length om om;exact⟨id,off,b,λi hi=>⟨a om,by rw[c i om,Qy,List.getD,dD hi];rfl⟩⟩
set_option maxRecDepth 100000
theorem GC.all {W:Nat->Prop}{h:H}{a:V}{n:Nat}{O:LN}{R:jJ}{G:List Nat->Prop}(g:GC W h a n O R G):cZ G (dM O R n 0 (aX n))/\(dM O R n 0 (aX n)).length<=5040:=by
 have e:=dB g.cY g.isc;exact⟨e.1,by rw[e.2];exact jE g⟩
end Go.Proofs.YtcdbmkidaecdiaaGreat
namespace Go.Proofs.YtcdbmkidaecdiaaGreat
set_option maxRecDepth 100000
open Go Go.Ay Go.Pm
end Go.Proofs.YtcdbmkidaecdiaaGreat
namespace Go.Proofs.YtcdbmkidaecdiaaGreat
open Go Go.Ay Go.Pm
set_option maxRecDepth 100000
def bY (v:V)(id:Nat):Prop:= ∃off m c,v= .sl id off m c
theorem dZ.sp' {W:Nat->Prop}{h:H}{v:V}{ws:List V}{l:LN}(sv:SV h v 1 ws)(p:dZ W h ws l):SP h v l:=by
 refine⟨ws,sv,?_⟩;have a:=aN.length p
 exact aN.eM (by simpa using a) λi hi b=>by
  have:=(aN.get p i hi om).si;simpa using this
theorem OM (u:V)(ws:List V)(h:H)(l:ws.length<1000000)(d:SV h u 1 ws):
  Ev T 163 [u] h (λv h'=>dH h' v 1 ws h.next/\Fr h h'):=by
 refine dW cX rfl ?_
 have b:Ht false u=some (.bool false)->Wp T none cX.fn.body (Hv cX.fn [u]) h (LX cX.fn.results λv h'=>dH h' v 1 ws h.next/\Fr h h'):=λk=>by
  have c:Fr h (h.new (.cells false [])):=(Fr.refl h).new _;have j:dH (h.new (.cells false [])) (.sl h.next 0 0 (.kn 0)) 1 [] h.next:=dH.new h 1 0 _ [] rfl (dT _);obtain⟨o,e,f,A⟩:=j.app (bytes:=24) (by rw[H.aW];omega) (d.mono c) (n:=0) (m:=ws.length) rfl om om om;simp(disch:=omega)only[go_sem,cX,aE,k,f];exact⟨by have:=A.own;rwa [List.nil_append] at this,A.fr _ c (dT _)⟩
 rcases d with ⟨rfl|⟨a,rfl⟩,rfl⟩|⟨id,i,len,g,p,q,rfl,e⟩
 ·simp(disch:=omega)only[go_sem,cX,aE]
  exact⟨dH.aD _ _ _,Fr.refl _⟩
 ·exact b rfl
 ·exact b rfl
theorem ahE {n:Nat}{l:LN}{x:List Nat}(b: ∀g∈l,aY n g)(X:aY n x)(y:List Nat):Jn n (bM n (· ∈l)) [x] y↔bM n (· ∈l++ [x]) y:=by
 have a: ∀g∈l++ [x],aY n g:=λg h=>(oD.1 h).elim (b g) λh=>by rw[List.mem_singleton.1 h];exact X
 have d:=bM.cY (L:=(· ∈l)) b;constructor
 ·refine λh=>bM.le (bM.cY a) (λg h=>?_) h
  rcases h with h|h
  ·exact bM.mono (λg h=>oD.2 (.inl h)) h
  ·exact bM.of a (oD.2 (.inr h))
 ·refine λh=>bM.le (Jn.cY d λg h=>by rw[List.mem_singleton.1 h];exact X) (λg h=>?_) h
  have c: ∀g,(bM n (· ∈l) g∨g∈ [x])->aY n g:=λg h=>h.elim (λh=>h.bF b) λh=>by rw[List.mem_singleton.1 h];exact X
  rcases oD.1 h with h|h
  ·exact bM.of c (.inl (bM.of b h))
  ·exact bM.of c (.inr h)
structure XZ (h hh:H)(D P4 P id C1 C2:Nat)(r:fK)(vby:V)(n:Nat)(l0 B:LN)(i k:Nat)(l:LN):Prop where
 ex: ∃vl ws,hh.get P=aF [vl]/\dH hh vl 1 ws 0/\dZ (λq=>q=D∨q=P∨q=id∨bY vl q) hh ws l/\Qz (λq=>q<h.next∨q=P∨q=id∨bY vl q) hh D n (bM n (· ∈l))/\ ∀q,bY vl q->h.next<=q/\q≠D/\q≠P4/\q≠P/\q≠C1/\q≠C2/\q≠id/\q<hh.next
 g4:hh.get P4=aF [.ptr D 0]
 c1:hh.get C1=aF [.ptr P 0]
 c2:hh.get C2=aF [vby]
 gr:hh.get id=some (.loop r)
 fr:Fr h hh
 nx:id<hh.next
 pre: ∃t,l=l0++t/\t.Nodup/\ ∀g∈t,aY n g
 nc: ∀g∈l,NC n (· ∈l0) (· ∈B) g
 cj: ∀i' k',(i'<i∨i'=i/\k'<k)->i'<l.length->k'<B.length->bM n (· ∈l) (aT (l.getD i' []) (B.getD k' []))
theorem XZ.fr' {h hh h2:H}{D o P id s p:Nat}{r:fK}{m:V}{n:Nat}{t B:LN}{i k:Nat}{l:LN}(j:XZ h hh D o P id s p r m n t B i k l)(F:o<id/\P<id/\s<id/\p<id)(f:Fr hh h2):XZ h h2 D o P id s p r m n t B i k l:=by
 obtain⟨y,z,g,v,pv,u,A⟩:=j.ex;have nx:=j.nx;exact⟨⟨y,z,by rw[f.get P om];exact g,v.fr f,aN.mono (λ_ _ x=>x.fx (Fx.of f)) pv,u.fr f,λq w=>by obtain⟨a,b,c,d,e,g,i,k⟩:=A q w;exact⟨a,b,c,d,e,g,i,jM k f.next⟩⟩,by rw[f.get o om];exact j.g4,by rw[f.get s om];exact j.c1,by rw[f.get p om];exact j.c2,by rw[f.get id om];exact j.gr,j.fr.trans f,jM nx f.next,j.pre,j.nc,j.cj⟩
theorem Fx.wide {W W':Nat->Prop}{h h':H}(f:Fx W h h')(c: ∀q,W q->W' q):Fx W' h h':=⟨f.next,λq a b=>f.get q a λh=>b (c q h)⟩
theorem ZF {n:Nat}{l:LN}{x g:List Nat}(h:bM n (· ∈l) g):bM n (· ∈l++ [x]) g:=bM.mono (λ_ h=>oD.2 (.inl h)) h
theorem Xq {l:LN}{x:List Nat}{i:Nat}(hi:i<l.length):(l++ [x]).getD i []=l.getD i []:=by
 rw[OU,OU,Dt hi]
theorem afN {n:Nat}{l:LN}(a: ∀g∈l,aY n g)(x:List Nat):Jn n (λx=>x=aX n) l x↔bM n (· ∈l) x:=
 ⟨λh=>bM.le (bM.cY a) (λg h=>h.elim (λe=>by rw[e];exact .one) λh=>bM.of a h) h,λh=>bM.mono (λg h=> .inr h) h⟩
theorem Um (n:Nat):dO n (λx=>x=aX n):=⟨λe=>by rw[e];exact aY.one n,rfl,λa b=>by rw[a,b,bX (aY.one n)],λa=>by rw[a,oX]⟩
theorem Tm (vl J:V)(n:Nat)(U B:LN)(h:H)(n0:1<=n)(n7:n<=7)(a9: ∀g∈U,aY n g)(c4: ∀b∈B,aY n b)(k7:U.length<100000)(Bl:B.length<1000000)(sl:SP h vl U)(sB:SP h J B):
  Ev T 124 [aC n,vl,J] h (λv h'=> ∃D,v= .ptr D 0/\h.next<=D/\Qz (λq=>q<h.next) h' D n (NC n (· ∈U) (· ∈B))/\Fr h h'):=by
 refine dW yG rfl ?_
 have hM:n^n<=823543:=by
  have: ∀k,k<=7->k^k<=823543:=by decide
  exact this n n7
 simp(disch:=omega)only[go_sem,yG,aE]
 refine (OZ n h n0 n7).mono ?_
 rintro _ A ⟨D,rfl,hD,b1,f1⟩
 obtain⟨ws,sv,al⟩:=sl
 have lw:=aN.length al
 rw[iA] at lw
 have b8:SV h vl 1 ws:=sv
 have ins:=SV.in b8
 have nD:=b1.nx
 have d1: ∀h',Fr h h'->SV h' vl 1 ws/\Ej (· =D) vl/\dZ (· =D) h' ws U:=λh' f=>by
  refine⟨b8.mono f,?_,aN.eM lw λi hi hj=>?_⟩
  ·cases vl with
   |sl id K m c=>exact λe=>by have:=ins _ _ _ _ rfl;omega
   |_=>trivial
  ·have s:=aN.get al i hi (by rw[iA];exact hj)
   rw[List.getElem_map] at s;refine⟨s.mono f,?_⟩;generalize ws[i]=v at s;have i2:=SV.in s
   cases v with
   |sl id K m c=>exact λe=>by have:=i2 _ _ _ _ rfl;omega
   |_=>trivial
 obtain⟨s1,i6,p1⟩:=d1 A f1
 simp(disch:=omega)only[go_sem]
 refine (Yx (W:=λq=>q<h.next) D vl ws n _ U A n0 n7 (Um n) a9 om (λq h=>jM h f1.next) b1 s1 i6 p1).mono ?_
 rintro _ d ⟨rfl,b2,f2⟩
 have k4:=f1.next
 have m0:=f2.next
 have j1:Fr h d:=⟨om,λq N=>by rw[f2.get q om (by show q≠D;omega)];exact f1.get q N⟩
 obtain⟨P4,f7⟩:=exI d.next
 obtain⟨h3,e3,n3,g3,o3,f3⟩:=dK f7 [.nilp]
 obtain⟨h4,e4,n4,g4,o4⟩:=mV h3 P4 [.ptr D 0]
 have g0:Fr d h4:=⟨om,λq N=>by rw[o4 q om,o3 q om]⟩
 have pt: ∀(G:H) (id:Nat) (u w:V),eU (some (.cells false [u])) G id 0 [w]=some (G.set id (some (.cells false [w]))):=λG id u w=>bT (by simp) G _ _
 simp(disch:=omega)only[go_sem,f7,e3,kP (show (V.ptr D 0).cells= [V.ptr D 0] from rfl) rfl,g3,pt,e4]
 have e5:=j1.trans g0
 refine (OM vl ws h4 om (b8.mono e5)).mono ?_
 rintro vk h5 ⟨d0,f5⟩
 have l1:=f5.next
 obtain⟨P,hP⟩:=exI h5.next
 obtain⟨h6,e6,n6,g6,o6,f6⟩:=dK hP [.aD]
 obtain⟨h7,e7,k5,g7,o7⟩:=mV h6 P [vk]
 have c3:Fr h5 h7:=⟨om,λq N=>by rw[o7 q om,o6 q om]⟩
 have wk:=SV.cT d0.sv
 simp(disch:=omega)only[go_sem,hP,e6,kP wk.1 wk.2.1,g6,pt,e7]
 have e1:Fr h h7:=e5.trans (f5.trans c3)
 have wB:=SV.cT (show SV h J 1 _ from sB.choose_spec.1)
 obtain⟨h8,e8,n8,g8,o8,f8⟩:=dK (h:=h7) rfl [.ptr P 0]
 obtain⟨h9,e9,n9,g9,o9,f9⟩:=dK n8 [J]
 refine Ev.mono (Q:=λv h'=>v= .fn 206 [] [.ptr h7.next 0,.ptr (h7.next+1) 0]/\h9=h') ?_ ?_
 ·refine dW rO rfl ?_
  simp(disch:=omega)only[go_sem,rO,aE,mE (x:= .ptr P 0) rfl rfl h7,e8,mE wB.1 wB.2.1 h8,n8,e9]
 rintro _ _ ⟨rfl,rfl⟩
 simp(disch:=omega)only[go_sem]
 obtain⟨C1,i8⟩:=exI h7.next
 obtain⟨C2,i9⟩:=exI (C1+1)
 obtain⟨id,c0⟩:=exI h9.next
 rw[i8] at n8 n9 g8 o8 g9 o9 ⊢
 rw[i9] at n8 n9 g9 o9 ⊢
 refine⟨rfl,wF λr hr=>?_⟩
 rw[c0]
 have jI:r.st= .ready:=by rw[hr]
 have c7:r.pend=none:=by rw[hr]
 have oA: ∀k,k<id->(h9.new (.loop r)).get k=h9.get k:=λk hk=>H.bG h9 om _
 have nA:(h9.new (.loop r)).next=id+1:=by rw[H.aW,c0]
 have hc:P4<id/\P<id/\C1<id/\C2<id:=om
 have d4:Fr h7 h9:=f8.trans f9
 have FA:Fr h7 (h9.new (.loop r)):=d4.new _
 have c9: ∀q,bY vk q->h4.next<=q/\q<P:=λq ⟨K,m,c,e⟩=>by
  have:=d0.in _ _ _ _ e;omega
 have i4: ∀i (hi:i<ws.length) (hj:i<U.length),PV (λq=>h.next<=q) (h9.new (.loop r)) ws[i] U[i]:=λi hi hj=>by
  have s:=aN.get al i hi (by rw[iA];exact hj);rw[List.getElem_map] at s;refine⟨s.mono (e1.trans FA),?_⟩;generalize ws[i]=v at s;have i2:=SV.in s
  cases v with
  |sl id K m c=>exact λe=>by have:=i2 _ _ _ _ rfl;have e:h.next<=id:=e;omega
  |_=>trivial
 have J0:XZ h (h9.new (.loop r)) D P4 P id C1 C2 r J n U B 0 0 U:=by
  refine⟨⟨vk,ws,by rw[oA _ om,o9 _ om,o8 _ om];exact g7,(d0.fr (c3.trans FA)).le (iB _),aN.eM lw λi hi hj=>(i4 i hi hj).kO λq _ N=>?_,?_,λq N=>?_⟩,by rw[oA _ om,d4.get _ om,o7 _ om,o6 _ om,f5.get _ om];exact g4,by rw[oA _ om,o9 _ om];exact g8,by rw[oA _ om];exact g9,by rw[←c0,H.aL],e1.trans FA,om,⟨[],(tZ _).symm,List.nodup_nil,λ_ h=>by cases h⟩,λg hg=>NC.of hg,λi' k' h=>om⟩
  ·show h.next<=q
   rcases N with rfl|rfl|rfl|N
   ·exact hD
   ·omega
   ·omega
   ·have:=c9 q N;omega
  ·exact ((b2.kO (W':=λq=>q<h.next∨q=P∨q=id∨bY vk q) (λq A d=>by
    rcases d with e|e|e|e
    ·exact e
    ·omega
    ·omega
    ·have:=c9 q e;omega)).fr (g0.trans (f5.trans (c3.trans FA)))).congr λx=>afN a9 x
  ·have:=c9 q N;omega
 have jf: ∀i k l G h',XZ h G D P4 P id C1 C2 r J n U B i k l->Fr G h'->XZ h h' D P4 P id C1 C2 r J n U B i k l:=λi k l G h' j f=>j.fr' hc f
 have b9: ∀i k l G,XZ h G D P4 P id C1 C2 r J n U B i k l-> ∀g∈l,aY n g:=λi k l G j g hg=>by
  obtain⟨t,e,_,tP⟩:=j.pre;rw[e] at hg;exact (oD.1 hg).elim (a9 g) (tP g)
 refine (RN id C1 C2 P J B n (U.length+n^n) n0 om c4 Bl om _ (λi k l G=>XZ h G D P4 P id C1 C2 r J n U B i k l) U J0 ?_ jf ?_ ?_).mono ?_
 ·intro i k l G j
  obtain⟨o,a1,gP,ow,pv,bd,bl⟩:=j.ex
  refine⟨j.c1,j.c2,⟨o,a1,gP,ow.sv,aN.mono (λ_ _ x=>x.si) pv⟩,sB.mono j.fr,?_,b9 _ _ _ _ j⟩
  obtain⟨t,e,tN,tP⟩:=j.pre
  have:=Cu tN tP
  rw[e,iV]
  omega
 ·intro i l G j
  exact⟨j.ex,j.g4,j.c1,j.c2,j.gr,j.fr,j.nx,j.pre,j.nc,λi' k' h A d=>j.cj i' k' om A d⟩
 ·intro i k l ha G w b0 e0 j0 fa pw
  have j:=j0.fr' hc fa
  obtain⟨o,a1,h0,g5,d3,a5,a0⟩:=j0.ex
  have l3:=j0.nx
  have l8:=fa.next
  obtain⟨Wl,a6⟩: ∃Wl:Nat->Prop,Wl=λq=>q<h.next∨q=P∨q=id∨bY o q:=⟨_,rfl⟩
  rw[←a6] at a5
  obtain⟨x,hx⟩:=exI (aT (l.getD i []) (B.getD k []))
  rw[hx] at pw
  have Y:=b9 _ _ _ _ j0
  have X:aY n x:=by rw[←hx];exact dC (Y _ (bC b0)) (c4 _ (bC e0))
  refine uC j.gr (by rw[hr];rfl) jI λhb gb nb ob=>?_
  rw[congrArg fK.assign hr,congrArg fK.vars hr,congrArg fK.pars hr]
  simp(disch:=omega)only[go_sem,List.zip_cons_cons,List.zip_nil_left]
  rw[congrArg fK.body hr]
  have i3:Fx (· =id) ha hb:=⟨om,λq A d=>by rw[ob q d,fa.get q A]⟩
  have d8:Wl id:=by rw[a6];exact .inr (.inr (.inl rfl))
  have WP:Wl P:=by rw[a6];exact .inr (.inl rfl)
  have c8:Qz Wl hb D n (bM n (· ∈l)):=a5.fx (Fx.wide i3 λq (h:q=id)=>by rw[h];exact d8)
  obtain⟨vO,vR,O,R,gD,gc⟩:=c8.ex
  have i7:=c8.nx
  have c6:SI hb w (zi x):=SV.fx pw.si (W:=(· =id)) (by
   have:=pw.off
   cases w with
   |sl q K m c=>exact λe=>this (by have e:q=id:=e;omega)
   |_=>trivial) ⟨om,λq A d=>ob q d⟩
  have d7:hb.get P4=some (.cells false [.ptr D 0]):=by rw[ob _ om];exact j.g4
  simp(disch:=omega)only[go_sem,H.cell_of d7]
  refine (HA D w vO vR n O R _ x hb gc i7 gD X c6).mono ?_
  rintro _ hs ⟨bb,rfl,g1,fs⟩
  have k6:=fs.next
  cases bb with
  |true=>
   simp(disch:=omega)only[go_sem];refine pU jI c7 (by rw[fs.get id om];exact gb) ⟨rfl,l,b0,?_⟩
   have F:Fr G (hs.set id (some (.loop r))):=⟨by simp only[H.cV];omega,λq N=>by
    by_cases e:q=id
    ·rw[e,H.aU];exact j.gr.symm
    ·rw[H.aH _ e,fs.get q om,ob q e]⟩
   have j2:=j.fr' hc F;refine⟨j2.ex,j2.g4,j2.c1,j2.c2,j2.gr,j2.fr,j2.nx,j2.pre,j2.nc,λi' k' h A d=>?_⟩
   by_cases e:i'=i/\k'=k
   ·rw[e.1,e.2,hx];exact g1.1 rfl
   ·exact j2.cj i' k' om A d
  |false=>
   have k0: ¬bM n (· ∈l) x:=λh=>by have:=g1.2 h;cases this
   have gl:=bM.cY (L:=(· ∈l)) Y
   have j9: ∀q,Wl q->q<ha.next:=λq h=>by
    rw[a6] at h;rcases h with h|h|h|h
    ·have:=j0.fr.next;omega
    ·omega
    ·omega
    ·exact (a0 q h).2.2.2.2.2.2.2
   have wx:=SV.cT c6;have j3:hs.get P4=some (.cells false [.ptr D 0]):=by rw[fs.get _ om];exact d7
   obtain⟨S,hS⟩:=exI hs.next;obtain⟨ht,et,nt,gt,ot,ft⟩:=dK hS [w];have d5:Fr hb ht:=fs.trans ft;simp(disch:=omega)only[go_sem,H.cell_of j3,cK hs (z:= .aD) wx.1 wx.2.1,hS,et];refine (Yx (W:=Wl) D (.sl S 0 1 (.kn 1)) [w] n _ [x] ht n0 n7 gl (λg hg=>by rw[List.mem_singleton.1 hg];exact X) (by show 1<1000000;decide) (λq h=>by have:=j9 q h;omega) (c8.fr d5) (SV.one om gt (.kn 1)) (λe=>by have e:S=D:=e;omega) ⟨⟨c6.mono d5,?_⟩,trivial⟩).mono ?_
   ·have:=pw.off
    have nD:=a5.nx
    cases w with
    |sl q K m c=>exact λe=>this (by have e:q=D:=e;omega)
    |_=>trivial
   rintro _ Z ⟨rfl,bw,fw⟩;have l2:=fw.next
   have b4: ∀q,q<ha.next->q≠id->q≠D->Z.get q=ha.get q:=λq A d h3=>by
    rw[fw.get q om h3,ft.get q om,fs.get q om,ob q d,fa.get q A]
   have l4:=a5.nx;have PD:P≠D:=λe=>a5.nW (e▸WP)
   have f0:Z.get P=some (.cells false [o]):=by rw[b4 P om om PD];exact h0
   have l7:Fx (λq=>q=id∨q=D) ha Z:=⟨om,λq A d=>b4 q A (λe=>d (.inl e)) λe=>d (.inr e)⟩
   have d9:dH Z o 1 a1 0:=g5.mono om λq _ _ _ e _ A=>b4 q A (a0 q ⟨_,_,_,e⟩).2.2.2.2.2.2.1 (a0 q ⟨_,_,_,e⟩).2.1
   have l6:=SV.cT d9.sv;obtain⟨S2,d2⟩:=exI Z.next;obtain⟨f4,j4,l9,j8,l5,a8⟩:=dK d2 [w];have k9:=aN.length d3;obtain⟨t,el,tN,tP⟩:=j0.pre;have k3:=Cu tN tP;have ll:l.length=U.length+t.length:=by rw[el,iV]
   obtain⟨b7,a2,p2⟩:=(d9.fr a8).push (bytes:=24) (SV.one (v:=w) (id:=S2) om j8 (.kn 1)) (n:=a1.length) (m:=1) om rfl om om om;have k8:=p2.next;have ap: ∀q,¬bY o q->dR o q:=λq N k1 K m c e e2=>N ⟨K,m,c,by rw[e2];exact e⟩
   have g2: ¬bY o P:=λh=>(a0 P h).2.2.2.1 rfl
   have i1: ¬bY o id:=λh=>(a0 id h).2.2.2.2.2.2.1 rfl
   have j5:b7.get P=some (.cells false [o]):=by rw[p2.old P om (ap P g2),a8.get P om];exact f0
   have i5:b7.get id=some (.loop (qE r)):=by rw[p2.old id om (ap id i1),a8.get id om,fw.get id om (λe=>a5.nW (e▸d8)),ft.get id om,fs.get id om];exact gb
   simp(disch:=omega)only[go_sem,H.cell_of f0,cK Z (z:= .aD) wx.1 wx.2.1,d2,j4,a2,j5,pt];refine pU jI c7 (by rw[H.aH _ om];exact i5) ⟨rfl,l++ [x],by rw[iV];omega,?_⟩;obtain⟨vn,c5⟩:=exI (V.sl f4.next 0 (a1.length+1) (.un 1));rw[c5];obtain⟨hz,a4⟩:=exI ((b7.set P (some (.cells false [vn]))).set id (some (.loop r)));rw[a4];have nz:hz.next=b7.next:=by rw[←a4];rfl
   have oz: ∀q,q<Z.next->q≠P->q≠id-> ¬bY o q->hz.get q=Z.get q:=λq A d h3 h4=>by
    rw[←a4,H.aH _ h3,H.aH _ d,p2.old q om (ap q h4),a8.get q om]
   have a7: ∀q,q<ha.next->q≠P->q≠id->q≠D-> ¬bY o q->hz.get q=ha.get q:=λq A d h3 h4 h5=>by
    rw[oz q om d h3 h5,b4 q A h3 h4]
   have bn: ∀q,bY vn q->q=f4.next:=λq ⟨K,m,c,e⟩=>by rw[←c5] at e;cases e;rfl
   have nb: ∀q,(q=P4∨q=C1∨q=C2)-> ¬bY o q:=λq N h=>by
    obtain⟨_,_,b3,_,b5,b6,_⟩:=a0 q h;rcases N with e|e|e
    ·exact b3 e
    ·exact b5 e
    ·exact b6 e
   have j6:P4≠D:=om
   have Fz:Fx (λq=>q=D∨q=P∨q=id∨bY o q) ha hz:=⟨om,λq A d=>a7 q A (λe=>d (.inr (.inl e))) (λe=>d (.inr (.inr (.inl e)))) (λe=>d (.inl e)) λe=>d (.inr (.inr (.inr e)))⟩
   refine⟨⟨vn,a1++ [w],by rw[←a4,H.aH _ om,H.aU],?_,?_,?_,λq N=>?_⟩,?_,?_,?_,by rw[←a4,H.aU],⟨by have:=j0.fr.next;omega,λq N=>?_⟩,om,⟨t++ [x],by rw[el,Lz],?_,?_⟩,?_,?_⟩
   ·rw[←c5]
    exact (p2.own om rfl (iB _)).mono om λq K m c e _ _=>by
     cases e;rw[←a4,H.aH _ om,H.aH _ om]
   ·refine aN.append (aN.mono (λv y p=>PV.go p Fz λq A d=>?_) d3) ⟨?_,trivial⟩
    ·rcases d with h|h|h|h
     ·exact .inl h
     ·exact .inr (.inl h)
     ·exact .inr (.inr (.inl h))
     ·have:=bn q h;omega
    ·have i0:Fx (λq=>q<ha.next) G hz:=⟨om,λq A d=>by
      have d: ¬q<ha.next:=d
      rw[oz q om om om (λh=>d (a0 q h).2.2.2.2.2.2.2),fw.get q om (by show q≠D;omega),ft.get q om,fs.get q om,ob q om]⟩
     refine PV.go pw i0 λq A d=>?_
     show q<ha.next;rcases d with h|h|h|h
     ·omega
     ·omega
     ·omega
     ·have:=bn q h;omega
   ·refine (bw.go (W':=λq=>q<h.next∨q=P∨q=id∨bY vn q) ⟨om,λq A d=>?_⟩ λq A d=>?_).congr λy=>ahE Y X y
    ·rw[a6] at d
     exact oz q A (λe=>d (.inr (.inl e))) (λe=>d (.inr (.inr (.inl e)))) λe=>d (.inr (.inr (.inr e)))
    ·rw[a6]
     rcases d with h|h|h|h
     ·exact .inl h
     ·exact .inr (.inl h)
     ·exact .inr (.inr (.inl h))
     ·have:=bn q h;omega
   ·have:=bn q N
    have:=j0.fr.next;omega
   ·rw[a7 P4 om om om j6 (nb _ (.inl rfl))];exact j0.g4
   ·rw[a7 C1 om om om om (nb _ (.inr (.inl rfl)))];exact j0.c1
   ·rw[a7 C2 om om om om (nb _ (.inr (.inr rfl)))];exact j0.c2
   ·rw[a7 q (by have:=j0.fr.next;omega) om om om (λh=>by have:=(a0 q h).1;omega)];exact j0.fr.get q N
   ·refine List.nodup_append.2 ⟨tN,(by simp),λa ha b hb e=>?_⟩
    rw[List.mem_singleton.1 hb] at e;exact k0 (bM.of Y (by rw[el];exact oD.2 (.inr (e▸ha))))
   ·intro g hg
    exact (oD.1 hg).elim (tP g) λh=>by rw[List.mem_singleton.1 h];exact X
   ·intro g hg
    rcases oD.1 hg with h|h
    ·exact j0.nc g h
    ·rw[List.mem_singleton.1 h,←hx]
     exact NC.cj (j0.nc _ (bC b0)) (bC e0)
   ·intro i' k' k2 A d
    by_cases e:i'=i/\k'=k
    ·obtain⟨rfl,rfl⟩:=e
     rw[Xq b0,hx];exact bM.of (λg hg=>(oD.1 hg).elim (Y g) λh=>by rw[List.mem_singleton.1 h];exact X) (oD.2 (.inr (List.mem_singleton.2 rfl)))
    ·have a3:i'<l.length:=om
     rw[Xq a3];exact ZF (j0.cj i' k' om a3 d)
 ·rintro _ G ⟨l,j⟩
  refine⟨r,j.gr,by rw[jI];simp,?_⟩
  have en:r.pend.getD .norm= .norm:=by rw[c7];rfl
  rw[en]
  have nx:=j.nx
  obtain⟨o,a1,gP,ow,pv,bd,bl⟩:=j.ex
  have j7:(G.set id (some (.loop {r with st:= .out}))).get P4=some (.cells false [.ptr D 0]):=by rw[H.aH _ om];exact j.g4
  simp(disch:=omega)only[go_sem,H.cell_of j7]
  have fz:Fx (λq=>q<h.next∨q=P∨q=id∨bY o q) G (G.set id (some (.loop {r with st:= .out}))):=Fx.set (W:=λq=>q<h.next∨q=P∨q=id∨bY o q) _ (.inr (.inr (.inl rfl))) _
  refine⟨D,rfl,hD,?_,j.fr.set om _⟩
  refine ((bd.fx fz).congr λx=>JR c4 a9 (b9 _ _ _ _ j) ?_ j.nc ?_ x).kO ?_
  ·intro g hg
   obtain⟨t,e,_⟩:=j.pre
   rw[e];exact oD.2 (.inl hg)
  ·intro x hx b hb
   obtain⟨i',a3,rfl⟩:=Ad.1 hx
   obtain⟨k',d6,rfl⟩:=Ad.1 hb
   have:=j.cj i' k' (.inl a3) a3 d6
   rwa [←sD a3,←sD d6] at this
  ·exact λq _ h=> .inl h
theorem GC.one {W:Nat->Prop}{h:H}{a b:V}{d:Int}{n:Nat}{O:LN}{R:jJ}{G:List Nat->Prop}(g:GC W h (.agg [aC d,a,b]) n O R G):d=(n:Int)/\a.one=true/\b.one=true:=by
 obtain⟨_,_,_,_,e,f,_,_,c,_,_⟩:=g.cw;cases e;exact⟨rfl,(SV.cT f).2.1,(SV.cT c).2.1⟩
theorem GC.shape {W:Nat->Prop}{h:H}{a:V}{n:Nat}{O:LN}{R:jJ}{G:List Nat->Prop}(g:GC W h a n O R G): ∃vO vR,a= .agg [aC n,vO,vR]/\vO.one=true/\vR.one=true:=by
 obtain⟨vO,vR,_,_,e,c,_,_,b,_,_⟩:=g.cw;exact⟨vO,vR,e,(SV.cT c).2.1,(SV.cT b).2.1⟩
theorem VY {W W':Nat->Prop}(p o:V)(n:Nat)(O J:LN)(R U:jJ)(G G':List Nat->Prop)(h:H)(m:GC W h p n O R G)(t:GC W' h o n J U G'):
  Ev T 121 [p,o] h (λv h'=>v= aC 0/\Fr h h'):=by
 obtain⟨k,i,rfl,Z,L⟩:=m.shape
 obtain⟨d,g,rfl,Q,A⟩:=t.shape
 refine dW By rfl ?_
 obtain⟨B,s⟩:=exI h.next
 obtain⟨y,K,q,F,o1,N⟩:=dK s [aC n,k,i]
 obtain⟨c,Y,n2,g2,o2,f2⟩:=dK q [aC n,d,g]
 have F2:=N.trans f2
 have r: ∀a,Fr c a->a.get B=aF [aC n,k,i]:=λa f=>by rw[f.get B om,o2 B om];exact F
 have x: ∀a,Fr c a->a.get (B+1)=aF [aC n,d,g]:=λa f=>by rw[f.get (B+1) om];exact g2
 have r2:=Fr.refl c
 simp(disch:=omega)only[go_sem,By,aE,bV h (v:= aC n) (u:=k) (w:=i) rfl Z L,s,K,bV y (v:= aC n) (u:=d) (w:=g) rfl Q A,q,Y,aJ (r c r2)]
 refine ((m.mono F2).check).mono ?_
 rintro _ z ⟨rfl,j⟩
 simp(disch:=omega)only[go_sem]
 refine bA (λe=>(e rfl).elim) (λ_=>?_)
 simp(disch:=omega)only[go_sem,aJ (x z j)]
 refine ((t.mono (F2.trans j)).check).mono ?_
 rintro _ l ⟨rfl,f4⟩
 have b:=j.trans f4
 simp(disch:=omega)only[go_sem]
 refine bA (λe=>(e rfl).elim) (λ_=>?_)
 have P:decide ((n:Int)≠(n:Int))=false:=bI (λh=>h rfl)
 simp(disch:=omega)only[go_sem,H.cell_of (r l b),H.cell_of (x l b),P]
 exact F2.trans b
def OQ (A B:LN):LN:=A.flatMap λp=>B.map (cU p)
theorem GH {A B:LN}{x:List Nat}:x∈OQ A B↔ ∃p,p∈A/\ ∃q,q∈B/\x=cU p q:=by
 unfold OQ;simp only[List.mem_flatMap,pH];exact⟨λ⟨p,hp,q,hq,e⟩=>⟨p,hp,q,hq,e.symm⟩,λ⟨p,hp,q,hq,e⟩=>⟨p,hp,q,hq,e.symm⟩⟩
theorem Ui (A B:LN):(OQ A B).length=A.length*B.length:=by
 induction A with
 |nil=>simp [OQ]
 |cons a A ih=>
  unfold OQ at ih ⊢;rw[List.flatMap_cons,iV,ih,iA,List.length_cons,Nat.succ_mul,Nat.add_comm]
def MT (A B:LN)(i k:Nat):LN:=OQ (A.take i) B++(B.take k).map (cU (A.getD i []))
theorem QA (A B:LN){i k:Nat}(a:k<B.length):MT A B i (k+1)=MT A B i k++ [cU (A.getD i []) (B.getD k [])]:=by
 unfold MT;rw[eY [] a,List.map_append,←Lz];rfl
theorem YP (A B:LN){i:Nat}(hi:i<A.length):MT A B i B.length=MT A B (i+1) 0:=by
 unfold MT;rw[List.take_length,List.take_zero,List.map_nil,tZ,eY [] hi];unfold OQ;rw[List.flatMap_append];simp
theorem YY (A B:LN):MT A B A.length 0=OQ A B:=by
 unfold MT;rw[List.take_length,List.take_zero,List.map_nil,tZ]
theorem ZH {A B:LN}{i k:Nat}(hi:i<=A.length)(a:k<=B.length):(MT A B i k).length<=(A.length+1)*B.length:=by
 unfold MT;rw[iV,Ui,zO,iA,zO,Nat.min_eq_left hi,Nat.min_eq_left a,Nat.succ_mul];have:=Nat.mul_le_mul_right B.length hi;omega
section
variable {h:H} {v:V} {ws:List V} {b k n:Nat} {A S Q:LN} {y x:List Nat}
def Wy (h:H)(v:V)(ws:List V)(b:Nat):Prop:= ∃id cap rest,v= .sl id 0 ws.length cap/\b<=id/\id<h.next/\h.get id=aF (ws++rest)/\(cap= .un 1∨cap= .kn 1/\ws.length+rest.length=1)
theorem Wy.sv (t:Wy h v ws b):SV h v 1 ws:=by
 obtain⟨id,a,c,rfl,f,e,d,_⟩:=t;exact .inr ⟨id,0,_,a,false,_,rfl,(tW _).symm,e,d,by rw[iV];omega,by rw[List.drop_zero,tW,List.take_left' rfl]⟩
theorem Wy.tU {h':H}(t:Wy h v ws b)(j:h.next<=h'.next)(g: ∀id,bY v id->h'.get id=h.get id):Wy h' v ws b:=by
 obtain⟨id,c,a,e,d,l,f,i⟩:=t;exact⟨id,c,a,e,d,om,by rw[g id ⟨_,_,_,e⟩];exact f,i⟩
theorem Wy.in (t:Wy h v ws b){id:Nat}(g:bY v id):b<=id/\id<h.next:=by
 obtain⟨i,d,a,rfl,c,f,_⟩:=t;obtain⟨_,_,_,e⟩:=g;cases e;exact⟨c,f⟩
theorem Wy.push {y:V}{S:Nat}{c:pY}(t:Wy h v ws b)(p:SV h (.sl S 0 1 c) 1 [y])(J:b<=h.next)(N:ws.length<1000000):
  ∃v' h',zK h 1 24 v (.sl S 0 1 c)=some (v',h')/\Wy h' v' (ws++ [y]) b/\(∀k,k<h.next-> ¬bY v k->h'.get k=h.get k)/\h.next<=h'.next/\h'.next<=h.next+1/\ ∀k,bY v' k->bY v k∨k=h.next:=by
 have G:zK h 1 24 v (.sl S 0 1 c)=Ay.Fj h 1 24 v 1 [y]:=by
  simp only[zK,p.len (n:=1) rfl om,p.slice]
 rw[G]
 have q:=t.sv
 have d:=q.len (n:=ws.length) om om
 have l:=q.slice
 obtain⟨id,f,i,rfl,r,u,o,L⟩:=t
 unfold Ay.Fj
 simp only[d,l]
 rw[bU om,bJ ⟨om,om⟩]
 have a: ∀g:H,g.next=h.next->(∀k,k<h.next->k≠id->g.get k=h.get k)-> ∃v' h',some (V.sl h.next 0 (ws.length+1) (.un 1),g.new (.cells false (ws++ [y])))=some (v',h')/\Wy h' v' (ws++ [y]) b/\(∀k,k<h.next-> ¬bY (.sl id 0 ws.length f) k->h'.get k=h.get k)/\h.next<=h'.next/\h'.next<=h.next+1/\ ∀k,bY v' k->bY (.sl id 0 ws.length f) k∨k=h.next:=by
  intro g F w;refine⟨_,_,rfl,⟨h.next,_, [],by rw[iV];rfl,J,by rw[H.aW];omega,by rw[←F,H.aL,tZ],.inl rfl⟩,λk j m=>?_,by rw[H.aW];omega,by rw[H.aW];omega,λk ⟨_,_,_,e⟩=>by cases e;exact .inr rfl⟩;rw[H.bG g om];exact w k j (λe=>m ⟨_,_,_,by rw[e]⟩)
 rcases L with rfl|⟨rfl,K⟩
 ·simp only[o,if_true]
  exact a (h.set id none) rfl (λk _ j=>H.aH h j none)
 ·simp only
  by_cases e:ws.length+1<=1
  ·rw[bJ e]
   have B:ws= []:=ON om
   subst B
   obtain⟨z,rfl⟩: ∃z,i= [z]:=List.length_eq_one_iff.1 (by simpa using K)
   have s:h.put id (0+([]:List V).length*1) [y]=some (h.set id (aF [y])):=by
    simp [H.put,o,putAt]
   rw[s]
   refine⟨_,_,rfl,⟨id,_, [],rfl,r,u,by rw[H.aU];rfl,.inr ⟨rfl,rfl⟩⟩,λk j m=>H.aH h (λe=>m ⟨0,0,.kn 1,by rw[e];rfl⟩) _,dT _,Nat.le_succ _,λk ⟨_,_,_,e⟩=>by cases e;exact .inl ⟨_,_,_,rfl⟩⟩
  ·rw[bU e]
   exact a h rfl (λ_ _ _=>rfl)
def Rn (A:LN)(k:Nat)(y:List Nat):LN:=A.take k++y::A.drop k
theorem pW {z:List Nat}:z∈Rn A k y↔z=y∨z∈A:=by
 unfold Rn;rw[oD,vI];constructor
 ·rintro (h|h|h)
  ·exact .inr (List.mem_of_mem_take h)
  ·exact .inl h
  ·exact .inr (List.mem_of_mem_drop h)
 ·rintro (h|h)
  ·exact .inr (.inl h)
  ·rw[←List.take_append_drop k A,oD] at h
   rcases h with h|h
   ·exact .inl h
   ·exact .inr (.inr h)
theorem UC {a b:List Nat}(A:aY n a)(B:aY n b)(q: ¬Lt a b)(h2:a≠b):Lt b a:=by
 have h: ∃i,i<n/\a.getD i 0≠b.getD i 0:=Jj λh=>h2 (uZ (by rw[A.len,B.len]) λi hi=>Jj λd=>h ⟨i,by rw[←A.len];exact hi,d⟩)
 obtain⟨i,hi,c⟩:=h
 have r: ∃i,(i<n/\a.getD i 0≠b.getD i 0)/\ ∀j,j<i-> ¬(j<n/\a.getD j 0≠b.getD j 0):=by
  revert hi c
  induction i using Nat.strongRecOn with
  |ind i ih=>
   intro hi c
   by_cases h: ∃j,j<i/\j<n/\a.getD j 0≠b.getD j 0
   ·obtain⟨j,d,g,s⟩:=h
    exact ih j d g s
   ·exact⟨i,⟨hi,c⟩,λj e l=>h ⟨j,e,l⟩⟩
 obtain⟨k,⟨o,m⟩,f⟩:=r;have p: ∀j,j<k->a.getD j 0=b.getD j 0:=λj e=>Jj λd=>f j e ⟨om,d⟩
 rcases Nat.lt_or_gt_of_ne m with g|g
 ·exact (q ⟨k,by rw[A.len];exact o,p,g⟩).elim
 ·exact⟨k,by rw[B.len];exact o,λj e=>(p j e).symm,g⟩
theorem XB (l: ∀x∈A,aY n x)(Y:aY n y)(f:A.Pairwise Lt)(p:Plc A y k)(s:y∉A):(Rn A k y).Pairwise Lt:=by
 unfold Rn;rw[List.pairwise_append];have at': ∀{z:List Nat},z∈A.take k-> ∃i,i<k/\i<A.length/\A.getD i []=z:=λh=>(Oo (d:= [])).1 h
 have r: ∀{z:List Nat},z∈A.drop k-> ∃i,k<=i/\i<A.length/\A.getD i []=z:=λh=>by
  obtain⟨q,o,e⟩:=Ad.1 h;rw[Gb] at o;rw[List.getElem_drop] at e;exact⟨k+q,om,om,by rw[List.getD,dD om,←e];rfl⟩
 have m: ∀z∈A.take k,Lt z y:=λz a=>by
  obtain⟨i,g,c,rfl⟩:=at' a;exact (mQ (by rw[(l _ (bC c)).len,Y.len])).1 (p.lo i g)
 have hi: ∀z∈A.drop k,Lt y z:=λz a=>by
  obtain⟨i,g,c,rfl⟩:=r a;have Z:=l _ (bC (d:= []) c);refine UC Z Y (λh=>?_) (λe=>s (by rw[←e];exact bC c));have:=p.hi i g c;rw[(mQ (by rw[Z.len,Y.len])).2 h] at this;cases this
 refine⟨f.sublist (List.take_sublist k A),List.pairwise_cons.2 ⟨hi,f.sublist (List.drop_sublist k A)⟩,λz a w j=>?_⟩;rcases vI.1 j with rfl|j
 ·exact m z a
 ·have Z:=l z (List.mem_of_mem_take a)
  exact Lt.trans (by rw[Z.len,Y.len]) (m z a) (hi w j)
structure YT (n:Nat)(S A Q:LN):Prop where
 asc:A.Pairwise Lt
 gen: ∀x∈A,bM n (· ∈S) x
 one:aX n∈A
 sub: ∀x∈Q,x∈A
 cl: ∀x∈A,x∉Q-> ∀g∈S,aM x g∈A
theorem YT.start (n:Nat)(S:LN):YT n S [aX n] [aX n]:=
 ⟨List.pairwise_singleton _ _,λx a=>by simp at a;subst a;exact .one,by simp,λx a=>a,λx a h=>absurd a h⟩
theorem YT.done (j:YT n S A []):cZ (bM n (· ∈S)) A:=by
 refine⟨j.asc,λx=>⟨j.gen x,λh=>?_⟩⟩
 induction h with
 |one=>exact j.one
 |mul _ hg ih=>exact j.cl _ ih List.not_mem_nil _ hg
structure MD (n:Nat)(S:LN)(x:List Nat)(i:Nat)(A Q:LN):Prop where
 asc:A.Pairwise Lt
 gen: ∀x∈A,bM n (· ∈S) x
 one:aX n∈A
 sub: ∀x∈Q,x∈A
 mem:x∈A
 cl: ∀z∈A,z∉Q->z=x∨ ∀g∈S,aM z g∈A
 dn: ∀j,j<i->aM x (S.getD j [])∈A
theorem MD.start (j:YT n S A (Q++ [x])):MD n S x 0 A Q:=
 ⟨j.asc,j.gen,j.one,λz a=>j.sub z (by simp [a]),j.sub x (by simp),λz a c=>by
  by_cases e:z=x
  ·exact .inl e
  ·exact .inr (j.cl z a (by simp [c,e])),λj d=>om⟩
theorem MD.done (j:MD n S x S.length A Q):YT n S A Q:=
 ⟨j.asc,j.gen,j.one,j.sub,λz d c g a=>by
  rcases j.cl z d c with rfl|h
  ·obtain⟨i,hi,e⟩:=Ad.1 a
   have:=j.dn i hi;rwa [List.getD,dD hi,Option.getD_some,e] at this
  ·exact h g a⟩
theorem MD.skip {i:Nat}(j:MD n S x i A Q)(h:aM x (S.getD i [])∈A):MD n S x (i+1) A Q:=
 ⟨j.asc,j.gen,j.one,j.sub,j.mem,j.cl,λk a=>by
  by_cases e:k=i
  ·rw[e];exact h
  ·exact j.dn k om⟩
theorem MD.step {i:Nat}(j:MD n S x i A Q)(l: ∀g∈S,aY n g)(hi:i<S.length)(h:aM x (S.getD i [])∉A)(p:Plc A (aM x (S.getD i [])) k):MD n S x (i+1) (Rn A k (aM x (S.getD i []))) (Q++ [aM x (S.getD i [])]):=by
 have o:=j.gen x j.mem;have c:bM n (· ∈S) (aM x (S.getD i [])):=o.mul (bC hi);obtain⟨y,f⟩:=exI (aM x (S.getD i []));rw[f] at c h p ⊢;refine⟨XB (λz a=>(j.gen z a).bF l) (c.bF l) j.asc p h,λz a=>?_,pW.2 (.inr j.one),λz a=>?_,pW.2 (.inr j.mem),λz a d=>?_,λq d=>?_⟩
 ·rcases pW.1 a with rfl|a
  ·exact c
  ·exact j.gen z a
 ·rcases oD.1 a with a|a
  ·exact pW.2 (.inr (j.sub z a))
  ·simp at a;exact pW.2 (.inl a)
 ·rcases pW.1 a with rfl|a
  ·exact absurd (by simp) d
  ·rcases j.cl z a (λh=>d (by simp [h])) with e|m
   ·exact .inl e
   ·exact .inr λg r=>pW.2 (.inr (m g r))
 ·by_cases e:q=i
  ·rw[e,f];exact pW.2 (.inl rfl)
  ·exact pW.2 (.inr (j.dn q om))
theorem dZ.Rn {W:Nat->Prop}{c:List V}(p:dZ W h c A)(q:PV W h v y)(f:k<=A.length):dZ W h (c.take k++v::c.drop k) (Go.Proofs.YtcdbmkidaecdiaaGreat.Rn A k y):=by
 have g:=aN.length p
 have t: ∀(k:Nat) (c:List V) (A:LN),dZ W h c A->dZ W h (c.take k) (A.take k)/\dZ W h (c.drop k) (A.drop k):=by
  intro k
  induction k with
  |zero=>intro c A p;exact⟨trivial,p⟩
  |succ k ih=>
   intro c A p
   cases c with
   |nil=>cases A with
    |nil=>exact⟨trivial,trivial⟩
    |cons=>exact p.elim
   |cons a c=>cases A with
    |nil=>exact p.elim
    |cons b A=>
     obtain⟨d,e⟩:=ih c A p.2
     exact⟨⟨p.1,d⟩,e⟩
 obtain⟨d,e⟩:=t k c A p;exact d.append ⟨q,e⟩
theorem Wy.own (t:Wy h v ws b)(j:0<ws.length):dH h v 1 ws b:=by
 obtain⟨id,c,a,rfl,f,i,g,d⟩:=t;refine .inr ⟨id,ws.length,c,a,rfl,(tW _).symm,?_,f,i,g⟩;rcases d with d|⟨rfl,l⟩
 ·exact .inl d
 ·have e:ws.length=1:=om
  exact .inr ⟨by rw[e],ON om⟩
end
def Kk (s:Nat->Bool)(n:Nat):Nat:=((List.range n).filter s).length
theorem EK (s:Nat->Bool)(n:Nat):Kk s (n+1)=Kk s n+if s n=true then 1 else 0:=by
 unfold Kk;rw[List.range_succ,List.filter_append,iV];cases h:s n<;>simp [List.filter,h]
theorem TF (s:Nat->Bool)(n:Nat):Kk s n<=n:=by
 unfold Kk;have:=List.length_filter_le s (List.range n);rwa [Xf] at this
set_option maxRecDepth 100000
theorem Pf {h:H}{v:V}{L:LN}(s:SP h v L):bL v=some (aC (L.length:Int))/\dI v v=true/\ ∃(id off:Nat) (ws:List V),Sl v 1 L.length id off/\ ∀i,i<L.length->id<h.next/\h.cell id (off+i)=some (ws.getD i V.undef)/\SI h (ws.getD i V.undef) (zi (L.getD i [])):=by
 have g:=s.lens;rw[iA] at g;obtain⟨id,off,ws,e,a,d,f,b⟩:=s.open;rw[iA] at e a d f;obtain⟨j,c,_⟩:=s;exact⟨g,SV.dI c,id,off,ws,e,λi hi=>⟨a om,f i hi,xJ b hi⟩⟩
open Classical in
noncomputable def Ll (a:List Nat)(n i:Nat):List Nat:=(List.range i).filter λj=>decide (oZ a n j)
theorem HD (a:List Nat)(n i:Nat):(oZ a n i->Ll a n (i+1)=Ll a n i++ [i])/\(¬oZ a n i->Ll a n (i+1)=Ll a n i):=by
 classical
 unfold Ll;rw[List.range_succ,List.filter_append];constructor
 ·intro h;simp [List.filter,h]
 ·intro h;simp [List.filter,h]
theorem Td (a:List Nat)(n i:Nat):(Ll a n i).length<=i:=by
 unfold Ll;have:=List.length_filter_le (λj=> @decide (oZ a n j) (Classical.propDecidable _)) (List.range i);rwa [Xf] at this
def itK (a:List Nat)(i s:Nat):List Nat:=(List.range s).map λt=>it a t i
theorem LC (a:List Nat)(i s:Nat):itK a i (s+1)=itK a i s++ [it a s i]:=by
 unfold itK;rw[List.range_succ,List.map_append];rfl
theorem UU (u:V)(n:Nat)(a:List Nat)(h:H)(hn:n<=64)(A:aY n a)(hu:SI h u (zi a)):
  Ev T 242 [u] h (λv h'=> ∃ws,dH h' v 1 ws h.next/\dZ (λq=>q<h.next) h' ws (xC a n)/\Fr h h'):=by
 refine dW Dh rfl ?_
 have lu:=hu.lens
 rw[aS,A.len] at lu
 obtain⟨id,off,sh,a1,hc⟩:=hu.open
 rw[aS,A.len] at sh a1 hc
 simp(disch:=omega)only[go_sem,Dh,aE,lu,Tv h n om]
 obtain⟨S,hS⟩:=exI h.next
 obtain⟨Q,e1,n1,g1,o1,f1⟩:=dK hS (rc n λ_=>V.bool false)
 rw[hS,e1]
 refine aI (λk' f r=> ∃(i:Nat) (G:V) (Y:List V),(∃g:Nat->V,f= [u,g 1,G,.sl S 0 n (.kn n),aC i,g 5,g 6,g 7,g 8,g 9])/\i<=n/\dH r G 1 Y (S+1)/\dZ (λq=>q<=S∨bY G q) r Y ((Ll a n i).map (IL a))/\
   r.get S=some (.cells false (rc n λj=> .bool (Rc a i 0 j)))/\S<r.next/\Fr h r/\k'=n-i) n
  ⟨0,.aD, [],aB rfl,iB _,dH.aD _ _ _,trivial,by rw[g1,show (rc n λj=>V.bool (Rc a 0 0 j))=rc n λ_=>V.bool false from dJ λj _=>by rw[UZ]],om,f1,rfl⟩ ?_
 clear g1 e1 o1 f1 n1 Q
 rintro k' f d ⟨i,G,Y,⟨g,rfl⟩,hi,ow,R,gS,b5,F,rfl⟩
 by_cases a2:(i:Int)<(n:Int)
 case neg=>
  have d1:=bI a2;obtain rfl:i=n:=om
  simp(disch:=omega)only[go_sem,lu,d1];exact⟨Y,ow.le om,dZ.kO R λq _ N=> .inl om,F⟩
 have d1:=cI a2
 have k:i<n:=om
 have B:=λj off m c (e:G=V.sl j off m c)=>ow.in j off m c e
 have lw:=aN.length R
 rw[iA] at lw
 have lf:=Td a n i
 obtain⟨p0,p1,_⟩:=nJ A k
 have b4:=Wo A k
 simp(disch:=omega)only[go_sem,lu,d1]
 refine bQ (λvs r=> ∃(x:V) (l:List Nat),(∃g:Nat->V,vs= [u,g 1,G,.sl S 0 n (.kn n),aC i,x,g 6,g 7,g 8,g 9])/\(oZ a n i->l=IL a i)/\(¬oZ a n i->l= [])/\dH r x 1 (ints (zi l)) d.next/\
   r.get S=some (.cells false (rc n λj=> .bool (Rc a (i+1) 0 j)))/\d.next<=r.next/\ ∀q,q<d.next->q≠S->r.get q=d.get q) ?_ ?_
 ·refine aI (λk' f r=> ∃(s:Nat) (x:V),(∃g:Nat->V,f= [u,g 1,G,.sl S 0 n (.kn n),aC i,x,aC (it a s i:Nat),g 7,g 8,g 9])/\s<=kW a i/\(¬oZ a n i->s=0)/\dH r x 1 (ints (zi (itK a i s))) d.next/\
    r.get S=some (.cells false (rc n λj=> .bool (Rc a i s j)))/\d.next<=r.next/\(∀q,q<d.next->q≠S->r.get q=d.get q)/\k'=kW a i-s) (kW a i)
   ⟨0,.aD,aB rfl,iB _,λ_=>rfl,dH.aD _ _ _,gS,dT _,λ_ _ _=>rfl,rfl⟩ ?_
  clear g
  rintro k' f J ⟨s,x,⟨g,rfl⟩,hs,a7,L,w,n3,P,rfl⟩
  have kl:=Ha A k s
  have cS:J.cell S (it a s i)=some (.bool (Rc a i s (it a s i))):=tF w kl
  have e3:decide (((it a s i:Nat):Int)<0)=false:=bI om
  have e4:decide ((n:Int)<=((it a s i:Nat):Int))=false:=bI om
  by_cases y:Rc a i s (it a s i)=true
  ·rw[y] at cS
   simp(disch:=omega)only[go_sem,e3,e4,cS]
   by_cases p:oZ a n i
   ·have a0:s=kW a i:=by
     have:=GK A k p hs;rw[y] at this;have h5: ¬s<kW a i:=λh=>by have:=this.2 h;cases this
     omega
    subst a0;refine⟨x,itK a i (kW a i),aB rfl,λ_=>rfl,λh=>absurd p h,L,?_,n3,P⟩;rw[w];congr 2;exact dJ λj _=>by rw[WY A k]
   ·obtain rfl:=a7 p
    refine⟨x, [],aB rfl,λh=>absurd h p,λ_=>rfl,L,?_,n3,P⟩
    rw[w]
    congr 2
    exact dJ λj _=>by rw[XR A k p]
  ·have K:Rc a i s (it a s i)=false:=by simpa using y
   rw[K] at cS
   have p:oZ a n i:=Jj λp=>by
    obtain rfl:=a7 p;have d: ∃j0,j0<i/\ ∃t,it a t j0=i:=Jj λhn=>p ((Jv A k).2 λj0 hj t e=>hn ⟨j0,hj,t,e⟩)
    exact y (pF.2 (.inl d))
   have a0:=(GK A k p hs).1 K
   have pt:=bT (vs:=rc n λj=> .bool (Rc a i s j)) (off:=it a s i) (by rw[iQ];exact kl) J S (.bool true)
   rw[lH] at pt
   obtain⟨h4,e5,n4,g4,U⟩:=mV J S (rc n λj=>if j=it a s i then V.bool true else .bool (Rc a i s j))
   rw[e5] at pt
   have hr:(rc n λj=>if j=it a s i then V.bool true else .bool (Rc a i s j))=rc n λj=> .bool (Rc a i (s+1) j):=dJ λj _=>by
    rw[PY];split<;>rfl
   rw[hr] at g4
   have a8:=L.tU (h':=h4) om λq off m c e N=>U q (by have:=(L.in _ _ _ _ e).2.1;omega)
   have ll:(itK a i s).length=s:=by unfold itK;simp
   obtain⟨h5,e6,n5,g5,o5,f5⟩:=dK (h:=h4) rfl [aC (it a s i:Nat)]
   obtain⟨h6,a6,Z⟩:=(a8.fr f5).push (bytes:=8) (SV.one om g5 (.kn 1)) (n:=s) (m:=1) (by rw[aP,aS];omega) rfl om om om
   have n6:=Z.next
   have ci:h6.cell id (off+it a s i)=some (aC (a.getD (it a s i) 0:Nat)):=by
    have N:=a1 om;have hF:=F.next
    have b0:h6.get id=d.get id:=by
     rw[Z.old id om (λq o m c e W=>by have:=(L.in _ _ _ _ e).2.1;omega),o5 id om,U id om,P id om om]
    unfold H.cell;rw[b0];show d.cell id (off+it a s i)=_;rw[F.cell N,hc _ kl];congr 2;simp [zi,A.len,kl]
   have a3:=Oy h4 ((it a s i:Nat):Int)
   rw[show ints [((it a s i:Nat):Int)]= [aC (it a s i:Nat)] from rfl,e6] at a3
   rw[n5] at a6
   simp(disch:=omega)only[go_sem,e3,e4,cS,w,pt,a3,a6,sh.ixa,ci]
   refine⟨kW a i-(s+1),om,s+1,.sl (h4.next+1) 0 (s+1) (.un 1),?_,om,λh=>absurd p h,?_,?_,om,λq Q d=>?_,rfl⟩
   ·rw[show it a (s+1) i=a.getD (it a s i) 0 by rw[wQ a s i 1];rfl]
    exact aB rfl
   ·have t:=Z.own (by rw[aP,aS];omega) rfl (b:=d.next) om
    rw[LC,Mo,rP]
    rw[n5] at t
    exact t
   ·rw[Z.old S om (λq o m c e W=>by have:=(L.in _ _ _ _ e).2.1;omega),o5 S om];exact g4
   ·rw[Z.old q om (λq' o m c e W=>by have:=(L.in _ _ _ _ e).2.1;omega),o5 q om,U q d,P q Q d]
 clear g
 rintro f J ⟨x,l,⟨g,rfl⟩,a9,b1,L,w,n3,P⟩
 have F3:Fr h J:=⟨by have:=F.next;omega,λq N=>by rw[P q (by have:=F.next;omega) om];exact F.get q N⟩
 have a4:dH J G 1 Y (S+1):=ow.tU n3 λq o m c e N=>P q N (by have:=(B _ _ _ _ e).2.1;omega)
 have x3:Fx (λq=>q<=S∨bY G q) d J:=⟨n3,λq Q d=>P q Q (λe=>d (.inl om))⟩
 have O:=dZ.fx R x3
 have lc:bL x=some (aC (l.length:Int)):=by
  have:=SI.lens (show SI J x (zi l) from L.sv);rwa [aS] at this
 obtain⟨b2,b3⟩:=HD a n i
 by_cases p:oZ a n i
 ·have el:=a9 p
  have ll:l.length=kW a i:=by rw[el,zB]
  have d2:decide ((0:Int)<(l.length:Int))=true:=cI om
  have pc:PV (λq=>q<=S∨bY G q) J x l:=by
   refine⟨L.sv,?_⟩
   cases x with
   |sl q o m c=>
    have h5:=(L.in _ _ _ _ rfl).2.1;rintro (h6|⟨o',m',c',e⟩)
    ·omega
    ·have:=(B _ _ _ _ e).1;omega
   |_=>trivial
  obtain⟨h4,e4,n4,g4,U,f4⟩:=dK (h:=J) rfl [x]
  obtain⟨h5,a5,p5⟩:=(a4.fr f4).push (bytes:=24) (SV.one om g4 (.kn 1)) (n:=(Ll a n i).length) (m:=1) om rfl om om om
  have n5:=p5.next
  rw[n4] at a5
  simp(disch:=omega)only[go_sem,lc,d2,cK _ (z:= .aD) pc.fG.1 pc.fG.2,e4,a5]
  rw[fJ i]
  have x5:Fx (λq=>q<=S∨bY G q) J h5:=⟨om,λq Q d=>by rw[p5.old q om (λq' o m c e W=>d (.inr ⟨o,m,c,W▸e⟩)),U q om]⟩
  have w5: ∀q,q<J.next->(q<=S∨bY (.sl (J.next+1) 0 ((Ll a n i).length+1) (.un 1)) q)->(q<=S∨bY G q):=λq Q d=>by
   rcases d with d|⟨_,_,_,e⟩
   ·exact .inl d
   ·cases e;omega
  have t:=p5.own om rfl (b:=S+1) om
  rw[n4] at t
  refine⟨n-(i+1),om,i+1,_,_,aB rfl,om,t,?_,?_,om,⟨by have:=F3.next;omega,λq N=>?_⟩,rfl⟩
  ·rw[b2 p,List.map_append,show [i].map (IL a)= [l] by rw[el];rfl]
   exact (dZ.go O x5 w5).append (dZ.one (PV.go pc x5 w5))
  ·rw[p5.old S om (λq' o m c e W=>by have:=(B _ _ _ _ e).2.1;omega),U S om];exact w
  ·rw[p5.old q om (λq' o m c e W=>by have:=(B _ _ _ _ e).2.1;omega),U q (by have:=F3.next;omega)];exact F3.get q N
 ·have el:=b1 p
  have d2:decide ((0:Int)<(l.length:Int))=false:=by rw[el];rfl
  simp(disch:=omega)only[go_sem,lc,d2]
  rw[fJ i]
  exact⟨n-(i+1),om,i+1,G,Y,aB rfl,om,a4,by rw[b3 p];exact O,w,om,F3,rfl⟩
theorem OC {l:List Nat}{k:Nat}(a:k<l.length):Ft (l.take (k+1))=Ft (l.take k)/Nat.gcd (Ft (l.take k)) (l.getD k 0)*l.getD k 0:=by
 unfold Ft;rw[eY 0 a,List.foldl_append];rfl
theorem XF {l:List Nat}{m k:Nat}(h:Ft l∣m):Ft (l.take k)∣m:=by
 rw[Cq] at h ⊢;exact λc a=>h c (List.mem_of_mem_take a)
theorem EL (u:V)(n:Nat)(a:List Nat)(h:H)(n0:1<=n)(hn:n<=7)(A:aY n a)(hu:SI h u (zi a)):
  Ev T 200 [u] h (λv h'=>v= .tup [aC (oJ a n:Nat),aC 0]/\Fr h h'):=by
 refine dW rS rfl ?_
 simp(disch:=omega)only[go_sem,rS,aE]
 refine (Hn u _ h (by rw[aS,A.len];omega) hu).mono ?_
 rw[Wm A n0 om]
 rintro _ h1 ⟨rfl,Y⟩
 simp(disch:=omega)only[go_sem]
 refine bA (λG=>(G rfl).elim) (λ_=>?_)
 simp(disch:=omega)only[go_sem]
 refine (UU u n a h1 om A (hu.mono Y)).mono ?_
 rintro vl B ⟨wl,ol,pl,f2⟩
 have sl:=dZ.sp' ol.sv pl
 obtain⟨C,z⟩:=exI (xC a n)
 rw[z] at sl
 obtain⟨W,ev,id,L,ws,sh,G⟩:=Pf sl
 have b: ∀k,Ft ((C.map List.length).take k)∣420:=λk=>XF (by rw[←z];exact SN A hn)
 have h0: ∀k,0<Ft ((C.map List.length).take k):=λk=>Nat.pos_of_dvd_of_pos (b k) om
 have t: ∀k,Ft ((C.map List.length).take k)<=420:=λk=>Nat.le_of_dvd om (b k)
 have P: ∀k,k<C.length->(C.getD k []).length<=420:=λk Z=>by
  have hd:=b (k+1);rw[Cq] at hd;refine Nat.le_of_dvd om (hd _ ?_);have e:((C.map List.length).take (k+1))=(C.take (k+1)).map List.length:=by rw[List.map_take]
  rw[e];refine pH.2 ⟨C.getD k [],?_,rfl⟩;rw[eY [] Z];simp
 have a0:C.length<=n:=by
  rw[←z];unfold xC;rw[iA];exact Td a n n
 simp(disch:=omega)only[go_sem]
 refine aI (λk' i o=> ∃(k:Nat),(∃g:Nat->V,i= [g 0,g 1,g 2,g 3,aC ((Ft ((C.map List.length).take k):Nat):Int),vl,aC k,g 7,g 8])/\k<=C.length/\Fr B o/\k'=C.length-k) C.length
  ⟨0,aB rfl,iB _,Fr.refl B,rfl⟩ ?_
 rintro k' i w ⟨k,⟨g,rfl⟩,Z,N,rfl⟩
 by_cases p:(k:Int)<(C.length:Int)
 case neg=>
  have J:=bI p;obtain rfl:k=C.length:=om
  simp(disch:=omega)only[go_sem,W,J];refine⟨?_,(Y.trans f2).trans N⟩;rw[Ro (by rw[iA];exact dT _),←z];rfl
 have J:=cI p
 have d:k<C.length:=om
 obtain⟨i1,c1,Q⟩:=G k d
 have cell: ∀o,Fr B o->o.cell id (L+k)=some (ws.getD k V.undef):=λo f=>by rw[f.cell i1];exact c1
 have s:=Q.lens
 rw[aS] at s
 have x:=SV.dI Q
 generalize ws.getD k V.undef=vc at cell s x
 obtain⟨m,y⟩:=exI (Ft ((C.map List.length).take k))
 obtain⟨c,l⟩:=exI ((C.getD k []).length)
 have F:0<m:=by rw[←y];exact h0 k
 have a1:m<=420:=by rw[←y];exact t k
 have a3:c<=420:=by rw[←l];exact P k d
 have step:Ft ((C.map List.length).take (k+1))=m/Nat.gcd m c*c:=by
  rw[OC (by rw[iA];exact d),y]
  have:(C.map List.length).getD k 0=c:=by
   rw[←l,List.getD,List.getD,Qy,dD d];rfl
  rw[this]
 have j:=t (k+1)
 rw[step] at j
 rw[l] at s
 rw[y]
 simp(disch:=omega)only[go_sem,W,J,sh.ixa,cell w N,s]
 have fb:Fr w (H.mk w.tr (w.next+16)):=(Fr.refl w).bH om
 refine (XC m c _ om om).mono ?_
 rintro _ h4 ⟨rfl,f4⟩
 have F4:=(N.trans fb).trans f4
 have R:0<Nat.gcd m c:=Nat.gcd_pos_of_pos_left c F
 have O:((Nat.gcd m c:Nat):Int)≠0:=om
 obtain⟨q,K⟩:=exI (m/Nat.gcd m c)
 have a2:q<=m:=by rw[←K];exact Nat.div_le_self ..
 rw[K] at step j
 obtain⟨r,U⟩:=exI (q*c)
 rw[U] at step j
 have ed:((m:Nat):Int).tdiv ((Nat.gcd m c:Nat):Int)=(q:Int):=by
  rw[Int.tdiv_eq_ediv_of_nonneg om,←K];rfl
 have em:(q:Int)*(c:Int)=(r:Int):=by rw[←Int.natCast_mul,U]
 simp(disch:=omega)only[go_sem,cell h4 F4,s,ev,x,O,ed,em]
 rw[fJ k]
 exact⟨C.length-(k+1),om,k+1,by rw[step];exact aB rfl,om,F4,rfl⟩
def wrC (C:LN)(k s j:Nat):Prop:=(∃q,q<k/\j∈C.getD q [])∨j∈(C.getD k []).take s
open Classical in
noncomputable def OS (C:LN)(x:List Nat)(k s j:Nat):V:=if wrC C k s j then aC (x.getD j 0:Nat) else aC 0
section
variable {O:List (List Int)} {R:List (List (List Int))}
theorem fV {h:H}{v:V}(s:SR h v O):bL v=some (aC (O.length:Int))/\dI v v=true/\v.cells= [v]/\v.one=true/\ ∃(id off:Nat) (ws:List V),Sl v 1 O.length id off/\ ∀i,i<O.length->id<h.next/\h.cell id (off+i)=some (ws.getD i V.undef)/\SI h (ws.getD i V.undef) (O.getD i []):=by
 have e:=s.lens;obtain⟨ws,sv,b⟩:=s;have f:=aN.length b;obtain⟨id,off,c,a,d⟩:=SV.shape sv O.length om om;exact⟨e,SV.dI sv,(SV.cT sv).1,(SV.cT sv).2.1,id,off,ws,c,λi hi=>⟨a om,by rw[d i om];simp [List.getD,show i<ws.length by omega],FJ b hi⟩⟩
theorem kZ {h:H}{v:V}(s:SRR h v R):bL v=some (aC (R.length:Int))/\dI v v=true/\v.cells= [v]/\v.one=true/\ ∃(id off:Nat) (ws:List V),Sl v 1 R.length id off/\ ∀i,i<R.length->id<h.next/\h.cell id (off+i)=some (ws.getD i V.undef)/\SR h (ws.getD i V.undef) (R.getD i []):=by
 obtain⟨ws,sv,b,_⟩:=s;have e:=aN.length b;obtain⟨id,off,c,a,d⟩:=SV.shape sv R.length om om;refine⟨by unfold bL;rw[SV.len sv (n:=R.length) om om];rfl,SV.dI sv,(SV.cT sv).1,(SV.cT sv).2.1,id,off,ws,c,λi hi=>⟨a om,by rw[d i om];simp [List.getD,show i<ws.length by omega],?_⟩⟩;have:=aN.get b i om hi;rw[List.getD,List.getD,dD (show i<ws.length by omega),dD hi];exact this
structure FrR (n:Nat)(O:List (List Int))(R:List (List (List Int)))(i k:Nat):Prop where
 row: ∀j,j<i->(O.getD j []).length<=n/\(O.getD j []).length=(R.getD j []).length
 perm: ∀j,j<i-> ∀x∈R.getD j [],x.length=n/\nU x=true
 last: ∀x∈(R.getD i []).take k,x.length=n/\nU x=true
theorem FrR.nat {n:Nat}(f:FrR n O R n 0)(h:R.length=n): ∃R':jJ,R=R'.map (List.map zi)/\ ∀g∈R'.flatten,aY n g:=by
 have a: ∀r∈R,∀x∈r,x.length=n/\nU x=true:=λr b x c=>by
  obtain⟨i,hi,rfl⟩:=Ad.1 b;exact f.perm i om x (by rw[List.getD,dD hi];exact c)
 refine⟨R.map (List.map (List.map Int.toNat)),?_,λg d=>?_⟩
 ·rw[List.map_map]
  refine (List.map_id R).symm.trans (Xa λr b=>?_);show r=(r.map (List.map Int.toNat)).map zi;rw[List.map_map];exact (List.map_id r).symm.trans (Xa λx c=>(Kd (a r b x c).2).1)
 ·obtain⟨j,e,d⟩:=List.mem_flatten.1 d
  obtain⟨r,b,rfl⟩:=pH.1 e;obtain⟨x,c,rfl⟩:=pH.1 d;have:=(Kd (a r b x c).2).2;rwa [(a r b x c).1] at this
theorem FrR.next {n:Nat}{i k:Nat}(f:FrR n O R i k)(d:(R.getD i []).length<=k)(c:(O.getD i []).length<=n)(h2:(O.getD i []).length=(R.getD i []).length):FrR n O R (i+1) 0:=by
 have a:=f.last;rw[Ro d] at a;refine⟨λj g=>?_,λj g=>?_,λx b=>by rw[List.take_zero] at b;cases b⟩
 ·by_cases e:j=i
  ·subst e;exact⟨c,h2⟩
  ·exact f.row j om
 ·by_cases e:j=i
  ·subst e;exact a
  ·exact f.perm j om
theorem CC {x:List Int}(a:1<=x.length)(h2:x.length<=64):BN x=0↔nU x=true:=by
 unfold BN;rw[bU om];constructor
 ·intro h
  split at h
  ·assumption
  ·omega
 ·intro h;rw[bJ h]
theorem Bd (vc:V)(d:Int)(O:List (List Int))(R:List (List (List Int)))(h:H)(hc:YD h vc d O R)(hd:d<=7∨64<d)(so:Bf O)(sr:Pw R):
  Ev T 95 [vc] h (λv h'=>v= aC (Wa d O R)/\Fr h h'):=by
 have c4:=hc
 obtain⟨vO,vR,rfl,sO,sR⟩:=hc
 refine dW fT rfl ?_
 obtain⟨lO,e5,_,b1,c8,b5,b3,a1,cO⟩:=fV sO
 obtain⟨lR,e6,_,b2,c3,a3,a8,q,cR⟩:=kZ sR
 obtain⟨B,hB⟩:=exI h.next
 obtain⟨b,e1,n1,g1,o1,p⟩:=dK hB [aC d,vO,vR]
 have c0: ∀a,Fr b a->a.cell B 0=some (aC d):=λa f=>by rw[f.cell om,H.cell_of g1];rfl
 have c1: ∀a,Fr b a->a.cell B 1=some vO:=λa f=>by rw[f.cell om,H.cell_of g1];rfl
 have U: ∀a,Fr b a->a.cell B 2=some vR:=λa f=>by rw[f.cell om,H.cell_of g1];rfl
 have rB: ∀a,Fr b a->a.row B 0 3=some [aC d,vO,vR]:=λa f=>aJ (by rw[f.get B om];exact g1)
 have bx:=bV h (v:= aC d) (u:=vO) (w:=vR) rfl b1 b2
 by_cases a2:d<1
 ·have x1:=cI a2
  simp(disch:=omega)only[go_sem,fT,aE,bx,hB,e1,c0 b (Fr.refl _),x1]
  exact⟨by unfold Wa;rw[bJ (.inl a2)],p⟩
 have x1:=bI a2
 by_cases a0:64<d
 ·have x2:=cI a0
  simp(disch:=omega)only[go_sem,fT,aE,bx,hB,e1,c0 b (Fr.refl _),x1,x2]
  exact⟨by unfold Wa;rw[bJ (.inr a0)],p⟩
 have x2:=bI a0
 obtain⟨n,rfl⟩: ∃n:Nat,d=(n:Int):=⟨d.toNat,om⟩
 have J:1<=n:=om
 have d0:n<=7:=om
 by_cases c9:O.length=n
 case neg=>
  have x3:decide ((O.length:Int)≠(n:Int))=true:=cI om;simp(disch:=omega)only[go_sem,fT,aE,bx,hB,e1,c0 b (Fr.refl _),x1,x2,c1 b (Fr.refl _),lO,x3];exact⟨by rw[Nb J om (λf=>c9 f.lo)],p⟩
 have x3:decide ((O.length:Int)≠(n:Int))=false:=bI om
 by_cases b4:R.length=n
 case neg=>
  have x4:decide ((R.length:Int)≠(n:Int))=true:=cI om;simp(disch:=omega)only[go_sem,fT,aE,bx,hB,e1,c0 b (Fr.refl _),x1,x2,c1 b (Fr.refl _),lO,x3,U b (Fr.refl _),lR,x4];exact⟨by rw[Nb J om (λf=>b4 f.lr)],p⟩
 have x4:decide ((R.length:Int)≠(n:Int))=false:=bI om
 simp(disch:=omega)only[go_sem,fT,aE,bx,hB,e1,c0 b (Fr.refl _),x1,x2,c1 b (Fr.refl _),lO,x3,U b (Fr.refl _),lR,x4]
 have N: ¬QP n O R->Wa (n:Int) O R=3:=Nb J om
 refine aI (λk' o a=> ∃(i:Nat) (G:V) (A:List V),(∃g:Nat->V,o= [g 0,.ptr B 0,g 2,aC n,G,aC i,g 6,g 7,g 8,g 9,g 10,g 11,g 12,g 13,g 14,g 15])/\i<=n/\dH a G 1 A b.next/\aN (SI b) A (R.take i).flatten/\FrR n O R i 0/\Fr b a/\k'=n-i) n
   ⟨0,.aD, [],aB rfl,iB _,dH.aD _ _ _,trivial,⟨λj hj=>om,λj hj=>om,λx Z=>by rw[List.take_zero] at Z;cases Z⟩,Fr.refl b,rfl⟩ ?_
 rintro k' o e ⟨i,G,A,⟨g,rfl⟩,hi,ow,t,fr,F,rfl⟩
 by_cases a7:(i:Int)<(n:Int)
 case pos=>
  have d1:=cI a7;have P:i<n:=om
  obtain⟨i1,ci,si⟩:=cO i om;obtain⟨j1,cj,sj⟩:=cR i om;have lo:=si.lens;have c7:=SV.dI si;obtain⟨lr,c5,_,_,d7,b7,a4,K,cr⟩:=fV sj;have Y: ∀a,Fr b a->a.cell c8 (b5+i)=some (b3.getD i V.undef):=λa f=>by rw[(p.trans f).cell i1];exact ci
  have l: ∀a,Fr b a->a.cell c3 (a3+i)=some (a8.getD i V.undef):=λa f=>by rw[(p.trans f).cell j1];exact cj
  generalize b3.getD i V.undef=vo at Y lo c7;generalize a8.getD i V.undef=vr at l lr c5 K sj;have e0:(R.getD i []).length<1000000:=sr.2 i om
  by_cases q1:(n:Int)<((O.getD i []).length:Int)
  case pos=>
   have y1:=cI q1;simp(disch:=omega)only[go_sem,d1,c1 e F,U e F,a1.ixa,q.ixa,Y e F,l e F,lo,lr,y1];exact⟨by rw[N λf=>by have:=f.row i P;omega],p.trans (F.bH om)⟩
  have y1:=bI q1
  by_cases q2:(O.getD i []).length=(R.getD i []).length
  case neg=>
   have y2:decide (((O.getD i []).length:Int)≠((R.getD i []).length:Int))=true:=cI om;simp(disch:=omega)only[go_sem,d1,c1 e F,U e F,a1.ixa,q.ixa,Y e F,l e F,lo,lr,y1,y2];exact⟨by rw[N λf=>by have:=f.row i P;omega],p.trans (F.bH om)⟩
  have y2:decide (((O.getD i []).length:Int)≠((R.getD i []).length:Int))=false:=bI om;have Fb:Fr b (H.mk e.tr (e.next+23)):=F.bH om;have b0:dH (H.mk e.tr (e.next+23)) G 1 A b.next:=ow.fr ((Fr.refl e).bH om);simp(disch:=omega)only[go_sem,d1,c1 e F,U e F,a1.ixa,q.ixa,Y e F,l e F,lo,lr,y1,y2];generalize (H.mk e.tr (e.next+23))=h3 at*;refine aI (λk' o a=> ∃(k:Nat) (G:V) (A:List V),(∃g:Nat->V,o= [g 0,.ptr B 0,g 2,aC n,G,aC i,aC k,g 7,g 8,g 9,g 10,g 11,g 12,g 13,g 14,g 15])/\k<=(R.getD i []).length/\dH a G 1 A b.next/\aN (SI b) A ((R.take i).flatten++(R.getD i []).take k)/\FrR n O R i k/\Fr b a/\k'=(R.getD i []).length-k) (R.getD i []).length
   ⟨0,G,A,aB rfl,iB _,b0,by rw[List.take_zero,tZ];exact t,fr,Fb,rfl⟩ ?_
  clear ow b0 t fr Fb;rintro k' o r ⟨k,G,A,⟨g,rfl⟩,hk,ow,t,fr,s,rfl⟩
  by_cases a9:(k:Int)<((R.getD i []).length:Int)
  case neg=>
   have d2:=bI a9;have a5:(R.getD i []).length<=k:=om
   rw[Ro a5,←MQ om] at t;simp(disch:=omega)only[go_sem,U r s,q.ixa,l r s,lr,d2];rw[fJ i];exact⟨n-(i+1),om,i+1,G,A,aB rfl,om,ow,t,fr.next a5 om q2,s,rfl⟩
  have d2:=cI a9;have W:k<(R.getD i []).length:=om
  obtain⟨k1,ck,sk⟩:=cr k W;have Q: ∀a,Fr b a->a.cell d7 (b7+k)=some (a4.getD k V.undef):=λa f=>by rw[(p.trans f).cell k1];exact ck
  generalize a4.getD k V.undef=vx at Q sk;have mx:(R.getD i []).getD k []∈R.getD i []:=bC W;obtain⟨x,Z⟩:=exI ((R.getD i []).getD k []);rw[Z] at sk mx;have lx:=sk.lens;have e2:=SV.dI sk
  by_cases q3:x.length=n
  case neg=>
   have y3:decide ((x.length:Int)≠(n:Int))=true:=cI om;simp(disch:=omega)only[go_sem,U r s,q.ixa,l r s,lr,d2,K.ixa,Q r s,lx,y3];exact⟨by rw[N λf=>q3 (f.perm i P x mx).1],p.trans s⟩
  have y3:decide ((x.length:Int)≠(n:Int))=false:=bI om;simp(disch:=omega)only[go_sem,U r s,q.ixa,l r s,lr,d2,K.ixa,Q r s,lx,y3];refine (Hn vx x _ om (sk.mono (p.trans s))).mono ?_;rintro _ h5 ⟨rfl,f5⟩;have L:=s.trans f5
  by_cases q4:BN x=0
  case neg=>
   have y4:=cI q4;simp(disch:=omega)only[go_sem,y4];exact⟨by rw[N λf=>q4 ((CC om om).2 (f.perm i P x mx).2)],p.trans L⟩
  have y4:decide (BN x≠0)=false:=bI om;have ok:=(CC om om).1 q4;have b6:=t.length
  have d8:((R.take i).flatten++(R.getD i []).take k).length<=400:=by
   have b:=uK (m:=7) (R:=R) (i:=i) om (λj hj=>by have:=fr.row j hj;omega);have e:i*7<=7*7:=Nat.mul_le_mul_right 7 om;rw[iV,zO];omega
  have one:=SV.cT sk;obtain⟨h6,a6,d3,f6,n6,o6⟩:=Je (v:=vx) (ow.fr f5) L om (bytes:=24) om;simp(disch:=omega)only[go_sem,y4,U h5 L,q.ixa,l h5 L,K.ixa,Q h5 L,cK _ (z:= .aD) one.1 one.2.1,a6];rw[fJ k];refine⟨(R.getD i []).length-(k+1),om,k+1,_,_,aB rfl,om,d3,?_,⟨fr.row,fr.perm,λy hy=>?_⟩,f6,rfl⟩
  ·rw[eY [] W,Z,←Lz]
   exact t.append ⟨sk.mono p,trivial⟩
  ·rw[eY [] W,Z] at hy
   rcases oD.1 hy with hy|hy
   ·exact fr.last y hy
   ·rw[List.mem_singleton.1 hy];exact⟨q3,ok⟩
 have d1:=bI a7
 obtain rfl:i=n:=om
 rw[Ro om] at t
 obtain⟨R',eR,hP⟩:=fr.nat b4
 have eF:R.flatten=R'.flatten.map zi:=by rw[eR,List.map_flatten]
 have fl:R.flatten.length<=49:=by
  have b:=uK (m:=7) (R:=R) (i:=R.length) om (λj hj=>by have:=fr.row j om;omega);have e:R.length*7<=7*7:=Nat.mul_le_mul_right 7 om;rw[Ro om] at b;omega
 have d9:R'.flatten.length<=49:=by rw[eF,iA] at fl;exact fl
 have b6:=t.length
 have c6:=dH.lens ow b6
 have d5:decide ((4096:Int)<(R.flatten.length:Int))=false:=bI om
 rw[eF] at t
 simp(disch:=omega)only[go_sem,d1,c6,d5]
 refine (rL G i R'.flatten e J d0 om ⟨A,ow.sv,t.mono λ_ _ x=>x.mono F⟩ hP).mono ?_
 rintro _ h3 ⟨vm,O2,R2,rfl,gc,f3⟩
 obtain⟨_,⟨uO,uR,rfl,tO,tR⟩⟩:True/\YD h3 vm (i:Int) (O2.map zi) (R2.map (List.map zi)):=⟨trivial,gc.ch⟩
 obtain⟨_,_,_,b9,_⟩:=fV tO
 obtain⟨_,_,_,d6,_⟩:=kZ tR
 obtain⟨M,hM⟩:=exI h3.next
 obtain⟨r,e4,n4,g4,o4,f4⟩:=dK hM [aC 0,.aD,.aD]
 have e3:=f3.next
 have nF:=F.next
 have L:Fr h3 (r.set M (aF [aC i,uO,uR])):=f4.set om _
 have g5:(r.set M (aF [aC i,uO,uR])).get M=aF [aC i,uO,uR]:=H.aU ..
 simp(disch:=omega)only[go_sem,hM,e4,cF r M 0 (v:= aC i) (u:=uO) (w:=uR) rfl b9 d6,g4,cH]
 generalize r.set M (aF [aC i,uO,uR])=h5 at L g5 ⊢
 have G5:Fr b h5:=(F.trans f3).trans L
 obtain⟨b8,d4⟩:=gc.small
 simp(disch:=omega)only[go_sem,rB h5 G5,aJ g5]
 refine (Wi _ _ (i:Int) (i:Int) O (O2.map zi) R (R2.map (List.map zi)) h5 (c4.mono (p.trans G5)) (YD.mono ⟨uO,uR,rfl,tO,tR⟩ L) so b8 (sr.inn (λj hj x Z=>(fr.perm j om x Z).1) om) d4).mono ?_
 rintro _ h6 ⟨rfl,f6⟩
 have iff:=NI.iff (O:=O) J om hP gc.isc
 rw[←eR] at iff
 by_cases hq:(i:Int)=(i:Int)/\O=O2.map zi/\R=R2.map (List.map zi)
 ·have ed:=cI hq
  rw[ed]
  simp(disch:=omega)only[go_sem]
  refine⟨?_,p.trans (G5.trans f6)⟩
  unfold Wa
  rw[bU om,bJ (iff.2 hq.2)]
 ·have ed:=bI hq
  rw[ed]
  simp(disch:=omega)only[go_sem]
  refine⟨?_,p.trans (G5.trans f6)⟩
  unfold Wa
  rw[bU om,bU (λc=>hq ⟨rfl,iff.1 c⟩)]
end
theorem Bv {W:Nat->Prop}(vc:V)(n:Nat)(O:LN)(R:jJ)(G:List Nat->Prop)(h:H)(p:GC W h vc n O R G):
  Ev T 148 [vc] h (λv h'=> ∃S,v= .tup [.sl S 0 (n+1) (.kn (n+1)),.bool true]/\h.next<=S/\S<h'.next/\h'.get S=some (.cells false (rc (n+1) λj=> aC (iW O (n-j) j:Nat)))/\Fr h h'):=by
 obtain⟨P,r,e,sO,sR⟩:=p.ch
 subst e
 refine dW rM rfl ?_
 have f:=p.isc
 have n0:=p.n0
 have n7:=p.n7
 obtain⟨wO,tO,aO⟩:=sO
 have lO:=aO.length
 rw[iA,f.lo] at lO
 have N:=tO.cT.2.1
 have Q:r.one=true:=Up sR
 obtain⟨B,hB⟩:=exI h.next
 obtain⟨h1,e1,n1,g1,o1,f1⟩:=dK hB [aC n,P,r]
 have bx:=bV h (v:= aC n) (u:=P) (w:=r) rfl N Q
 have en:(n:Int)+1=((n+1:Nat):Int):=om
 have U:=tY h1 (n+1) om
 rw[n1] at U
 obtain⟨t,J,n2,g2,o2,f2⟩:=dK n1 (rc (n+1) λ_=> aC 0)
 rw[J] at U
 have o:t.get B=some (.cells false [aC n,P,r]):=by rw[o2 _ om];exact g1
 have pt: ∀(b:H) (S:Nat) (F:Nat->V) (k:Nat) (v:V),k<n+1->eU (some (.cells false (rc (n+1) F))) b S k [v]=some (b.set S (some (.cells false (rc (n+1) λj=>if j=k then v else F j)))):=λb S F k v Y=>by rw[bT (by rw[iQ];exact Y),lH]
 obtain⟨h3,e3,n3,g3,o3⟩:=mV t (B+1) (rc (n+1) λj=>if j=n then aC 1 else aC 0)
 have l:h3.get B=some (.cells false [aC n,P,r]):=by rw[o3 _ om];exact o
 have a0:n<n+1:=om
 simp(disch:=omega)only[go_sem,rM,aE,bx,hB,e1,H.cell_of g1,en,U,H.cell_of o,g2,pt _ _ _ n _ a0,e3,H.cell_of l]
 have F3:Fr h h3:=⟨om,λk Y=>by rw[o3 _ om,o2 _ om,o1 _ om]⟩
 have a6: ∀i,i<=n->0<iW O (n-i) i/\iW O (n-i) i<=823543:=λi hi=>by
  refine⟨Mz _ _ λj h1 t=>(p.row om).1,mY (TY (m:=7) om _ _ λj h1 t=>by have:=(p.row (j:=j) om).2;omega) ?_⟩;exact mY (Nat.pow_le_pow_right om (show n-i<=7 by omega)) (by decide)
 refine aI (λq c b=> ∃(i:Nat),(∃g:Nat->V,c= [g 0,.ptr B 0,g 2,g 3,.sl (B+1) 0 (n+1) (.kn (n+1)),aC ((i:Int)- 1),g 6,g 7])/\i<=n/\b.get B=some (.cells false [aC n,P,r])/\
   b.get (B+1)=some (.cells false (rc (n+1) λj=>if i<=j then aC (iW O (n-j) j:Nat) else aC 0))/\B+1<b.next/\Fr h b/\q=i) n
  ⟨n,aB rfl,dT _,l,?_,om,F3,rfl⟩ ?_
 ·rw[g3]
  congr 2
  refine dJ λj hj=>?_
  by_cases e:j=n
  ·subst e;rw[bJ rfl,bJ (dT _),Nat.sub_self];rfl
  ·rw[bU e,bU om]
 clear g3 l o3 n3 e3 h3 F3 o g2 o2 n2 J U t f2
 rintro q c h4 ⟨i,⟨g,rfl⟩,hi,gB,gS,nx,F,Y⟩
 subst Y
 by_cases z:(0:Int)<=(q:Int)- 1
 case neg=>
  have Z:=bI z;obtain rfl:q=0:=om
  simp(disch:=omega)only[go_sem,Z];refine⟨B+1,rfl,om,nx,?_,F⟩;rw[gS];congr 2
 have Z:=cI z
 obtain⟨i,rfl⟩: ∃i,q=i+1:=⟨q- 1,om⟩
 have ei:((i+1:Nat):Int)- 1=(i:Int):=om
 have eI:(i:Int)+1=((i+1:Nat):Int):=om
 rw[ei] at Z ⊢
 have a:=iJ aO (i:=i) (by rw[iA,f.lo];omega) .undef []
 rw[oI zi (d:= []) (by rw[f.lo];omega)] at a
 obtain⟨a4,L,a5,a7,a3⟩:=(tO.mono F).shape n om om
 have co:h4.cell a4 (L+i)=some (wO.getD i .undef):=by rw[a3 i om,List.getD,dD om];rfl
 generalize wO.getD i .undef=vo at a co
 have lo:=a.lens
 rw[aS] at lo
 obtain⟨m,hm⟩:=exI ((O.getD i []).length)
 rw[hm] at lo
 have K:=p.row (j:=i) om
 rw[hm] at K
 have cS:h4.cell (B+1) (i+1)=some (aC ((iW O (n-(i+1)) (i+1):Nat):Int)):=by rw[tF gS om,bJ (dT _)]
 obtain⟨s,hs⟩:=exI (iW O (n-(i+1)) (i+1))
 rw[hs] at cS
 have A:=a6 (i+1) om
 rw[hs] at A
 have y:(1000000000000000000:Int).tdiv (m:Int)=((1000000000000000000/m:Nat):Int):=by
  rw[show (1000000000000000000:Int)=((1000000000000000000:Nat):Int) from rfl,Int.tdiv_eq_ediv_of_nonneg om];rfl
 have hq:100000000000000000<=1000000000000000000/m:=by
  rw[Nat.le_div_iff_mul_le om];omega
 have a9:1000000000000000000/m<=1000000000000000000:=Nat.div_le_self _ _
 have d2:decide (((1000000000000000000/m:Nat):Int)<(s:Int))=false:=bI om
 have x:(s:Int)*(m:Int)=((m*s:Nat):Int):=by rw[Int.mul_comm];rfl
 have a8:m*s<=7*823543:=Nat.mul_le_mul om A.2
 have a1:i<n+1:=om
 have a2:(m:Int)≠0:=om
 simp(disch:=omega)only[go_sem,Z,H.cell_of gB,a5.ixa,co,lo,eI,cS,y,a2,d2,x,gS,pt _ _ _ i _ a1]
 refine⟨i,om,i,aB rfl,om,gB,?_,om,?_,rfl⟩
 ·congr 2
  refine dJ λj hj=>?_
  by_cases e:j=i
  ·subst e
   rw[bJ rfl,bJ (dT _),show n-j=(n-(j+1))+1 by omega]
   unfold iW
   rw[hm,hs]
  ·rw[bU e]
   by_cases J:i+1<=j
   ·rw[bJ J,bJ om]
   ·rw[bU J,bU om]
 ·exact (F.bH om).set om _
def gH (l:List Nat)(a:Nat):Nat:=(l.filter λb=>decide (b<a)).length
theorem Zr (l:List Nat)(b a:Nat):gH (l++ [b]) a=gH l a+if b<a then 1 else 0:=by
 unfold gH;rw[List.filter_append,iV]
 by_cases h:b<a<;>simp [h]
theorem Mr: ∀{S:List Nat},S.Pairwise (· < ·)-> ∀t,t<S.length->gH S (S.getD t 0)=t
 | [],_,t,h=>by simp at h
 |x::S,hs,0,_=>by
  obtain⟨a,_⟩:=List.pairwise_cons.1 hs;unfold gH;rw[List.length_eq_zero_iff,List.filter_eq_nil_iff];intro b c;rcases vI.1 c with e|c
  ·subst e;simp
  ·have:=a b c
   simp;omega
 |x::S,hs,t+1,h=>by
  obtain⟨a,g⟩:=List.pairwise_cons.1 hs;have d:t<S.length:=by simpa using h
  have f:=Mr g t d;unfold gH at f ⊢;have e:(x::S).getD (t+1) 0=S.getD t 0:=by simp [List.getD]
  have i:x<S.getD t 0:=a _ (by rw[cW d];exact xG d);rw[e,List.filter_cons,bJ (by simpa using i),List.length_cons,f]
theorem TR {l:List Nat}(nd:l.Nodup){j m:Nat}(u:j<l.length)(i:m<l.length):gH l (l.getD m 0)=j↔m=l.idxOf ((yF l).getD j 0):=by
 have c:=oL l;have v:=c.length_eq;have e:(yF l).Nodup:=c.nodup_iff.2 nd
 have o:(yF l).Pairwise (· < ·):=by
  rw[MV] at e;exact ((Ta l).and e).imp λ⟨s,d⟩=>om
 have q: ∀a,gH l a=gH (yF l) a:=λa=>by
  unfold gH;exact ((c.filter _).length_eq).symm
 have r:l.getD m 0∈yF l:=c.mem_iff.2 (by rw[cW i];exact xG i);obtain⟨t,f,k⟩:=Ad.1 r;have g:(yF l).getD t 0=l.getD m 0:=by rw[cW f,k]
 rw[q,←g,Mr o t f];constructor
 ·rintro rfl
  rw[g,cW i,nd.idxOf_getElem]
 ·intro h
  have b:j<(yF l).length:=om
  have n:(yF l).getD j 0∈l:=c.mem_iff.1 (by rw[cW b];exact xG b)
  have d:l.getD m 0=(yF l).getD j 0:=by
   have p:=XK.2 n;rw[h,cW p,List.getElem_idxOf]
  rw[←g,cW f,cW b] at d;exact (List.getElem_inj e).1 d
theorem DN {α:Type}(f:Nat->List α){s:Nat}(d:α)(e:0<s): ∀(l:List Nat) (k:Nat),(∀a∈l,(f a).length=s)->k<l.length*s->
  k/s<l.length/\(l.flatMap f).getD k d=(f (l.getD (k/s) 0)).getD (k%s) d
 | [],k,_,h=>by simp at h
 |a::l,k,hl,h=>by
  have j:=hl a (by simp);rw[List.flatMap_cons]
  by_cases c:k<s
  ·rw[Nat.div_eq_of_lt c,Nat.mod_eq_of_lt c]
   refine⟨by simp,?_⟩;rw[List.getD,Dt om];simp [List.getD]
  ·have i:=DN f d e l (k-s) (λb n=>hl b (wI _ n)) (by rw[List.length_cons,Nat.succ_mul] at h;omega)
   have g:k/s=(k-s)/s+1:=by rw[Nat.div_eq_sub_div e om]
   have m:k%s=(k-s)%s:=Nat.mod_eq_sub_mod om;refine⟨by rw[g,List.length_cons];omega,?_⟩;rw[g,m,List.getD,Jg om,j];have:=i.2;simp only[List.getD,List.getElem?_cons_succ] at this ⊢;exact this
section
variable {n:Nat} {G:List Nat->Prop} {O:LN} {R:jJ}
theorem JN (f:dO n G)(c:aV n G O R){d i:Nat}{x:List Nat}(hi:i+(d+1)=n)(X:aY n x){k:Nat}(l:0<iW O d (i+1))(j:k<iW O (d+1) i):
  k/iW O d (i+1)<(jT O x i).length/\(yF (jT O x i)).getD (k/iW O d (i+1)) 0∈jT O x i/\
   (dM O R (d+1) i x).getD k []=(dM O R d (i+1) (fY O R x i ((yF (jT O x i)).getD (k/iW O d (i+1)) 0))).getD (k%iW O d (i+1)) []:=by
 have m:(yF (jT O x i)).length=(O.getD i []).length:=by rw[(oL _).length_eq];simp [jT]
 have g: ∀a,a∈yF (jT O x i)↔a∈jT O x i:=λa=>(oL _).mem_iff
 obtain⟨b,h⟩:=DN (λa=>dM O R d (i+1) (fY O R x i a)) [] l (yF (jT O x i)) k (λa e=>by
  obtain⟨_,_,_,_,_,_,Y,_⟩:=xS f c X om ((g a).1 e)
  exact (Ss f c d (i+1) _ om Y).2.2) (by rw[m];exact j)
 refine⟨by rw[←(oL _).length_eq];exact b,(g _).1 (by rw[cW b];exact xG b),h⟩
end
theorem Pj {h hh:H}{v:V}{l:List Nat}{b:Nat}(s:SI h v (zi l))(i:b=l.length): ∃id off,Sl v 1 b id off/\ ∀hh,Fr h hh-> ∀k,k<b->hh.cell id (off+k)=some (aC (l.getD k 0:Nat)):=by
 subst i;obtain⟨id,off,e,a,g⟩:=s.open;rw[aS] at e a g;refine⟨id,off,e,λhh f k c=>?_⟩;rw[f.cell (a om),g k c];congr 2;rw[zi,oI _ (d:=0) c]
theorem EA {v:V}{b:Nat}(h: ∀id off len cap,v= .sl id off len cap->b<=id):Ej (λq=>q<b) v:=by
 cases v with
 |sl id off len cap=>exact λa=>by have:=h _ _ _ _ rfl;omega
 |_=>trivial
theorem FQ {W:Nat->Prop}(vc:V)(n:Nat)(O:LN)(R:jJ)(G:List Nat->Prop)(h:H)(gc:GC W h vc n O R G)(S k0:Nat)(hS:S<h.next)
  (gS:h.get S=some (.cells false (rc (n+1) λj=> aC (iW O (n-j) j:Nat)))) (d0:k0<iW O n 0):
  Ev T 153 [vc,.sl S 0 (n+1) (.kn (n+1)),aC k0] h (λv h'=>PV (λq=>q<h.next) h' v ((dM O R n 0 (aX n)).getD k0 [])/\Fr h h'):=by
 obtain⟨vO,vR,e,sO,sR⟩:=gc.ch
 subst e
 refine dW nX rfl ?_
 have o:=gc.isc
 have n7:=gc.n7
 have hG:=gc.cY
 obtain⟨lO,g0,_,c6,f3,d8,c9,r,cO⟩:=fV sO
 obtain⟨lR,g4,_,c7,e9,b1,b4,d6,cR⟩:=kZ sR
 rw[iA,o.lo] at r cO
 rw[iA,o.lr] at d6 cR
 obtain⟨B,hB⟩:=exI h.next
 obtain⟨A,e1,n1,g1,o1,Z⟩:=dK hB [aC n,vO,vR]
 have c0: ∀hh,Fr A hh->hh.cell B 0=some (aC n):=λhh f=>by rw[f.cell om,H.cell_of g1];rfl
 have c1: ∀hh,Fr A hh->hh.cell B 1=some vO:=λhh f=>by rw[f.cell om,H.cell_of g1];rfl
 have c2: ∀hh,Fr A hh->hh.cell B 2=some vR:=λhh f=>by rw[f.cell om,H.cell_of g1];rfl
 have cS: ∀hh,Fr A hh-> ∀j,j<n+1->hh.cell S j=some (aC (iW O (n-j) j:Nat)):=λhh f j hj=>by
  rw[(Z.trans f).cell hS,tF gS hj]
 have bx:=bV h (v:= aC n) (u:=vO) (w:=vR) rfl c6 c7
 simp(disch:=omega)only[go_sem,nX,aE,bx,hB,e1,c0 A (Fr.refl _)]
 refine (Vk n A om).mono ?_
 rintro u h2 ⟨su,f2,hu⟩
 obtain⟨L,K⟩:=exI ((dM O R n 0 (aX n)).getD k0 [])
 rw[K]
 simp(disch:=omega)only[go_sem]
 refine aI (λk' a hh=> ∃(i k:Nat) (u:V) (x:List Nat),(∃g:Nat->V,a= [g 0,.sl S 0 (n+1) (.kn (n+1)),aC k,.ptr B 0,g 4,u,aC i,g 7,g 8,g 9,g 10,g 11,g 12,g 13,g 14,g 15,g 16])/\i<=n/\aY n x/\PV (λq=>q<h.next) hh u x/\k<iW O (n-i) i/\(dM O R (n-i) i x).getD k []=L/\Fr A hh/\k'=n-i) n
  ⟨0,k0,u,_,aB rfl,iB _,aY.one n,⟨su,EA λ_ _ _ _ e=>by have:=hu _ _ _ _ e;omega⟩,d0,K,f2,rfl⟩ ?_
 clear su f2 K d0 hu
 rintro k' a h3 ⟨i,k,u,x,⟨g,rfl⟩,hi,X,su,hk,K,F,rfl⟩
 by_cases b3:(i:Int)<(n:Int)
 case neg=>
  have d1:=bI b3;obtain rfl:i=n:=om
  simp(disch:=omega)only[go_sem,c0 h3 F,d1];rw[Nat.sub_self] at hk K;have:k=0:=by unfold iW at hk;omega
  subst this;unfold dM at K;have K:x=L:=K;subst K;exact⟨by rw[←hB];exact su,Z.trans F⟩
 have d1:=cI b3
 have p:i<n:=om
 obtain⟨d,hd⟩: ∃d,n-i=d+1:=⟨n-i- 1,om⟩
 have a8:n-(i+1)=d:=om
 rw[hd] at hk K
 have sp:0<iW O d (i+1):=Mz _ _ λj A h2=>(gc.row om).1
 obtain⟨a1,a2,a3⟩:=JN hG o (d:=d) om X sp hk
 rw[K] at a3
 have cs:=cS h3 F (i+1) om
 rw[a8] at cs
 obtain⟨s,hs⟩:=exI (iW O d (i+1))
 rw[hs] at sp a1 a2 a3 cs
 have e8:k%s<s:=Nat.mod_lt _ sp
 have nd:=BU hG o X p
 have la: ∀m,m<(jT O x i).length->(gH (jT O x i) ((jT O x i).getD m 0)=k/s↔m=(jT O x i).idxOf ((yF (jT O x i)).getD (k/s) 0)):=λm hm=>TR nd a1 hm
 obtain⟨l,q1,q2,q3,q4,q5,q6,_⟩:=xS hG o X p a2
 rw[q2] at la
 rw[q5] at a3 q6
 obtain⟨I,hI⟩:=exI (jT O x i)
 have lI:=Hx O x i
 have a9: ∀m,m<(O.getD i []).length->I.getD m 0=x.getD ((O.getD i []).getD m 0) 0:=λm hm=>by rw[←hI];exact acF hm
 rw[hI] at la lI a1
 obtain⟨skip,b6⟩: ∃q,k/s=q:=⟨_,rfl⟩
 rw[b6] at la a1
 have g2:=TY (O:=O) (m:=7) om d (i+1) λj A h2=>by have:=(gc.row (j:=j) om).2;omega
 have p7:7^d<=823543:=mY (Nat.pow_le_pow_right om (show d<=7 by omega)) (by decide)
 have g6:=TY (O:=O) (m:=7) om (d+1) i λj A h2=>by have:=(gc.row (j:=j) om).2;omega
 have p8:7^(d+1)<=823543:=mY (Nat.pow_le_pow_right om (show d+1<=7 by omega)) (by decide)
 have e3:(k:Int).tdiv (s:Int)=(skip:Int):=by rw[Int.tdiv_eq_ediv_of_nonneg om,←b6];rfl
 have e4:(k:Int).tmod (s:Int)=((k%s:Nat):Int):=by rw[Int.tmod_eq_emod_of_nonneg om];rfl
 have f0:(s:Int)≠0:=om
 have eI:(i:Int)+1=((i+1:Nat):Int):=om
 obtain⟨_,ci,si⟩:=cO i p
 obtain⟨_,cj,sj⟩:=cR i p
 have z: ∀hh,Fr A hh->hh.cell f3 (d8+i)=some (c9.getD i V.undef):=λhh f=>by rw[(Z.trans f).cell (by assumption)];exact ci
 have b9: ∀hh,Fr A hh->hh.cell e9 (b1+i)=some (b4.getD i V.undef):=λhh f=>by rw[(Z.trans f).cell (by assumption)];exact cj
 rw[oI zi (d:= []) (by rw[o.lo];exact p)] at si
 rw[oI (List.map zi) (d:= []) (by rw[o.lr];exact p)] at sj
 generalize c9.getD i V.undef=vo at z si
 generalize b4.getD i V.undef=vr at b9 sj
 obtain⟨lr,g3,_,_,f4,e2,b2,a4,cr⟩:=fV sj
 rw[iA,o.rl i p] at a4 cr
 have lo:=si.lens
 rw[aS] at lo
 obtain⟨m,hm⟩:=exI ((O.getD i []).length)
 have b5:=gc.row (j:=i) p
 have d5: ∀j,j<m->(O.getD i []).getD j 0<n:=λj hj=>Ky hG o p (bC om)
 rw[hm] at lo lI a9 a4 cr b5 q1
 obtain⟨f9,f8,c4,co⟩:=Pj (hh:=h) (b:=m) si hm.symm
 obtain⟨idx,f7,d9,cx⟩:=Pj (hh:=h) (b:=n) su.si X.len.symm
 simp(disch:=omega)only[go_sem,c0 h3 F,d1,eI,cs,e3,f0,e4]
 have g5: ∀q:Nat,((if l<q then l else 0:Nat):Int)=(if l<q then (l:Int) else 0):=λq=>by split<;>rfl
 refine aI (λk' a hh=> ∃(q:Nat),(∃g:Nat->V,a= [g 0,.sl S 0 (n+1) (.kn (n+1)),aC (k%s:Nat),.ptr B 0,g 4,u,aC i,aC skip,aC (if l<q then l else 0:Nat),aC q,g 10,g 11,g 12,g 13,g 14,g 15,g 16])/\q<=m/\Fr h3 hh/\k'=m-q) m
  ⟨0,aB rfl,iB _,Fr.refl h3,rfl⟩ ?_
 rintro k' a P ⟨q,⟨g,rfl⟩,hq,F4,rfl⟩
 have N:=F.trans F4
 by_cases c8:(q:Int)<(m:Int)
 case neg=>
  have d2:=bI c8;have a6:q=m:=om
  obtain⟨k1,ck,sk⟩:=cr l q1;rw[oI zi (d:= []) (by rw[o.rl i p];omega)] at sk;have d7: ∀hh,Fr A hh->hh.cell f4 (e2+l)=some (b2.getD l V.undef):=λhh f=>by rw[(Z.trans f).cell k1];exact ck
  generalize b2.getD l V.undef=vg at d7 sk;have Y:=hG.bF q4.mem;generalize (R.getD i []).getD l []=y at sk Y a3 q6;have e5:((if l<q then l else 0:Nat):Int)=(l:Int):=by rw[bJ om]
  simp(disch:=omega)only[go_sem,c1 P N,r.ixa,z P N,lo,d2,c2 P N,d6.ixa,b9 P N,e5,a4.ixa,d7 P N];refine (vT vg u y x P (by rw[Y.len];omega) (sk.mono (Z.trans N)) (su.si.mono F4) (λj hj=>by rw[X.len];exact Y.fX (by rw[Y.len] at hj;exact hj))).mono ?_;rintro v J ⟨s5,f5,f6⟩;simp(disch:=omega)only[go_sem];rw[eI];refine⟨n-(i+1),om,i+1,k%s,v,aM y x,aB rfl,om,q6,⟨s5,EA λ_ _ _ _ e=>by have:=f6 _ _ _ _ e;have:=N.next;omega⟩,by rw[a8,hs];exact e8,by rw[a8];exact a3.symm,N.trans f5,rfl⟩
 have d2:=cI c8
 have a6:q<m:=om
 obtain⟨b,hb⟩:=exI (I.getD q 0)
 have a7:=a9 q a6
 rw[hb] at a7
 simp(disch:=omega)only[go_sem,c1 P N,r.ixa,z P N,lo,d2]
 refine aI (λk' a hh=> ∃(t:Nat),(∃g:Nat->V,a= [g 0,.sl S 0 (n+1) (.kn (n+1)),aC (k%s:Nat),.ptr B 0,g 4,u,aC i,aC skip,aC (if l<q then l else 0:Nat),aC q,aC (gH (I.take t) b:Nat),aC t,g 12,g 13,g 14,g 15,g 16])/\t<=m/\Fr P hh/\k'=m-t) m
  ⟨0,aB rfl,iB _,Fr.refl P,rfl⟩ ?_
 rintro k' a J ⟨t,⟨g,rfl⟩,ht,F5,rfl⟩
 have Q:=N.trans F5
 by_cases a0:(t:Int)<(m:Int)
 case neg=>
  have d3:=bI a0;rw[Ro (show I.length<=t by omega)];have b0:=la q om;rw[hb] at b0
  by_cases c5:gH I b=skip
  ·have d4:decide (((gH I b:Nat):Int)=(skip:Int))=true:=cI om
   have b7:=b0.1 c5;simp(disch:=omega)only[go_sem,c1 J Q,r.ixa,z J Q,lo,d3,d4];rw[fJ q];refine⟨m-(q+1),om,q+1,?_,om,F4.trans F5,rfl⟩;rw[bJ om,←b7];exact aB rfl
  ·have d4:decide (((gH I b:Nat):Int)=(skip:Int))=false:=bI om
   have b7:q≠l:=λe=>c5 (b0.2 e)
   simp(disch:=omega)only[go_sem,c1 J Q,r.ixa,z J Q,lo,d3,d4];rw[fJ q];refine⟨m-(q+1),om,q+1,?_,om,F4.trans F5,rfl⟩
   have e6:(if l<q+1 then l else 0)=if l<q then l else 0:=by
    by_cases h:l<q
    ·rw[bJ h,bJ om]
    ·rw[bU h,bU om]
   rw[e6];exact aB rfl
 have d3:=cI a0
 have e7:t<m:=om
 have b8:=d5 t om
 have e0:=d5 q om
 have ct:=co J (Z.trans Q) t e7
 have cq:=co J (Z.trans Q) q a6
 have hc:=a9 t e7
 have step:I.take (t+1)=I.take t++ [I.getD t 0]:=eY 0 om
 generalize (O.getD i []).getD t 0=ot at ct b8 hc
 generalize (O.getD i []).getD q 0=oq at cq e0 a7
 have U:=cx J (F4.trans F5) ot b8
 have a5:=cx J (F4.trans F5) oq e0
 rw[←hc] at U
 rw[←a7] at a5
 generalize I.getD t 0=c at U step
 have ls:=Zr (I.take t) c b
 have ll:gH (I.take t) b<=t:=mY (List.length_filter_le _ _) (by rw[zO];omega)
 rw[←step] at ls
 by_cases c3:(c:Int)<(b:Int)
 ·have d4:=cI c3
  rw[bJ om] at ls
  simp(disch:=omega)only[go_sem,c1 J Q,r.ixa,z J Q,lo,d3,c4.ixa,ct,cq,d9.ixa,U,a5,d4]
  rw[show (t:Int)+1=((t+1:Nat):Int) from om,show ((gH (I.take t) b:Nat):Int)+1=((gH (I.take t) b+1:Nat):Int) from om,←ls]
  exact⟨m-(t+1),om,t+1,aB rfl,om,F5.bH om,rfl⟩
 ·have d4:=bI c3
  rw[bU om] at ls
  simp(disch:=omega)only[go_sem,c1 J Q,r.ixa,z J Q,lo,d3,c4.ixa,ct,cq,d9.ixa,U,a5,d4]
  rw[show (t:Int)+1=((t+1:Nat):Int) from om,show ((gH (I.take t) b:Nat):Int)=((gH (I.take t) b+0:Nat):Int) from om,←ls]
  exact⟨m-(t+1),om,t+1,aB rfl,om,F5.bH om,rfl⟩
section
variable {h:H} {v:V} {b:Nat} {W:Nat->Prop}
theorem agI {g:H}{d:V}{a:List V}{ls:LN}{x:List Nat}(o:dH h d 1 a g.next)(f:Fr g h)(y:a.length<1000000)(z:b<=g.next)(p:dZ (λq=>q<b∨bY d q) h a ls)(pv:PV (λq=>q<b∨bY d q) h v x):
  ∃h2,zK (h.new (.cells false [v])) 1 24 d (.sl h.next 0 1 (.kn 1))=some (.sl (h.next+1) 0 (a.length+1) (.un 1),h2)/\dH h2 (.sl (h.next+1) 0 (a.length+1) (.un 1)) 1 (a++ [v]) g.next/\dZ (λq=>q<b∨bY (.sl (h.next+1) 0 (a.length+1) (.un 1)) q) h2 (a++ [v]) (ls++ [x])/\Fr g h2/\h2.next=h.next+2:=by
 obtain⟨h2,r,u,t,n,w⟩:=Je (v:=v) o f y (bytes:=24) om
 have k:Fx (λq=>q<b∨bY d q) h h2:=⟨om,λq j h2=>w q j λid i m c e s=>h2 (.inr ⟨i,m,c,s▸e⟩)⟩
 have l: ∀q,q<h.next->(q<b∨bY (.sl (h.next+1) 0 (a.length+1) (.un 1)) q)->(q<b∨bY d q):=λq j h2=>by
  rcases h2 with h2|⟨_,_,_,e⟩
  ·exact .inl h2
  ·cases e;omega
 exact⟨h2,r,u,(dZ.go p k l).append (dZ.one (PV.go pv k l)),t,n⟩
theorem PV.aiM {h':H}{a:V}{d:List V}{sz c:Nat}{x:List Nat}(o:dH h a sz d b)(f:c<=h.next)(p:PV (λq=>q<h.next) h' v x):PV (λq=>q<c∨bY a q) h' v x:=
 p.kO λq _ e=>by
  rcases e with e|⟨_,_,_,e⟩
  ·omega
  ·exact (o.in _ _ _ _ e).1
theorem Qh {ws:List V}{L:LN}(o:dH h v 1 ws b)(p:dZ W h ws L): ∃id off,Sl v 1 L.length id off/\ ∀i,i<L.length->id<h.next/\h.cell id (off+i)=some (ws.getD i V.undef)/\PV W h (ws.getD i V.undef) (L.getD i []):=by
 have e:=aN.length p;obtain⟨id,off,c,a,d⟩:=SV.shape o.sv L.length om om;refine⟨id,off,c,λi hi=>⟨a om,?_,iJ p hi .undef []⟩⟩;rw[d i om,List.getD,dD om];rfl
theorem dZ.fr {h':H}{vs:List V}{ls:LN}(p:dZ W h vs ls)(f:Fr h h'):dZ W h' vs ls:=p.mono λ_ _ x=>⟨x.si.mono f,x.off⟩
theorem GC.Jf {a:V}{n:Nat}{O:LN}{R:jJ}{G:List Nat->Prop}(g:GC W h a n O R G):Ev T 95 [a] h (λv h'=>v= aC 0/\Fr h h'):=by
 obtain⟨c,sr⟩:=g.small;have:=Bd a (n:Int) (O.map zi) (R.map (List.map zi)) h g.ch (.inl (by have:=g.n7;omega)) c sr.out;rwa [g.chk] at this
theorem Tc (vc:V)(n:Nat)(O:LN)(R:jJ)(G:List Nat->Prop)(h:H)(j:GC W h vc n O R G)(L:LN)(hL:dM O R n 0 (aX n)=L):
  Ev T 115 [vc] h (λv h'=> ∃vl wl,v= .tup [vl,aC 0]/\dH h' vl 1 wl h.next/\dZ (λq=>q<h.next) h' wl L/\Fr h h'):=by
 have d:=j
 obtain⟨K,J,e,sO,sR⟩:=j.ch
 subst e
 refine dW xH rfl ?_
 have U:=j.isc
 obtain⟨a0,ll⟩:=dB j.cY U
 have a4:=jE j
 rw[hL] at a0 ll
 have o:K.one=true:=BX sO
 have p:J.one=true:=Up sR
 obtain⟨B,hB⟩:=exI h.next
 obtain⟨h1,e1,n1,g1,o1,t⟩:=dK hB [aC n,K,J]
 have bx:=bV h (v:= aC n) (u:=K) (w:=J) rfl o p
 have P: ∀a,Fr h1 a->a.row B 0 3=some [aC n,K,J]:=λa f=>aJ (by rw[f.get B om];exact g1)
 simp(disch:=omega)only[go_sem,xH,aE,bx,hB,e1,P h1 (Fr.refl _)]
 refine ((d.mono t).Jf).mono ?_
 rintro _ h2 ⟨rfl,f2⟩
 simp(disch:=omega)only[go_sem]
 refine bA (λhc=>(hc rfl).elim) (λ_=>?_)
 simp(disch:=omega)only[go_sem,P h2 f2]
 refine (Bv _ n O R G h2 (d.mono (t.trans f2))).mono ?_
 rintro _ x ⟨S,rfl,a1,k,gS,f3⟩
 have F3:=f2.trans f3
 have r: ∀a,Fr x a->a.cell S 0=some (aC (L.length:Int)):=λa f=>by
  rw[f.cell k,tF gS om,ll];rfl
 obtain⟨m,hm⟩:=exI L.length
 have d2:decide ((5040:Int)<(m:Int))=false:=bI om
 rw[hm] at r
 have n0:=j.n0
 simp(disch:=omega)only[go_sem,r x (Fr.refl _),d2]
 refine aI (λk' c a=> ∃(i:Nat) (vl:V) (wl:List V),(∃g:Nat->V,c= [g 0,.ptr B 0,g 2,g 3,g 4,.sl S 0 (n+1) (.kn (n+1)),g 6,vl,aC i,g 9,g 10,g 11])/\i<=m/\dH a vl 1 wl x.next/\dZ (λq=>q<B∨bY vl q) a wl (L.take i)/\Fr x a/\k'=m-i) m
  ⟨0,.aD, [],aB rfl,iB _,dH.aD _ _ _,trivial,Fr.refl _,rfl⟩ ?_
 rintro k' c s ⟨i,vl,wl,⟨g,rfl⟩,hi,ow,y,F,rfl⟩
 have N:=F3.trans F
 have a3:=N.next
 have a2:=F3.next
 have Z:=y.length
 rw[zO] at Z
 by_cases l:(i:Int)<(m:Int)
 case neg=>
  have Q:=bI l;simp(disch:=omega)only[go_sem,r s F,Q];rw[Ro om] at y;exact⟨_,wl,rfl,ow.le om,dZ.kO y λq _ hq=> .inl om,t.trans N⟩
 have Q:=cI l
 simp(disch:=omega)only[go_sem,r s F,Q,P s N]
 refine (FQ _ n O R G s (d.mono (t.trans N)) S i (by have:=F.next;omega) (by rw[F.get _ k];exact gS) om).mono ?_
 rintro v h5 ⟨A,f5⟩
 rw[hL] at A
 obtain⟨h6,a6,Y,p6,f6,n6⟩:=agI (ow.fr f5) (F.trans f5) om (b:=B) om (dZ.fr y f5) (PV.aiM ow om A)
 simp(disch:=omega)only[go_sem,cK _ (z:= .aD) A.fG.1 A.fG.2,a6]
 rw[fJ i]
 refine⟨m-(i+1),om,i+1,_,_,aB rfl,om,Y,?_,f6,rfl⟩
 rw[eY [] om]
 exact p6
end
theorem dZ.aiJ {W:Nat->Prop}{h:H}{ws:List V}{l:LN}(p:dZ W h ws l){i:Nat}(hi:i<l.length):SI h (ws.getD i V.undef) (zi (l.getD i [])):=by
 have a:=aN.length p;have:=(aN.get p i om hi).si;rwa [sD (d:=V.undef),sD (d:= []) hi] at this
theorem Yd {W W':Nat->Prop}(vc vd:V)(n:Nat)(O O':LN)(R R':jJ)(G G':List Nat->Prop)(h:H)(P:GC W h vc n O R G)(gd:GC W' h vd n O' R' G'):
  Ev T 78 [vc,vd] h (λv h'=> ∃vr O2 R2,v= .tup [vr,aC 0]/\GC (λq=>q<h.next) h' vr n O2 R2 (oV n R R')/\Fr h h'):=by
 obtain⟨vO,vR,rfl,oO,oR⟩:=P.shape
 obtain⟨uO,uR,rfl,pO,pR⟩:=gd.shape
 refine dW rI rfl ?_
 have n0:=P.n0
 have n7:=P.n7
 have hG:=P.cY
 have a7:=gd.cY
 obtain⟨B,hB⟩:=exI h.next
 obtain⟨h1,e1,n1,g1,o1,f1⟩:=dK hB [aC n,vO,vR]
 obtain⟨h2,e2,n2,g2,o2,f2⟩:=dK n1 [aC n,uO,uR]
 obtain⟨N,e3,n3,g3,o3,f3⟩:=dK n2 [aC 0,.aD,.aD]
 have F3:=(f1.trans f2).trans f3
 have gB: ∀a,Fr N a->a.get B=aF [aC n,vO,vR]:=λa f=>by rw[f.get B om,o3 B om,o2 B om];exact g1
 have gC: ∀a,Fr N a->a.get (B+1)=aF [aC n,uO,uR]:=λa f=>by rw[f.get (B+1) om,o3 _ om];exact g2
 have gA: ∀a,Fr N a->a.get (B+1+1)=aF [aC 0,.aD,.aD]:=λa f=>by rw[f.get _ om];exact g3
 have r3:=Fr.refl N
 simp(disch:=omega)only[go_sem,rI,aE,bV h (v:= aC n) (u:=vO) (w:=vR) rfl oO oR,hB,e1,bV h1 (v:= aC n) (u:=uO) (w:=uR) rfl pO pR,n1,e2,n2,e3,aJ (gB N r3),aJ (gC N r3)]
 refine (VY _ _ n O O' R R' G G' N (P.mono F3) (gd.mono F3)).mono ?_
 rintro _ r ⟨rfl,f4⟩
 simp(disch:=omega)only[go_sem]
 refine bA (λhc=>(hc rfl).elim) (λ_=>?_)
 have F4:=F3.trans f4
 have fb:Fr r (H.mk r.tr (r.next+6)):=(Fr.refl r).bH om
 simp(disch:=omega)only[go_sem,aJ (gB r f4),aJ (gC r f4)]
 refine (zA _ n O R G h _ P (F4.trans fb)).mono ?_
 rintro L h5 ⟨wA,y,pA,f5⟩
 have a2:=fb.trans f5
 have F5:=f4.trans a2
 have ec:dI uO uO=true/\dI uR uR=true:=by
  obtain⟨_,_,_,_,e,sO,_,_,sR,_,_⟩:=gd.cw;cases e;exact⟨SV.dI sO,SV.dI sR⟩
 simp(disch:=omega)only[go_sem,aJ (gC h5 F5),ec.1,ec.2]
 refine (zA _ n O' R' G' h h5 gd (F4.trans a2)).mono ?_
 rintro vb J ⟨wB,b9,pB,f6⟩
 have F6:=F5.trans f6
 have b0:=F3.trans F6
 have lA:=aN.length pA
 have lB:=aN.length pB
 have sA:=rT hG P.isc
 have sB:=rT a7 gd.isc
 have nn:n*n<=7*7:=Nat.mul_le_mul n7 n7
 obtain⟨A,hA⟩:=exI (bP R)
 obtain⟨C,hC⟩:=exI (bP R')
 have a0: ∀g∈A,aY n g:=λg hg=>hG.bF (bE P.isc (hA▸hg))
 have Z: ∀g∈C,aY n g:=λg hg=>a7.bF (bE gd.isc (hC▸hg))
 rw[hA] at pA lA sA
 rw[hC] at pB lB sB
 have c7: ∀a,Fr J a->SV a L 1 wA:=λa f=>y.sv.mono (f6.trans f)
 have b4: ∀a,Fr J a->SV a vb 1 wB:=λa f=>b9.sv.mono f
 have c5:bL L=some (aC (A.length:Int)):=by unfold bL;rw[SV.len y.sv (n:=A.length) om om];rfl
 have e4:bL vb=some (aC (C.length:Int)):=by unfold bL;rw[SV.len b9.sv (n:=C.length) om om];rfl
 have c6: ∀{i k},i<=A.length->k<=C.length->(MT A C i k).length<=50*49:=λ{i k} hi hk=>mY (ZH hi hk) (Nat.mul_le_mul om om)
 simp(disch:=omega)only[go_sem,c5]
 obtain⟨b,hb⟩:=exI J.next
 refine bQ (λvs a=> ∃(j:V) (o:List V),(∃g:Nat->V,vs= [g 0,g 1,.ptr B 0,.ptr (B+1) 0,.ptr (B+1+1) 0,aC 0,g 6,L,vb,j,g 10,g 11,g 12,g 13,g 14,g 15,g 16,g 17,g 18,g 19,g 20,g 21])/\dH a j 1 o J.next/\dZ (λq=>q<b∨bY j q) a o (OQ A C)/\Fr J a) ?_ ?_
 ·refine aI (λk' l a=> ∃(i:Nat) (j:V) (o:List V),(∃g:Nat->V,l= [g 0,g 1,.ptr B 0,.ptr (B+1) 0,.ptr (B+1+1) 0,aC 0,g 6,L,vb,j,g 10,g 11,g 12,g 13,L,aC (A.length:Int),aC i,g 17,g 18,g 19,g 20,g 21])/\i<=A.length/\dH a j 1 o J.next/\dZ (λq=>q<b∨bY j q) a o (MT A C i 0)/\Fr J a/\k'=A.length-i) A.length
   ⟨0,.aD, [],aB rfl,iB _,dH.aD _ _ _,trivial,Fr.refl _,rfl⟩ ?_
  rintro k' l a ⟨i,j,o,⟨g,rfl⟩,hi,t,pv,F,rfl⟩
  by_cases a8:(i:Int)<(A.length:Int)
  case neg=>
   have d1:=bI a8;obtain rfl:i=A.length:=om
   simp(disch:=omega)only[go_sem,d1];exact⟨j,o,aB rfl,t,by rw[YY] at pv;exact pv,F⟩
  have d1:=cI a8
  have U:i<A.length:=om
  obtain⟨d7,b8,c9,a9,a6⟩:=(c7 a F).shape A.length om om
  have cA:a.cell d7 (b8+i)=some (wA.getD i V.undef):=by rw[a6 i om,List.getD,dD om];rfl
  have LO:=dZ.aiJ pA U
  have P1:=a0 _ (bC (d:= []) U)
  generalize wA.getD i V.undef=vp at cA LO
  simp(disch:=omega)only[go_sem,d1,c9.ixa,cA,e4]
  refine aI (λk' l a=> ∃(k:Nat) (j:V) (o:List V),(∃g:Nat->V,l= [g 0,g 1,.ptr B 0,.ptr (B+1) 0,.ptr (B+1+1) 0,aC 0,g 6,L,vb,j,vp,g 11,g 12,g 13,L,aC (A.length:Int),aC i,g 17,vb,aC (C.length:Int),aC k,g 21])/\k<=C.length/\dH a j 1 o J.next/\dZ (λq=>q<b∨bY j q) a o (MT A C i k)/\Fr J a/\k'=C.length-k) C.length
   ⟨0,j,o,aB rfl,iB _,t,pv,F,rfl⟩ ?_
  clear t pv F cA a6 a9
  rintro k' l a1 ⟨k,j,o,⟨g,rfl⟩,hk,t,pv,F,rfl⟩
  by_cases b1:(k:Int)<(C.length:Int)
  case neg=>
   have d2:=bI b1;obtain rfl:k=C.length:=om
   simp(disch:=omega)only[go_sem,d2];rw[fJ i];exact⟨A.length-(i+1),om,i+1,j,o,aB rfl,om,t,by rw[YP A C U] at pv;exact pv,F,rfl⟩
  have d2:=cI b1
  have Y:k<C.length:=om
  obtain⟨c0,b7,d0,e5,c8⟩:=(b4 a1 F).shape C.length om om
  have cC:a1.cell c0 (b7+k)=some (wB.getD k V.undef):=by rw[c8 k om,List.getD,dD om];rfl
  have sq:=(dZ.aiJ pB Y).mono (b0.trans F)
  have Q1:=Z _ (bC (d:= []) Y)
  generalize wB.getD k V.undef=vq at cC sq
  simp(disch:=omega)only[go_sem,d2,d0.ixa,cC]
  have sp:=LO.mono (b0.trans F)
  refine (VC vp vq n _ _ a1 n0 om P1 Q1 sp sq).mono ?_
  rintro _ c1 ⟨w,rfl,pw,a4⟩
  have ll:=c6 (i:=i) (k:=k) om om
  have l9:=aN.length pv
  obtain⟨e9,a3,c3,d8,d9,f8⟩:=agI (x:=cU (A.getD i []) (C.getD k [])) (v:=w) (t.fr a4) (F.trans a4) om (b:=b) om (dZ.fr pv a4) (PV.aiM t (by have:=F.next;omega) pw)
  have wx:=SV.cT pw.si
  simp(disch:=omega)only[go_sem,cK c1 (z:= .aD) wx.1 wx.2.1,a3]
  rw[fJ k]
  exact⟨C.length-(k+1),om,k+1,_,_,aB rfl,om,c3,by rw[QA A C Y];exact d8,d9,rfl⟩
 rintro l a ⟨j,o,⟨g,rfl⟩,t,pv,F⟩
 have l9:=aN.length pv
 rw[Ui] at l9
 have f7:A.length*C.length<=49*49:=Nat.mul_le_mul om om
 have b6:=F6.trans F
 have e8:=F3.trans b6
 have Q:Fr a (H.mk a.tr (a.next+12)):=(Fr.refl a).bH om
 have g0:(H.mk r.tr (r.next+6)).next=r.next+6:=rfl
 have f9:r.next+6<=h5.next:=f5.next
 have f0:=f6.next
 have nF:=F.next
 have nb:(H.mk a.tr (a.next+12)).next=a.next+12:=rfl
 have FA:Fr h5 (H.mk a.tr (a.next+12)):=f6.trans (F.trans Q)
 obtain⟨vl,s,e0,Ap⟩:=dH.app (h:=H.mk a.tr (a.next+12)) (bytes:=24) (b:=r.next) ((y.fr FA).le om) om ((b4 a F).mono Q) (n:=A.length) (m:=C.length) om om om om
 have nq:=Ap.next
 have aA: ∀k,b<=k->dR L k:=λk hk e6 d6 m c e e2=>by have:=(y.in _ _ _ _ e).1;omega
 have b3:Fx (λq=>q<b) a s:=⟨om,λq h1 h2=>Ap.get q om (aA q om)⟩
 have d5:Fr r s:=Ap.fr r (a2.trans (f6.trans (F.trans Q))) (dT _)
 have K:Fr N s:=f4.trans d5
 have b2:Fr h s:=F3.trans K
 have cB:SW (s.cell B 0) (aC n)=true:=by rw[H.cell_of (gB s K)];simp [SW,dI]
 have d4:SP s j (OQ A C):=by
  refine dZ.LO (W:=λq=>q<b) (SV.fx t.sv (W:=λq=>q<b) ?_ b3) (aN.mono (λ_ _ p=>PV.go p (Fx.wide b3 λq h=> .inl h) λq _ h=> .inl h) pv)
  cases j with
  |sl id d6 m c=>exact λ(e:id<b)=>by have:=(t.in _ _ _ _ rfl).2.1;omega
  |_=>trivial
 have c2:SP s vl (A++C):=dZ.LO (W:=λ_=>False) Ap.own.sv (aN.append (aN.mono (λ_ _ p=>⟨p.si.mono b2,Ct _⟩) pA) (aN.mono (λ_ _ p=>⟨p.si.mono b2,Ct _⟩) pB))
 simp(disch:=omega)only[go_sem,H.cell_of (gB a b6),e0]
 refine⟨cB,?_⟩
 refine (Tm j vl n (OQ A C) (A++C) s n0 n7 (λg hg=>?_) (λg hg=>(oD.1 hg).elim (a0 g) (Z g)) (by rw[Ui];omega) (by rw[iV];omega) d4 c2).mono ?_
 ·obtain⟨p,hp,q,s,rfl⟩:=GH.1 hg
  exact qV (a0 p hp) (Z q s)
 rintro _ hr ⟨D,rfl,hD,bd,fr⟩
 obtain⟨xO,xR,O2,R2,gD,a5⟩:=bd.ex
 obtain⟨_,c4,d3⟩:=a5.one
 have e7:=fr.next
 have b5:=K.trans fr
 obtain⟨hs,es,ns,gs,os⟩:=mV hr (B+1+1) [aC n,xO,xR]
 simp(disch:=omega)only[go_sem,aJ gD,cF hr (B+1+1) 0 (v:= aC n) (u:=xO) (w:=xR) rfl c4 d3,gA hr b5,cH,es,aJ gs]
 have q3:=K.next
 refine⟨_,O2,R2,rfl,?_,⟨om,λq s=>by rw[os q om,b5.get q om];exact F3.get q s⟩⟩
 have e1:(λx=>x∈OQ A C)=(λx=> ∃p,p∈A/\ ∃q,q∈C/\x=cU p q):=funext λx=>propext GH
 have e2:(λx=>x∈A++C)=(λx=>x∈A∨x∈C):=funext λx=>propext oD
 rw[e1,e2] at a5
 unfold oV
 rw[hA,hC]
 exact a5.go ⟨om,λq h1 h2=>os q λe=>h2 (.inl om)⟩ λq _ h=> .inl om
theorem yB {W:Nat->Prop}(Y:V)(n:Nat)(O:LN)(R:jJ)(G:List Nat->Prop)(h:H)(f:GC W h Y n O R G):
  Ev T 65 [Y] h (λv h'=>v= aC (iW O n 0:Nat)/\Fr h h'):=by
 obtain⟨s,U,r,a1,rfl,A,oO,Z,sR,oR,aR⟩:=f.cw
 refine dW Ep rfl ?_
 have o:=(SV.cT A).2.1
 have q:=(SV.cT sR).2.1
 have d:=f.isc
 have n7:=f.n7
 have a0:=jE f
 have lO:=aN.length Z
 rw[d.lo] at lO
 obtain⟨B,hB⟩:=exI h.next
 obtain⟨N,e1,n1,g1,o1,F⟩:=dK hB [aC n,s,U]
 have x:bL s=some (aC n):=by unfold bL;rw[SV.len A (n:=n) om om];rfl
 obtain⟨L,p,y,l,cO⟩:=SV.shape A n om om
 simp(disch:=omega)only[go_sem,Ep,aE,bV h (v:= aC n) (u:=s) (w:=U) rfl o q,hB,e1,H.cell_of g1,x]
 refine aI (λk' b t=> ∃(i a:Nat),(∃g:Nat->V,b= [g 0,g 1,g 2,aC a,g 4,s,aC n,aC i,g 8])/\i<=n/\a*iW O (n-i) i=iW O n 0/\t=N/\k'=n-i) n
  ⟨0,1,aB rfl,iB _,by rw[Nat.one_mul];rfl,rfl,rfl⟩ ?_
 rintro k' b t ⟨i,a,⟨g,rfl⟩,hi,e,rfl,rfl⟩
 by_cases k:(i:Int)<(n:Int)
 case neg=>
  have J:=bI k;obtain rfl:i=n:=om
  simp(disch:=omega)only[go_sem,J];rw[Nat.sub_self] at e;have:iW O 0 i=1:=rfl;rw[this,tW] at e;exact⟨by rw[e],F⟩
 have J:=cI k
 have c:i<n:=om
 have K:=aN.get Z i om (by rw[d.lo];exact c)
 rw[show O[i]'(by rw[d.lo];exact c)=O.getD i [] from sD _] at K
 have P:t.cell L (p+i)=some (r[i]'om):=by
  rw[F.cell (l om),cO i om,dD om]
 generalize r[i]'om=vo at K P
 have z:=(K.si.mono F).lens
 rw[aS] at z
 obtain⟨r1,r2⟩:=f.row c
 have st:iW O (n-i) i=(O.getD i []).length*iW O (n-(i+1)) (i+1):=by
  rw[show n-i=(n-(i+1))+1 by omega];rfl
 have pos:=Mz (O:=O) (n-(i+1)) (i+1) (λj N h2=>(f.row om).1)
 obtain⟨m,hm⟩:=exI ((O.getD i []).length)
 rw[st,←Nat.mul_assoc,hm] at e
 rw[hm] at z
 have bd:a*m<=iW O n 0:=by rw[←e];exact Nat.le_mul_of_pos_right _ pos
 have Q:(a:Int)*(m:Int)=((a*m:Nat):Int):=rfl
 obtain⟨w,hw⟩:=exI (a*m)
 rw[hw] at Q bd e
 simp(disch:=omega)only[go_sem,J,y.ixa,P,z,Q]
 rw[fJ i]
 exact⟨n-(i+1),om,i+1,w,aB rfl,om,e,rfl⟩
theorem Xh {W:Nat->Prop}(c:V)(n:Nat)(O:LN)(R:jJ)(G:List Nat->Prop)(h:H)(a:GC W h c n O R G):
  Ev T 74 [c] h (λv h'=>v= .tup [aC (iW O n 0:Nat),aC 0]/\Fr h h'):=by
 obtain⟨e,d,rfl,l,p⟩:=a.shape
 refine dW Bw rfl ?_
 have k:=jE a
 obtain⟨B,f⟩:=exI h.next
 obtain⟨g,o,r,i,s,b⟩:=dK f [aC n,e,d]
 simp(disch:=omega)only[go_sem,Bw,aE,bV h (v:= aC n) (u:=e) (w:=d) rfl l p,f,o,aJ i]
 refine (YV _ n O R G g (a.mono b)).mono ?_
 rintro _ q ⟨rfl,m⟩
 have j:decide ((5040:Int)<((iW O n 0:Nat):Int))=false:=bI om
 simp(disch:=omega)only[go_sem,j,eq_self,decide_true]
 exact b.trans m
abbrev jZ:=LN×jJ
def yE (n:Nat)(w:Bool)(c d:jZ):List Nat->Prop:=oV n d.2 (if w then c.2 else d.2)
structure lX (n:Nat)(w:Bool)(c:jZ)(l:List jZ):Prop where
 hd:l[0]? =some c
 st: ∀k d e,l[k]? =some d->l[k+1]? =some e->aV n (yE n w c d) e.1 e.2/\e≠d
 en: ∀d,l[l.length- 1]? =some d->aV n (yE n w c d) d.1 d.2
theorem lX.uniq {n:Nat}{w:Bool}{c:jZ}{l m:List jZ}(a:lX n w c l)(b:lX n w c m):l=m:=by
 have one: ∀{d e f:jZ},aV n (yE n w c d) e.1 e.2->aV n (yE n w c d) f.1 f.2->e=f:=λh k=>by
  obtain⟨q,g⟩:=h.uniq k;exact Prod.ext q g
 have y:0<l.length:=by
  cases l with
  |nil=>exact absurd a.hd (by simp)
  |cons x r=>simp
 have lb:0<m.length:=by
  cases m with
  |nil=>exact absurd b.hd (by simp)
  |cons x r=>simp
 have p: ∀k,(k<l.length↔k<m.length)/\l[k]? =m[k]? :=by
  intro k
  induction k with
  |zero=>exact⟨⟨λ_=>lb,λ_=>y⟩,by rw[a.hd,b.hd]⟩
  |succ k ih=>
   obtain⟨j,o⟩:=ih
   have i: ∀{l m:List jZ},lX n w c l->lX n w c m->(k<l.length↔k<m.length)->l[k]? =m[k]? ->k+1<l.length->k+1<m.length/\l[k+1]? =m[k+1]? :=λ{l m} a b j o h=>by
    have u:k<l.length:=om
    have z:=j.1 u;have s:=a.st k _ _ (dD u) (dD h);have v:m[k]? =some l[k]:=by rw[←o];exact dD u
    by_cases g:k+1<m.length
    ·have t:=b.st k _ _ v (dD g)
     exact⟨g,by rw[dD h,dD g,one s.1 t.1]⟩
    ·have t:=b.en l[k] (by rw[show m.length- 1=k by omega];exact v)
     exact absurd (one s.1 t) s.2
   by_cases h:k+1<l.length
   ·obtain⟨q,g⟩:=i a b j o h
    exact⟨⟨λ_=>q,λ_=>h⟩,g⟩
   ·have g: ¬k+1<m.length:=λg=>h (i b a j.symm o.symm g).1
    exact⟨⟨λx=>absurd x h,λx=>absurd x g⟩,by rw[List.getElem?_eq_none om,List.getElem?_eq_none om]⟩
 exact List.ext_getElem? λk=>(p k).2
theorem GL {G K:List Nat->Prop}{L M:LN}(E:cZ G L)(F:cZ K M)(h: ∀x,K x->G x)(i:M.length=L.length)(x:List Nat):G x↔K x:=by
 refine⟨λg=>?_,h x⟩;have f: ∀y∈M,y∈L:=λy a=>(E.mem y).2 (h y ((F.mem y).1 a))
 refine (F.mem x).1 ?_;have c:=(E.mem x).2 g;apply Jj;intro d
 have b: ∀y∈M,y∈L.erase x:=λy a=>by
  have ne:y≠x:=λe=>by subst e;exact d a
  exact (List.mem_erase_of_ne ne).2 (f y a)
 have:=List.Nodup.length_le_of_subset F.nodup b;rw[List.length_erase_of_mem c] at this;have:=Rl c;omega
section
variable {n:Nat} {w:Bool} {c d e:jZ} {Gc Gd:List Nat->Prop}
structure Dx (n:Nat)(w:Bool)(Gc:List Nat->Prop)(d:jZ)(Gd:List Nat->Prop):Prop where
 cY:dO n Gd
 isc:aV n Gd d.1 d.2
 le: ∀x,Gd x->Gc x
 norm:w=true-> ∀y b,Gd y->Gc b->Gd (aT y b)
theorem Dx.first (a:dO n Gc)(g:aV n Gc c.1 c.2):Dx n w Gc c Gc:=
 ⟨a,g,λ_ h=>h,λ_ y b i f=>a.mul (a.mul (a.inv f) i) f⟩
theorem Dx.nx (g:dO n Gc)(f:aV n Gc c.1 c.2)(x:Dx n w Gc d Gd):dO n (yE n w c d)/\(∀y,yE n w c d y->Gd y)/\(w=true-> ∀y b,yE n w c d y->Gc b->yE n w c d (aT y b)):=by
 unfold yE
 cases w with
 |false=>exact⟨oV.cY x.cY x.cY x.isc x.isc,λy a=>oV.self x.cY x.isc a,λh=>by cases h⟩
 |true=>exact⟨oV.cY x.cY g x.isc f,λy a=>oV.le x.cY g x.isc f (x.norm rfl) a,λ_ y b a i=>oV.norm x.cY g x.isc f a i⟩
theorem Dx.next (i:dO n Gc)(a:aV n Gc c.1 c.2)(x:Dx n w Gc d Gd)(g:aV n (yE n w c d) e.1 e.2):Dx n w Gc e (yE n w c d):=by
 obtain⟨b,h,f⟩:=x.nx i a;exact⟨b,g,λy j=>x.le y (h y j),f⟩
theorem Dx.size (q:dO n Gc)(p:aV n Gc c.1 c.2)(x:Dx n w Gc d Gd)(i:aV n (yE n w c d) e.1 e.2):iW e.1 n 0<=iW d.1 n 0/\(iW e.1 n 0=iW d.1 n 0->e=d):=by
 obtain⟨m,j,_⟩:=x.nx q p;obtain⟨k,l⟩:=dB x.cY x.isc;obtain⟨f,g⟩:=dB m i;refine⟨?_,λh=>?_⟩
 ·rw[←l,←g]
  exact List.Nodup.length_le_of_subset f.nodup λy o=>(k.mem y).2 (j y ((f.mem y).1 o))
 ·have:=GL k f j (by rw[l,g,h])
  obtain⟨a,b⟩:=(i.congr λy=>(this y).symm).uniq x.isc;exact Prod.ext a b
structure Qi (n:Nat)(w:Bool)(c:jZ)(l:List jZ)(d:jZ):Prop where
 hd:l= []->d=c
 h0:l≠ []->l[0]? =some c
 st: ∀k d e,l[k]? =some d->l[k+1]? =some e->aV n (yE n w c d) e.1 e.2/\e≠d
 la: ∀e,l[l.length- 1]? =some e->aV n (yE n w c e) d.1 d.2
theorem Qi.start:Qi n w c [] c:=⟨λ_=>rfl,λh=>absurd rfl h,λk d e h=>by simp at h,λe h=>by simp at h⟩
theorem Qi.push {l:List jZ}(s:Qi n w c l d)(i: ∀e,l[l.length- 1]? =some e->d≠e)(o:aV n (yE n w c d) e.1 e.2):Qi n w c (l++ [d]) e:=by
 refine⟨λh=>by simp at h,λ_=>?_,λk a b f g=>?_,λa f=>?_⟩
 ·cases l with
  |nil=>rw[s.hd rfl];rfl
  |cons x r=>have:=s.h0 (by simp);simpa using this
 ·by_cases m:k+1<l.length
  ·rw[Dt m] at g
   rw[Dt om] at f;exact s.st k a b f g
  ·have p:k+1=l.length:=by
    have:=(vJ.1 g).1;simp at this;omega
   rw[Dt om] at f;rw[p,Jg om,Nat.sub_self] at g;have g:d=b:=by simpa using g
   subst g;have j:l[l.length- 1]? =some a:=by rw[show l.length- 1=k by omega];exact f
   exact⟨s.la a j,i a j⟩
 ·have:a=d:=by
   rw[iV,show l.length+ [d].length- 1=l.length from rfl,Jg om,Nat.sub_self] at f;simpa using f.symm
  rw[this];exact o
theorem Qi.done {l:List jZ}(s:Qi n w c l d)(b:l≠ [])(h:l[l.length- 1]? =some d):lX n w c l:=
 ⟨s.h0 b,s.st,λe a=>by rw[h] at a;cases a;exact s.la d h⟩
end
def NxF (n:Nat)(w:Bool)(c:jZ)(h:H)(F:Nat)(caps:List V):Prop:=
 ∀(hh:H) (vd:V) (W:Nat->Prop) (d:jZ) (Gd:List Nat->Prop),Fr h hh->GC W hh vd n d.1 d.2 Gd->
  Ev T F (vd::caps) hh (λv h'=> ∃(p:V×V) (e:jZ),v= .agg [aC n,p.1,p.2]/\GC (λq=>q<hh.next) h' v n e.1 e.2 (yE n w c d)/\Fr hh h')
theorem XN (n:Nat)(c:jZ)(h:H):NxF n false c h 77 []:=by
 intro x vd W d A _ t;obtain⟨s,o,rfl,oO,Y⟩:=t.shape;refine dW uV rfl ?_;obtain⟨B,L⟩:=exI x.next;obtain⟨h1,U,J,O,Z,f1⟩:=dK L [aC n,s,o];obtain⟨i,e2,n2,g2,K,f2⟩:=dK J [aC 0,.aD,.aD];have r:i.get B=aF [aC n,s,o]:=by rw[K B om];exact O
 simp(disch:=omega)only[go_sem,uV,aE,bV x (v:= aC n) (u:=s) (w:=o) rfl oO Y,L,U,J,e2,aJ r];have F2:=f1.trans f2;refine (Yd _ _ n d.1 d.1 d.2 d.2 A A i (t.mono F2) (t.mono F2)).mono ?_;rintro _ N ⟨vr,P,R2,rfl,G,p⟩;obtain⟨f,a,rfl,e,g⟩:=G.shape;have n3:=p.next;obtain⟨S,y⟩:=exI N.next;obtain⟨F,R,n4,g4,j,f4⟩:=dK y [aC 0,.aD,.aD];obtain⟨m,e5,n5,g5,k⟩:=mV F S [aC n,f,a];have l:m.get (B+1)=aF [aC 0,.aD,.aD]:=by rw[k _ om,j _ om,p.get _ om];exact g2
 obtain⟨h6,Q,n6,g6,z⟩:=mV m (B+1) [aC n,f,a];simp(disch:=omega)only[go_sem,y,R,cF F S 0 (v:= aC n) (u:=f) (w:=a) rfl e g,g4,cH,e5,aJ g5,cF m (B+1) 0 (v:= aC n) (u:=f) (w:=a) rfl e g,l,Q,aJ g6];refine⟨(f,a),(P,R2),rfl,?_,⟨om,λq hq=>by rw[z q om,k q om,j q om,p.get q om,K q om,Z q om]⟩⟩;refine G.go ⟨om,λq a0 b=>?_⟩ λq _ (h:q<B)=>by show q<i.next;omega
 have b: ¬q<i.next:=b;rw[z q om,k q om,j q om]
theorem QZ {W0:Nat->Prop}(n:Nat)(c:jZ)(h:H)(l:Nat)(b a:V)(Y:List Nat->Prop)(o:h.get l=aF [aC n,b,a])(r:l<h.next)(Z:GC W0 h (.agg [aC n,b,a]) n c.1 c.2 Y):NxF n true c h 81 [.ptr l 0]:=by
 intro J vd W d Gd y Q;obtain⟨G,z,rfl,oO,oR⟩:=Q.shape;refine dW yP rfl ?_;obtain⟨B,P⟩:=exI J.next;have nh:=y.next;obtain⟨h1,e1,N,g1,o1,f1⟩:=dK P [aC n,G,z];obtain⟨e,e2,n2,g2,O,f2⟩:=dK N [aC 0,.aD,.aD];have F:e.get B=aF [aC n,G,z]:=by rw[O B om];exact g1
 have F2:=f1.trans f2;have x:e.get l=aF [aC n,b,a]:=by rw[(y.trans F2).get l r];exact o
 simp(disch:=omega)only[go_sem,yP,aE,bV J (v:= aC n) (u:=G) (w:=z) rfl oO oR,P,e1,N,e2,aJ F,aJ x];refine (Yd _ _ n d.1 c.1 d.2 c.2 Gd Y e (Q.mono F2) (Z.mono (y.trans F2))).mono ?_;rintro _ h3 ⟨vr,O2,R2,rfl,U,A⟩;obtain⟨k,g,rfl,j,f⟩:=U.shape;have n3:=A.next;obtain⟨S,K⟩:=exI h3.next;obtain⟨L,e4,n4,g4,p,f4⟩:=dK K [aC 0,.aD,.aD];obtain⟨m,e5,n5,g5,s⟩:=mV L S [aC n,k,g];have t:m.get (B+1)=aF [aC 0,.aD,.aD]:=by rw[s _ om,p _ om,A.get _ om];exact g2
 obtain⟨h6,e6,n6,g6,R⟩:=mV m (B+1) [aC n,k,g];simp(disch:=omega)only[go_sem,K,e4,cF L S 0 (v:= aC n) (u:=k) (w:=g) rfl j f,g4,cH,e5,aJ g5,cF m (B+1) 0 (v:= aC n) (u:=k) (w:=g) rfl j f,t,e6,aJ g6];refine⟨(k,g),(O2,R2),rfl,?_,⟨om,λq hq=>by rw[R q om,s q om,p q om,A.get q om,O q om,o1 q om]⟩⟩;refine U.go ⟨om,λq a0 i=>?_⟩ λq _ (h:q<B)=>by show q<e.next;omega
 have i: ¬q<e.next:=i;rw[R q om,s q om,p q om]
def Mj (n:Nat)(ls:List (V×V)):List V:=ls.flatMap λp=> [aC n,p.1,p.2]
theorem Wd (n:Nat)(a b:List (V×V)):Mj n (a++b)=Mj n a++Mj n b:=by unfold Mj;rw[List.flatMap_append]
theorem jP (n:Nat)(ls:List (V×V)):(Mj n ls).length=ls.length*3:=by
 induction ls with
 |nil=>rfl
 |cons a r ih=>
  unfold Mj at ih ⊢;rw[List.flatMap_cons,iV,ih,List.length_cons,List.length_cons,List.length_cons,List.length_cons,List.length_nil];omega
theorem XL {n:Nat}: ∀{ls:List (V×V)} {i:Nat} (hi:i<ls.length),(Mj n ls)[i*3]? =some (aC n)/\(Mj n ls)[i*3+1]? =some ls[i].1/\(Mj n ls)[i*3+2]? =some ls[i].2
 |p::r,0,_=>⟨rfl,rfl,rfl⟩
 |p::r,i+1,hi=>by
  have:=XL (n:=n) (ls:=r) (i:=i) (by simpa using hi);have e:Mj n (p::r)= [aC n,p.1,p.2]++Mj n r:=rfl;rw[e];refine⟨?_,?_,?_⟩
  ·rw[Jg (by show 3<=(i+1)*3;omega)]
   rw[show (i+1)*3- [aC n,p.1,p.2].length=i*3 from by show (i+1)*3- 3=i*3;omega];exact this.1
  ·rw[Jg (by show 3<=(i+1)*3+1;omega)]
   rw[show (i+1)*3+1- [aC n,p.1,p.2].length=i*3+1 from by show (i+1)*3+1- 3=i*3+1;omega];exact this.2.1
  ·rw[Jg (by show 3<=(i+1)*3+2;omega)]
   rw[show (i+1)*3+2- [aC n,p.1,p.2].length=i*3+2 from by show (i+1)*3+2- 3=i*3+2;omega];exact this.2.2
def YE (C1 P id:Nat)(vl:V)(q:Nat):Prop:=q=C1∨q=P∨q=id∨bY vl q
def GD (W:Nat->Prop)(h:H)(n:Nat)(w:Bool)(Gc:List Nat->Prop)(p:V×V)(e:jZ):Prop:= ∃G,GC W h (.agg [aC n,p.1,p.2]) n e.1 e.2 G/\Dx n w Gc e G
theorem GD.go {W W':Nat->Prop}{h h':H}{n:Nat}{w:Bool}{a:List Nat->Prop}{p:V×V}{e:jZ}(g:GD W h n w a p e)(f:Fx W h h')(c: ∀q,q<h.next->W' q->W q):GD W' h' n w a p e:=by
 obtain⟨G,b,x⟩:=g;exact⟨G,b.go f c,x⟩
structure VO (h0 hh:H)(C1 C2 K P id:Nat)(r:fK)(f:V)(n:Nat)(w:Bool)(Gc:List Nat->Prop)(l:List jZ)(d:jZ):Prop where
 ex: ∃vl ls p,hh.get P=aF [vl]/\dH hh vl 3 (Mj n ls) 0/\(∀q,bY vl q->h0.next<=q/\q≠C1/\q≠C2/\q≠K/\q≠P/\q≠id/\q<hh.next)/\aN (GD (YE C1 P id vl) hh n w Gc) ls l/\hh.get C1=aF [aC n,p.1,p.2]/\GD (YE C1 P id vl) hh n w Gc p d
 k:hh.get K=aF [.fn 65 [] []]
 c2:hh.get C2=aF [f]
 gr:hh.get id=some (.loop r)
 fr:Fr h0 hh
 nx:id<hh.next
def muS (n:Nat)(l:List jZ):Nat:=match l[l.length- 1]? with|none=>6000|some e=>iW e.1 n 0
theorem aaE (n:Nat)(l:List jZ)(d:jZ):muS n (l++ [d])=iW d.1 n 0:=by
 unfold muS
 have:(l++ [d])[(l++ [d]).length- 1]? =some d:=by
  rw[iV,show l.length+ [d].length- 1=l.length from rfl,Jg om,Nat.sub_self];rfl
 rw[this]
theorem VO.at {g hh:H}{k h K P id:Nat}{r:fK}{f:V}{n:Nat}{w:Bool}{b:List Nat->Prop}{l:List jZ}{d:jZ}(j:VO g hh k h K P id r f n w b l d){i:Nat}{e:jZ}(c:l[i]? =some e): ∃W p,GD W hh n w b p e:=by
 obtain⟨o,m,p,_,_,_,a,_⟩:=j.ex;obtain⟨hi,rfl⟩:=vJ.1 c;have:=aN.length a;exact⟨_,_,aN.get a i om hi⟩
theorem SH (R:H)(f y K P id:Nat)(r:fK)(F:Nat)(m:List V)(n:Nat)(w:Bool)(c:jZ)(U:List Nat->Prop)(hG:dO n U)(hc:aV n U c.1 c.2)(nx:NxF n w c R F m)(B:R.next<=f)(ho:f<id/\y<id/\K<id/\P<id)(J:f≠y/\f≠K/\f≠P)(h:H)(j0:VO R h f y K P id r (.fn F [] m) n w U [] c)(Q:H->Prop)
  (hy: ∀l d hh (p:V×V),VO R hh f y K P id r (.fn F [] m) n w U l d->hh.get f=aF [aC n,p.1,p.2]->Qi n w c l d->Ey T id [.agg [aC n,p.1,p.2]] hh (λv h'=>v= .bool true/\VO R h' f y K P id r (.fn F [] m) n w U (l++ [d]) d/\(∀e,l[l.length- 1]? =some e->d≠e)∨v= .bool false/\Q h')):
  Ev T 120 [.yl id,.ptr f 0,.ptr y 0] h (λ_ h'=>Q h'):=by
 refine dW vF rfl ?_
 simp(disch:=omega)only[go_sem,vF,aE]
 refine aI (λk' z hh=> ∃(l:List jZ) (d:jZ),(∃g:Nat->V,z= [.yl id,.ptr f 0,.ptr y 0,g 3])/\VO R hh f y K P id r (.fn F [] m) n w U l d/\Qi n w c l d/\k'=muS n l) 6000
  ⟨[],c,aB rfl,j0,Qi.start,rfl⟩ ?_
 rintro k' z hh ⟨l,d,⟨g,rfl⟩,j,s,rfl⟩
 obtain⟨vl,ls,p,gP,ow,bl,al,Z,gd⟩:=j.ex
 simp(disch:=omega)only[go_sem,aJ Z]
 refine (hy l d hh p j Z s).mono ?_
 rintro _ o (⟨rfl,t,A⟩|⟨rfl,q2⟩)
 case inr=>
  simp(disch:=omega)only[go_sem];exact q2
 obtain⟨N,a2,p2,a4,a8,L,a1,a0,a5⟩:=t.ex
 obtain⟨Gd,O,dx⟩:=a5
 obtain⟨_,b3,b5⟩:=O.one
 simp(disch:=omega)only[go_sem,H.cell_of t.c2,aJ a0]
 refine (nx o _ _ d Gd t.fr O).mono ?_
 rintro _ h3 ⟨Y,e,rfl,G,f3⟩
 obtain⟨_,b1,a3⟩:=G.one
 have n3:=f3.next
 have b2:=t.nx
 have a7:h3.get f=aF [aC n,p2.1,p2.2]:=by rw[f3.get f om];exact a0
 obtain⟨h4,e4,n4,g4,o4⟩:=mV h3 f [aC n,Y.1,Y.2]
 simp(disch:=omega)only[go_sem,cF h3 f 0 (v:= aC n) (u:=Y.1) (w:=Y.2) rfl b1 a3,a7,cH,e4]
 have hE:=G.isc
 have b6:=jE O
 have b0:muS n (l++ [d])<muS n l:=by
  rw[aaE];unfold muS
  cases hl:l[l.length- 1]? with
  |none=>show iW d.1 n 0<6000;omega
  |some a=>
   obtain⟨_,_,Ga,b4,a9⟩:=j.at hl;have:=a9.size hG hc (s.la a hl);have ne:iW d.1 n 0≠iW a.1 n 0:=λh=>A a hl (this.2 h)
   show iW d.1 n 0<iW a.1 n 0;omega
 have fx:Fx (YE f P id N) o h4:=⟨om,λq B o=>by rw[o4 q λe=>o (.inl e),f3.get q B]⟩
 have W: ∀q,q<o.next->q≠f->h4.get q=o.get q:=λq B o=>by rw[o4 q o,f3.get q B]
 refine⟨_,b0,l++ [d],e,aB rfl,⟨⟨N,a2,Y,by rw[W P om (Ne.symm J.2.2)];exact a4,a8.mono om λq _ _ _ ee _ B=>W q B (L q ⟨_,_,_,ee⟩).2.1,λq hq=>by obtain⟨a,b,c,d,e,g,i⟩:=L q hq;exact⟨a,b,c,d,e,g,om⟩,aN.mono (λ_ _ x=>x.go fx λ_ _ h=>h) a1,g4,yE n w c d,?_,dx.next hG hc hE⟩,by rw[W K om (Ne.symm J.2.1)];exact t.k,by rw[W y om (Ne.symm J.1)];exact t.c2,by rw[W id om om];exact t.gr,⟨by have:=t.fr.next;omega,λq hq=>by rw[W q (by have:=t.fr.next;omega) om];exact t.fr.get q hq⟩,om⟩,s.push A hE,rfl⟩
 have a6: ∀q,YE f P id N q->q<o.next:=λq h=>by
  rcases h with h|h|h|h
  ·omega
  ·omega
  ·omega
  ·exact (L q h).2.2.2.2.2.2
 exact G.go ⟨om,λq B o=>o4 q λe=>o (by show q<_;omega)⟩ λq _ h=>a6 q h
theorem Ub {h:H}{id o:Nat}{a b c:V}(g:h.cell id o=some a)(d:h.cell id (o+1)=some b)(f:h.cell id (o+2)=some c):h.row id o 3=some [a,b,c]:=by
 unfold H.cell at g d f;unfold H.row;split at g
 ·rename_i p i e
  rw[e] at d f;have d:i[o+1]? =some b:=d;have f:i[o+2]? =some c:=f;obtain⟨j,n⟩:=vJ.1 g;obtain⟨lb,m⟩:=vJ.1 d;obtain⟨l,k⟩:=vJ.1 f;rw[e];simp only[sub];rw[bJ om,Zh j,Zh lb,Zh l,n,m,k]
  rfl
 ·cases g
theorem My {h:H}{v:V}{n:Nat}{ls:List (V×V)}(s:SV h v 3 (Mj n ls)){i:Nat}(hi:i<ls.length): ∃id off,Sl v 3 ls.length id off/\h.row id (off+i*3) 3=some [aC n,ls[i].1,ls[i].2]:=by
 obtain⟨id,off,d,c,a⟩:=s.shape ls.length (jP n ls) om;obtain⟨e,b,f⟩:=XL (n:=n) hi;have g:=jP n ls;refine⟨id,off,d,Ub ((a (i*3) om).trans e) ?_ ?_⟩
 ·have:=(a (i*3+1) om).trans b
  rwa [←Nat.add_assoc] at this
 ·have:=(a (i*3+2) om).trans f
  rwa [←Nat.add_assoc] at this
theorem Va (h:H){x y:V}{d:Int}(a:x.one=true)(b:y.one=true):mH h 3 [aC 0,.aD,.aD] 1 [(0,3,.agg [aC d,x,y])]=some (.sl h.next 0 1 (.kn 1),h.new (.cells false [aC d,x,y])):=by
 have e:dP [aC 0,.aD,.aD] (1*3)= [aC 0,.aD,.aD]:=rfl;simp [mH,iK,e,putAt,V.cells,a,b,show (aC d).one=true from rfl]
theorem VO.short {v hh:H}{A y K P id:Nat}{r:fK}{f:V}{n:Nat}{w:Bool}{c:jZ}{m:List Nat->Prop}{l:List jZ}{d:jZ}(j:VO v hh A y K P id r f n w m l d)(x:dO n m)(z:aV n m c.1 c.2)(s:Qi n w c l d):l.length<=6000:=by
 have b: ∀k e,l[k]? =some e->k+iW e.1 n 0<=5999:=by
  intro k
  induction k with
  |zero=>
   intro e a;obtain⟨_,_,_,q,_⟩:=j.at a;have:=jE q;omega
  |succ k ih=>
   intro e a;have t:k<l.length:=by have:=(vJ.1 a).1;omega
   have i:l[k]? =some l[k]:=dD t;obtain⟨_,_,B,_,g⟩:=j.at i;obtain⟨o,u⟩:=s.st k _ _ i a;have p:=g.size x z o;have F:=ih _ i;have:iW e.1 n 0≠iW l[k].1 n 0:=λh=>u (p.2 h)
   omega
 by_cases h:l.length=0
 ·omega
 ·have:=b (l.length- 1) _ (dD om)
  omega
theorem Tx {W0:Nat->Prop}(h0 h:H)(y U:Nat)(F:Nat)(z:List V)(n:Nat)(w:Bool)(c:jZ)(Gc:List Nat->Prop)(vO vR:V)(f0:Fr h0 h)(a:h0.next<=y)(h2:h0.next<=U)(d0:y≠U)(l1:y<h.next)(l2:U<h.next)(c4:h.get y=aF [aC n,vO,vR])(b6:h.get U=aF [.fn F [] z])(Z:GC W0 h0 (.agg [aC n,vO,vR]) n c.1 c.2 Gc)(nx:NxF n w c h0 F z):
  Ev T 75 [.fn 120 [] [.ptr y 0,.ptr U 0],.fn 65 [] []] h (λv h'=> ∃ls l,SV h' v 3 (Mj n ls)/\aN (GD (λ_=>False) h' n w Gc) ls l/\lX n w c l/\Fr h0 h'):=by
 refine dW jD rfl ?_
 obtain⟨K,hK⟩:=exI h.next
 obtain⟨h3,e3,n3,g3,o3,f3⟩:=dK hK [.fn 65 [] []]
 obtain⟨W,e4,n4,g4,o4,f4⟩:=dK n3 [.aD]
 simp(disch:=omega)only[go_sem,jD,aE,mE (x:= .fn 65 [] []) rfl rfl h,hK,e3,n3,e4]
 obtain⟨P,hP⟩:=exI (K+1)
 rw[hP] at n3 n4 g4 o4 ⊢
 obtain⟨id,a2⟩:=exI W.next
 refine⟨rfl,wF λr hr=>?_⟩
 rw[a2]
 have jI:r.st= .ready:=by rw[hr]
 have c0:r.pend=none:=by rw[hr]
 have oA: ∀k,k<id->(W.new (.loop r)).get k=W.get k:=λk hk=>H.bG W om _
 have nA:(W.new (.loop r)).next=id+1:=by rw[H.aW,a2]
 have fA:Fr h (W.new (.loop r)):=(f3.trans f4).new _
 have n0:=f0.next
 have J0:VO h0 (W.new (.loop r)) y U K P id r (.fn F [] z) n w Gc [] c:=by
  refine⟨⟨.aD, [],(vO,vR),by rw[oA _ om];exact g4,dH.aD _ _ _,λq ⟨_,_,_,e⟩=>(by cases e),trivial,by rw[fA.get _ l1];exact c4,Gc,(Z.kO λq a h2=>?_).mono (f0.trans fA),Dx.first Z.cY Z.isc⟩,by rw[oA _ om,o4 _ om];exact g3,by rw[fA.get _ l2];exact b6,by rw[←a2,H.aL],f0.trans fA,om⟩;rcases h2 with h|h|h|⟨_,_,_,e⟩
  ·omega
  ·omega
  ·omega
  ·cases e
 refine (SH h0 y U K P id r F z n w c Gc Z.cY Z.isc nx a om om _ J0 (λh'=> ∃f ls l,h'.get P=aF [f]/\(dH h' f 3 (Mj n ls) 0/\ ∀q,bY f q->q≠id)/\aN (GD (YE y P id f) h' n w Gc) ls l/\lX n w c l/\Fr h0 h'/\h'.get id=some (.loop (vD r (.exit 0)))/\id<h'.next) ?_).mono ?_
 ·intro l d L p j gp s
  obtain⟨f,ls,t,gP,ow,R,al,a1,a3⟩:=j.ex
  have b4:t=p:=by
   have:=a1.symm.trans gp;simp only[Option.some.injEq,Ob.cells.injEq,List.cons.injEq,true_and,and_true] at this;exact Prod.ext this.1 this.2
  subst b4
  have b8:=a3
  obtain⟨Gd,gc,dx⟩:=b8
  obtain⟨_,b2,a7⟩:=gc.one
  have jn:=j.nx
  have jf:=j.fr.next
  have la:=aN.length al
  have l6:=j.short Z.cY Z.isc s
  obtain⟨X,hX⟩:=exI L.next
  obtain⟨hA,eA,nA,gA,oA,fA⟩:=dK hX [aC 0,.aD,.aD]
  obtain⟨hB,eB,nB,gB,oB⟩:=mV hA X [aC n,t.1,t.2]
  refine afA j.gr (by rw[hr];rfl) ?_
  rw[congrArg fK.assign hr,congrArg fK.vars hr,congrArg fK.pars hr]
  simp(disch:=omega)only[go_sem,List.zip_cons_cons,List.zip_nil_left,hX,eA,cF hA X 0 (v:= aC n) (u:=t.1) (w:=t.2) rfl b2 a7,gA,cH,eB]
  refine⟨r,by rw[oB _ om,oA _ om];exact j.gr,jI,?_⟩
  obtain⟨A,eC⟩: ∃x,hB.set id (some (.loop (qE r)))=x:=⟨_,rfl⟩
  have b5:hB.set id (some (.loop {r with st:= .busy}))=A:=eC
  rw[b5,congrArg fK.body hr]
  have nC:A.next=X+1:=by rw[←eC];show hB.next=_;omega
  have a6:A.get id=some (.loop (qE r)):=by rw[←eC,H.aU]
  have oC: ∀q,q≠id->q≠X->A.get q=L.get q:=λq a h2=>by rw[←eC,H.aH _ a,oB q h2,oA q h2]
  have a5:A.get X=aF [aC n,t.1,t.2]:=by rw[←eC,H.aH _ om];exact gB
  have fx:Fx (YE y P id f) L A:=⟨om,λq a h2=>oC q (λe=>h2 (.inr (.inr (.inl e)))) om⟩
  rw[Xw]
  refine Ix (λa0 hf=>(∃g:Nat->V,a0= [g 0,g 1,g 2,g 3,.ptr P 0,.ptr X 0,g 6,g 7,g 8])/\Fr A hf/\ ∀e,l[l.length- 1]? =some e->d≠e) ?_ ?_
  ·have sv:=(ow.mono (h':=A) om λq o m Q e _ a=>oC q (R q ⟨o,m,Q,e⟩).2.2.2.2.2.1 om).sv
   have lv:bL f=some (aC (ls.length:Int)):=by unfold bL;rw[SV.len sv (n:=ls.length) (jP n ls) om];rfl
   have a9:A.get P=aF [f]:=by rw[oC P om om];exact gP
   have fb:Fr A (H.mk A.tr (A.next+17)):=(Fr.refl A).bH om
   have b3:A.get K=aF [.fn 65 [] []]:=by rw[oC K om om];exact j.k
   by_cases hl:ls.length=0
   ·have d1:decide ((ls.length:Int)>0)=false:=bI om
    have l0:l= []:=ON om
    simp(disch:=omega)only[go_sem,H.cell_of a9,lv,d1]
    exact .inl ⟨aB rfl,fb,λe he=>by rw[l0] at he;cases he⟩
   ·have d1:decide ((ls.length:Int)>0)=true:=cI om
    have hi:ls.length- 1<ls.length:=om
    obtain⟨ri,ro,c3,rC⟩:=My sv hi
    have gl:=aN.get al (ls.length- 1) hi om
    obtain⟨Gl,a4,b1⟩:=gl
    have em:((ls.length:Nat):Int)- 1=((ls.length- 1:Nat):Int):=om
    have N:l[ls.length- 1]? =some (l[ls.length- 1]'om):=dD om
    generalize (ls[ls.length- 1]'hi)=pl at a4 rC
    generalize (l[ls.length- 1]'om)=e0 at a4 b1 N
    rw[la] at N
    have c7:=b1.size Z.cY Z.isc (s.la e0 N)
    simp(disch:=omega)only[go_sem,H.cell_of a9,lv,d1,H.cell_of b3,em,c3.ixa,rC,aJ a5]
    refine (yB _ n e0.1 e0.2 Gl _ ((a4.go fx λ_ _ h=>h).mono fb)).mono ?_
    rintro _ h5 ⟨rfl,f5⟩
    have F5:=fb.trans f5
    have ec:dI t.1 t.1=true/\dI t.2 t.2=true:=by
     obtain⟨_,_,_,_,e,sO,_,_,sR,_,_⟩:=gc.cw;simp only[V.agg.injEq,List.cons.injEq,true_and,and_true] at e;rw[e.1,e.2];exact⟨SV.dI sO,SV.dI sR⟩
    simp(disch:=omega)only[go_sem,aJ (show h5.get X=_ from (F5.get X om).trans a5),H.cell_of (show h5.get K=_ from (F5.get K om).trans b3),ec.1,ec.2,show dI (.fn 65 [] []) (.fn 65 [] [])=true from rfl]
    refine (yB _ n d.1 d.2 Gd _ ((gc.go fx λ_ _ h=>h).mono F5)).mono ?_
    rintro _ h6 ⟨rfl,f6⟩
    have F6:=F5.trans f6
    by_cases hs:iW e0.1 n 0=iW d.1 n 0
    ·have d2:decide (((iW e0.1 n 0:Nat):Int)=((iW d.1 n 0:Nat):Int))=true:=cI (by rw[hs])
     simp(disch:=omega)only[go_sem,d2]
     obtain⟨hz,G⟩: ∃x,h6.set id (some (.loop (vD r (.exit 0))))=x:=⟨_,rfl⟩
     have nz:hz.next=h6.next:=by rw[←G];rfl
     have n6:=F6.next
     have oz: ∀q,q≠id->q<X->hz.get q=L.get q:=λq a h2=>by rw[←G,H.aH _ a,F6.get q om,oC q a om]
     have fz:Fx (YE y P id f) L hz:=⟨om,λq a h2=>oz q (λe=>h2 (.inr (.inr (.inl e)))) om⟩
     refine .inr ⟨λe=>(by cases e),CU (by rw[F6.get id om];exact a6) ?_⟩
     rw[G]
     exact .inr ⟨rfl,f,ls,l,by rw[oz P om om];exact gP,⟨ow.mono om λq o m Q e _ a=>oz q (R q ⟨o,m,Q,e⟩).2.2.2.2.2.1 om,λq h=>(R q h).2.2.2.2.2.1⟩,aN.mono (λ_ _ x=>x.go fz λ_ _ h=>h) al,s.done (λe=>hl (by rw[la,e];rfl)) (by rw[N,c7.2 hs.symm]),⟨om,λq J=>by rw[oz q om om];exact j.fr.get q J⟩,by rw[←G,H.aU],om⟩
    ·have d2:decide (((iW e0.1 n 0:Nat):Int)=((iW d.1 n 0:Nat):Int))=false:=bI om
     simp(disch:=omega)only[go_sem,d2]
     exact .inl ⟨aB rfl,F6,λe he b7=>by rw[N] at he;cases he;exact hs (by rw[b7])⟩
  ·rintro a0 hf ⟨⟨g,rfl⟩,ff,a8⟩
   have nf:=ff.next
   have of: ∀q,q≠id->q<X->hf.get q=L.get q:=λq a h2=>by rw[ff.get q om,oC q a om]
   obtain⟨S,hS⟩:=exI hf.next
   obtain⟨a,e1,n1,g1,o1,f1⟩:=dK hS [aC n,t.1,t.2]
   have c8:dH a f 3 (Mj n ls) 0:=ow.mono om λq o m Q e _ J=>by rw[o1 q om,of q (R q ⟨o,m,Q,e⟩).2.2.2.2.2.1 om]
   have c5:SV a (.sl S 0 1 (.kn 1)) 3 [aC n,t.1,t.2]:=SV.all rfl om g1 _
   obtain⟨h2,e2,pu⟩:=c8.push (bytes:=56) c5 (n:=ls.length) (m:=1) (jP n ls) rfl om om om
   have n2:=pu.next
   obtain⟨v2,B⟩: ∃x,V.sl a.next 0 (ls.length+1) (.un 3)=x:=⟨_,rfl⟩
   have c6: ∀q,¬bY f q->dR f q:=λq h i o m Q e J=>h ⟨o,m,Q,by rw[J];exact e⟩
   have o2: ∀q,q≠a.next-> ¬bY f q->h2.get q=a.get q:=λq a h2=>pu.old q a (c6 q h2)
   have b9:h2.get P=aF [f]:=by rw[o2 P om (λh=>(R P h).2.2.2.2.1 rfl),o1 P om,of P om om];exact gP
   obtain⟨h3,e3,n3,g3,o3⟩:=mV h2 P [v2]
   have c9:Wz h2 1 (.ptr P 0) v2=some h3:=by rw[←B,OY,b9,bT (by show 0<1;omega),B];exact congrArg some e3
   rw[B] at e2
   simp(disch:=omega)only[go_sem,H.cell_of (show hf.get P=_ from (of P om om).trans gP),aJ (show hf.get X=_ from (ff.get X om).trans a5),Va hf b2 a7,hS,e1,e2,c9]
   obtain⟨hz,G⟩: ∃x,h3.set id (some (.loop r))=x:=⟨_,rfl⟩
   have nz:hz.next=a.next+1:=by rw[←G];show h3.next=_;omega
   have O: ∀q,q<X->(¬bY f q->q≠id->q≠P->hz.get q=L.get q):=λq a h2 h3 W=>by
    rw[←G,H.aH _ h3,o3 q W,o2 q om h2,o1 q om,of q h3 a]
   have Y: ¬bY f y/\ ¬bY f U/\ ¬bY f K/\ ¬bY f id:=⟨λh=>(R y h).2.1 rfl,λh=>(R U h).2.2.1 rfl,λh=>(R K h).2.2.2.1 rfl,λh=>(R id h).2.2.2.2.2.1 rfl⟩
   have fz:Fx (YE y P id f) L hz:=⟨om,λq a h2=>O q om (λh=>h2 (.inr (.inr (.inr h)))) (λe=>h2 (.inr (.inr (.inl e)))) (λe=>h2 (.inr (.inl e)))⟩
   have b0: ∀q,bY v2 q->q=a.next:=λq ⟨_,_,_,e⟩=>by rw[←B] at e;cases e;rfl
   have hw: ∀q,q<L.next->YE y P id v2 q->YE y P id f q:=λq a h2=>by
    rcases h2 with h|h|h|h
    ·exact .inl h
    ·exact .inr (.inl h)
    ·exact .inr (.inr (.inl h))
    ·have:=b0 q h;omega
   refine pU jI c0 (by rw[o3 id om,o2 id om Y.2.2.2,o1 id om,ff.get id om];exact a6) ?_
   rw[G]
   refine .inl ⟨rfl,⟨⟨v2,ls++ [t],t,?_,?_,?_,?_,?_,?_⟩,?_,?_,?_,?_,?_⟩,a8⟩
   ·rw[←G,H.aH _ om];exact g3
   ·rw[Wd,←B]
    refine (pu.own (b:=0) (jP n ls) rfl om).mono om λq o m Q e _ J=>?_
    cases e
    rw[←G,H.aH _ om,o3 _ om]
   ·intro q J
    have:=b0 q J
    omega
   ·exact aN.append (aN.mono (λ_ _ x=>x.go fz hw) al) ⟨a3.go fz hw,trivial⟩
   ·rw[O y om Y.1 om om];exact a1
   ·exact a3.go fz hw
   ·rw[O K om Y.2.2.1 om om];exact j.k
   ·rw[O U om Y.2.1 om om];exact j.c2
   ·rw[←G,H.aU]
   ·refine⟨om,λq J=>?_⟩
    rw[O q om (λh=>?_) om om]
    ·exact j.fr.get q J
    ·have:=(R q h).1;omega
   ·omega
 ·rintro _ L ⟨f,ls,l,gP,⟨ow,bi⟩,al,s,F,gr,nx⟩
  refine⟨_,gr,by simp [vD],?_⟩
  have en:(vD r (.exit 0)).pend.getD .norm= .exit 0:=rfl
  rw[en]
  have c1:(L.set id (some (.loop {vD r (.exit 0) with st:= .out}))).get P=aF [f]:=by rw[H.aH _ om];exact gP
  simp(disch:=omega)only[go_sem,H.cell_of c1]
  have n0:=F.next
  refine⟨ls,l,?_,?_,s,⟨?_,λq J=>?_⟩⟩
  ·refine dH.sv (b:=0) ?_
   exact ow.mono (dT _) λq o m Q e _ a=>H.aH _ (bi q ⟨o,m,Q,e⟩) _
  ·exact aN.mono (λ_ _ x=>x.go ⟨dT _,λq a h2=>H.aH _ (λe=>h2 (.inr (.inr (.inl e)))) _⟩ λ_ _ h=>h.elim) al
  ·exact n0
  ·rw[H.aH _ (by have:=f0.next;omega)]
   exact F.get q J
section
variable {W:Nat->Prop}
theorem Qv (h:H){a b c:V}(f:V)(p:a.one=true)(t:b.one=true)(y:c.one=true)(m:f.one=true)(d:f.cells= [f]):
  Ev T 76 [.agg [a,b,c],f] h (λv h'=>v= .fn 120 [] [.ptr h.next 0,.ptr (h.next+1) 0]/\h'.get h.next=aF [a,b,c]/\h'.get (h.next+1)=aF [f]/\h'.next=h.next+2/\Fr h h'):=by
 refine dW yK rfl ?_
 obtain⟨B,g⟩:=exI h.next
 obtain⟨i,r,e,k,A,j⟩:=dK g [a,b,c]
 obtain⟨z,n,l,q,s,o⟩:=dK e [f]
 simp(disch:=omega)only[go_sem,yK,aE,bV h (v:=a) (u:=b) (w:=c) p t y,g,r,mE (x:=f) d m i,e,n]
 exact⟨by rw[s B om];exact k,q,l,j.trans o⟩
def ajK (n:Nat)(w:Bool)(c:jZ)(G:List Nat->Prop)(h:H)(v:V)(h':H):Prop:= ∃vl ls l,v= .tup [vl,aC 0]/\SV h' vl 3 (Mj n ls)/\aN (GD (λ_=>False) h' n w G) ls l/\lX n w c l/\Fr h h'
theorem vA (k:V)(n:Nat)(O:LN)(R:jJ)(G:List Nat->Prop)(h:H)(i:GC W h k n O R G):
  Ev T 18 [k] h (ajK n false (O,R) G h):=by
 obtain⟨d,b,rfl,m,o⟩:=i.shape
 refine dW yL rfl ?_
 obtain⟨B,p⟩:=exI h.next
 obtain⟨q,K,N,j,Q,e⟩:=dK p [aC n,d,b]
 simp(disch:=omega)only[go_sem,yL,aE,bV h (v:= aC n) (u:=d) (w:=b) rfl m o,p,K,aJ j]
 refine (Xh _ n O R G q (i.mono e)).mono ?_
 rintro _ a ⟨rfl,g⟩
 have f:a.get B=aF [aC n,d,b]:=by rw[g.get B om];exact j
 have z:decide ((0:Int)≠0)=false:=rfl
 simp(disch:=omega)only[go_sem,z,aJ f]
 refine (Qv a (.fn 77 [] []) rfl m o rfl rfl).mono ?_
 rintro _ r ⟨rfl,L,y,P,A⟩
 simp(disch:=omega)only[go_sem]
 refine (Tx (c:=(O,R)) a r a.next (a.next+1) 77 [] n false G d b A (dT _) om om om om L y (i.mono (e.trans g)) (XN n (O,R) a)).mono ?_
 rintro J U ⟨F,l,sv,x,s,t⟩
 simp(disch:=omega)only[go_sem]
 exact⟨J,F,l,rfl,sv,x,s,(e.trans g).trans t⟩
theorem Pe (m:V)(n:Nat)(O:LN)(R:jJ)(G:List Nat->Prop)(h:H)(i:GC W h m n O R G):
  Ev T 20 [m] h (ajK n true (O,R) G h):=by
 obtain⟨e,b,rfl,o,k⟩:=i.shape
 refine dW Br rfl ?_
 obtain⟨B,p⟩:=exI h.next
 obtain⟨q,x,U,j,N,g⟩:=dK p [aC n,e,b]
 simp(disch:=omega)only[go_sem,Br,aE,bV h (v:= aC n) (u:=e) (w:=b) rfl o k,p,x,aJ j]
 refine (Xh _ n O R G q (i.mono g)).mono ?_
 rintro _ a ⟨rfl,f⟩
 have Q:=f.next
 have d:a.get B=aF [aC n,e,b]:=by rw[f.get B om];exact j
 have F:decide ((0:Int)≠0)=false:=rfl
 simp(disch:=omega)only[go_sem,F,aJ d]
 refine (Qv a (.fn 81 [] [.ptr B 0]) rfl o k rfl rfl).mono ?_
 rintro _ r ⟨rfl,y,A,Y,J⟩
 simp(disch:=omega)only[go_sem]
 refine (Tx (c:=(O,R)) a r a.next (a.next+1) 81 [.ptr B 0] n true G e b J (dT _) om om om om y A (i.mono (g.trans f)) (QZ n (O,R) a B e b G d om (i.mono (g.trans f)))).mono ?_
 rintro L P ⟨K,l,sv,t,s,z⟩
 simp(disch:=omega)only[go_sem]
 exact⟨L,K,l,rfl,sv,t,s,(g.trans f).trans z⟩
theorem lX.pos {n:Nat}{w:Bool}{c:jZ}{l:List jZ}(s:lX n w c l):0<l.length:=by
 have:=(vJ.1 s.hd).1;omega
theorem lX.short {h:H}{n:Nat}{w:Bool}{c:jZ}{g:List Nat->Prop}{ls:List (V×V)}{l:List jZ}(s:lX n w c l)(q:dO n g)(r:aV n g c.1 c.2)(al:aN (GD W h n w g) ls l):l.length<=6000:=by
 have t:=aN.length al
 have d: ∀k e,l[k]? =some e->k+iW e.1 n 0<=5999:=by
  intro k
  induction k with
  |zero=>
   intro e b;obtain⟨a,rfl⟩:=vJ.1 b;obtain⟨_,o,_⟩:=aN.get al 0 om a;have:=jE o;omega
  |succ k ih=>
   intro e b;have a:k<l.length:=by have:=(vJ.1 b).1;omega
   have i:l[k]? =some l[k]:=dD a;obtain⟨u,_,f⟩:=aN.get al k om a;obtain⟨m,p⟩:=s.st k _ _ i b;have j:=f.size q r m;have v:=ih _ i;have:iW e.1 n 0≠iW l[k].1 n 0:=λh=>p (j.2 h)
   omega
 by_cases h:l.length=0
 ·omega
 ·have:=d (l.length- 1) _ (dD om)
  omega
end
theorem Nn (u:V)(a:List Nat)(h:H)(U:a.length<=1000)(K: ∀x∈a,x<256)(J:SI h u (zi a)):
  Ev T 99 [u] h (λv h'=>v= .str a/\Fr h h'):=by
 refine dW Eh rfl ?_
 obtain⟨n,q⟩:=exI a.length
 have z:=J.lens
 rw[aS,q] at z
 obtain⟨id,off,N,m,B⟩:=J.open
 rw[aS,q] at N m B
 simp(disch:=omega)only[go_sem,Eh,aE,z,Sj h n om]
 have g:Fr h (h.new (.cells false (rc n λ_=> .int .u8 0))):=(Fr.refl h).new _
 have d:(h.new (.cells false (rc n λ_=> .int .u8 0))).get h.next=some (.cells false (rc n λ_=> .int .u8 0)):=H.aL ..
 have c:(h.new (.cells false (rc n λ_=> .int .u8 0))).next=h.next+1:=H.aW ..
 generalize h.new (.cells false (rc n λ_=> .int .u8 0))=R at*
 obtain⟨S,y⟩:=exI h.next
 rw[y] at d c
 rw[y]
 refine aI (λO b s=> ∃(i:Nat),(∃j:Nat->V,b= [u,j 1,.sl S 0 n (.kn n),j 3,j 4,u,aC n,aC i,j 8])/\i<=n/\
   s.get S=some (.cells false (rc n λj=>if j<i then .int .u8 ((a.getD j 0:Nat):Int) else .int .u8 0))/\s.next=S+1/\Fr h s/\O=n-i) n
  ⟨0,aB rfl,iB _,by rw[d];rfl,c,g,rfl⟩ ?_
 clear d g c
 rintro O b l ⟨i,⟨W,rfl⟩,hi,L,Q,F,rfl⟩
 simp(disch:=omega)only[go_sem]
 by_cases o:(i:Int)<(n:Int)
 ·rw[cI o]
  have f:i<n:=om
  have ci:l.cell id (off+i)=some (aC (a.getD i 0:Nat)):=by rw[F.cell (m om),B i f];congr 2;simp [zi,q,f]
  have r:=K (a.getD i 0) (bC om)
  generalize P:a.getD i 0=k at ci r
  have A:=bT (vs:=rc n λj=>if j<i then .int .u8 ((a.getD j 0:Nat):Int) else .int .u8 0) (off:=i) (by rw[iQ];exact f) l S (.int .u8 (k:Int))
  rw[lH] at A
  simp(disch:=omega)only[go_sem,N.ixa,ci,L,zG,A]
  rw[fJ i]
  refine⟨n-(i+1),om,i+1,aB rfl,om,?_,Q,F.set om _,rfl⟩
  congr 2
  refine dJ λj w=>?_
  by_cases e:j=i
  ·rw[bJ e,bJ om,e,P]
  ·rw[bU e]
   by_cases G:j<i
   ·rw[bJ G,bJ om]
   ·rw[bU G,bU om]
 rw[bI o]
 obtain rfl:i=n:=om
 have p:l.row S 0 i=some (a.map λ(x:Nat)=>V.int .u8 (x:Int)):=by
  have e:(rc i λj=>if j<i then V.int .u8 ((a.getD j 0:Nat):Int) else .int .u8 0)=a.map λ(x:Nat)=>V.int .u8 (x:Int):=Lq (by rw[iA,q]) λj w=>by
   rw[bJ w,Qy,dD om,List.getD,dD om];rfl
  unfold H.row;rw[L,e];simp only[sub];rw[bJ (by rw[iA];omega)];rw[List.drop_zero,Ro (by rw[iA];omega)]
 have t:LL l (.sl S 0 i (.kn i))=some (.str a):=by
  show (match l.row S 0 i with|some ys=>(qL ys).map V.str|none=>none)=_;rw[p];show (qL (a.map λ(x:Nat)=>V.int .u8 (x:Int))).map V.str=_;rw[Gj a K];rfl
 simp(disch:=omega)only[go_sem,HC,t]
 exact F
structure YB (n:Nat)(O:LN)(R:jJ)(G:List Nat->Prop)(L:LN)(K:List Nat)(h:H)(p:Nat):Prop where
 ex: ∃vO vR M vr,h.get p=some (.cells false [aC n,vO,vR,.mp M,vr])/\h.get M=some (.wmap .str (Jl L L.length))/\GC (λ_=>False) h (.agg [aC n,vO,vR]) n O R G/\SP h vr (K.map λr=>L.getD r [])/\M<h.next
 hL:dM O R n 0 (aX n)=L
 isK:Ab n G L K
 nx:p<h.next
theorem YB.mono {n:Nat}{O:LN}{R:jJ}{G:List Nat->Prop}{L:LN}{K:List Nat}{h h':H}{p:Nat}(l:YB n O R G L K h p)(f:Fr h h'):YB n O R G L K h' p:=by
 obtain⟨e,d,M,i,g,c,b,sp,a⟩:=l.ex;have nx:=l.nx;exact⟨⟨e,d,M,i,by rw[f.get p nx];exact g,by rw[f.get M a];exact c,b.mono f,sp.mono f,jM a f.next⟩,l.hL,l.isK,jM nx f.next⟩
theorem aaO {a b c m:V}(f:a.one=true)(g:b.one=true)(e:c.one=true)(h:m.cells= [m])(d:m.one=true):qU [aC 0,.aD,.aD,.nilm,.aD] [(0,3,.agg [a,b,c]),(3,1,m)]=some (.agg [a,b,c,m,.aD]):=by
 simp [qU,iK,putAt,f,g,e,h,d,show (V.agg [a,b,c]).cells= [a,b,c] from rfl]
theorem adW {a b:V}(d:a.one=true)(c:b.one=true)(n:Int)(M:Nat)(h:H):Ce h (.agg [aC n,a,b,.mp M,.aD])=some (.ptr h.next 0,h.new (.cells false [aC n,a,b,.mp M,.aD])):=lG h _ (by simp [d,c,show (aC n).one=true from rfl,show (V.mp M).one=true from rfl,show V.aD.one=true from rfl])
theorem SI.Ag {h h':H}{v:V}{l:List Int}{q:Nat}{n:Int}{a b m x y:V}(s:SI h v l)(F:l≠ [])(g:h.get q=aF [aC n,a,b,m,x])(g':h'.get q=aF [aC n,a,b,m,y])(B: ∀z,a≠ aC z)(K: ∀z,b≠ aC z)(N: ∀z,m≠ aC z)(nx: ∀z,x≠ aC z)(f:Fx (· =q) h h'):SI h' v l:=by
 rcases s with s|⟨id,off,len,i,G,J,j,A,u,w,p,d⟩
 ·exact .inl s
 ·by_cases e:id=q
  ·subst e
   rw[g] at w;cases w
   cases l with
   |nil=>exact absurd rfl F
   |cons z r=>
    have o: ∀(c:V) (t:List V),(∀z,c≠ aC z)->c::t≠ints (z::r):=λc t L e=>L z (List.cons.inj e).1
    match off,len,j,p,d with
    |off,0,_,_,d=>simp [ints] at d
    |0,1,j,p,d=>exact .inr ⟨id,0,1,i,false,_,j,A,jM u f.next,g',p,d⟩
    |0,k+2,_,_,d=>
     exfalso
     cases r with
     |nil=>
      have:=congrArg List.length d;simp [ints] at this
      try omega
     |cons z2 r2=>
      have:=congrArg (λl:List V=>l[1]?) d;simp [ints] at this;exact B z2 this
    |1,k+1,_,_,d=>exact absurd d (by simpa using o a _ B)
    |2,k+1,_,_,d=>exact absurd d (by simpa using o b _ K)
    |3,k+1,_,_,d=>exact absurd d (by simpa using o m _ N)
    |4,k+1,_,_,d=>exact absurd d (by simpa using o x _ nx)
    |off+5,k+1,_,_,d=>simp [ints] at d
  ·exact .inr ⟨id,off,len,i,G,J,j,A,jM u f.next,by rw[f.get id u e];exact w,p,d⟩
theorem IX {W0:Nat->Prop}(vc:V)(n:Nat)(O:LN)(R:jJ)(G:List Nat->Prop)(h:H)(gc:GC W0 h vc n O R G):
  Ev T 46 [vc] h (λv h'=> ∃p L K,v= .tup [.ptr p 0,aC 0]/\YB n O R G L K h' p/\Fr h h'):=by
 obtain⟨y,s,rfl,a3,a4⟩:=gc.shape
 refine dW tA rfl ?_
 obtain⟨A,hA⟩:=exI h.next
 obtain⟨J,e1,n1,g1,o1,f1⟩:=dK hA [aC n,y,s]
 have bx:=bV h (v:= aC n) (u:=y) (w:=s) rfl a3 a4
 have rB:=aJ g1
 obtain⟨L,hL⟩:=exI (dM O R n 0 (aX n))
 obtain⟨E,ll⟩:=dB gc.cY gc.isc
 have g4:=jE gc
 rw[hL] at E ll
 have hG:=gc.cY
 have n7:=gc.n7
 have n0:=gc.n0
 simp(disch:=omega)only[go_sem,tA,aE,bx,hA,e1,rB]
 refine (Wb _ n O R G J (gc.mono f1)).mono ?_
 rw[hL]
 rintro _ j ⟨vL,rfl,nw⟩
 obtain⟨wL,W,d0,c7,g2,W1⟩:=nw.ex
 have c4:=aN.length c7
 obtain⟨m,hm⟩:=exI L.length
 rw[hm] at c4
 have e3:=dH.lens d0 c4
 have f2:=nw.fr
 have e6:j.row A 0 3=some [aC n,y,s]:=aJ (by rw[f2.get A om];exact g1)
 simp(disch:=omega)only[go_sem]
 refine bA (λhc=>(hc rfl).elim) (λ_=>?_)
 obtain⟨X,hX⟩:=exI j.next
 simp(disch:=omega)only[go_sem,e6,e3,hX,aaO (a:= aC n) (b:=y) (c:=s) (m:= .mp (X+3)) rfl a3 a4 rfl rfl,adW a3 a4]
 obtain⟨h3,Y⟩: ∃h3:H,h3=H.mk ((H.mk ((H.mk j.tr (X+3)).new (Ob.wmap Gn.str [])).tr (X+5)).new (Ob.cells false [aC n,y,s,.mp (X+3),.aD])).tr (X+7):=⟨_,rfl⟩
 rw[←Y]
 have n3:h3.next=X+7:=by rw[Y]
 have gB:h3.get (X+5)=aF [aC n,y,s,.mp (X+3),.aD]:=by rw[Y];exact H.aL (H.mk _ (X+5)) _
 have gM:h3.get (X+3)=some (.wmap .str (Jl L 0)):=by
  rw[Y];exact (H.bG (H.mk _ (X+5)) (show X+3≠X+5 by omega) _).trans (H.aL (H.mk _ (X+3)) _)
 have f3:Fr j h3:=⟨om,λq hq=>by
  rw[Y]
  exact (H.bG (H.mk _ (X+5)) (show q≠X+5 by omega) _).trans (H.bG (H.mk _ (X+3)) (show q≠X+3 by omega) _)⟩
 clear Y
 have Q: ∀i,i<m->(L.getD i []).length<=1000/\ ∀x∈L.getD i [],x<256:=λi hi=>by
  have P:=lE hG E (show i<L.length by omega);exact⟨by rw[P.len];omega,λx hx=>by have:=P.lt x hx;omega⟩
 obtain⟨e9,c8,f6,c9,e4⟩:=SV.shape d0.sv m om om
 have f9: ∀i,i<m-> ∃vx,(∀h',Fr j h'->h'.cell e9 (c8+i)=some vx)/\SI j vx (zi (L.getD i [])):=λi hi=>by
  obtain⟨v,J,d7⟩:=dZ.at c7 (i:=i) om;exact⟨v,λh' f=>by rw[f.cell (c9 om),e4 i om,J],d7.si⟩
 have hK: ∀i,i<m->isKey .str (.str (L.getD i []))=true:=λi hi=>zJ (Q i hi).1 (Q i hi).2
 refine bQ (λvs F=>(∃g:Nat->V,vs= [g 0,.ptr A 0,.nilp,aC 0,vL,g 5,.ptr (X+5) 0,g 7,g 8,g 9,g 10,g 11,g 12,g 13,g 14,g 15,g 16,g 17,g 18,g 19])/\F.get (X+3)=some (.wmap .str (Jl L m))/\Fx (· =X+3) h3 F) ?_ ?_
 ·refine aI (λk' vs F=> ∃(i:Nat),(∃g:Nat->V,vs= [g 0,.ptr A 0,.nilp,aC 0,vL,g 5,.ptr (X+5) 0,g 7,g 8,g 9,g 10,g 11,vL,aC m,aC i,g 15,g 16,g 17,g 18,g 19])/\i<=m/\F.get (X+3)=some (.wmap .str (Jl L i))/\Fx (· =X+3) h3 F/\k'=m-i) m
   ⟨0,aB rfl,iB _,gM,Fx.refl _ h3,rfl⟩ ?_
  rintro k' b4 Z ⟨i,⟨g,rfl⟩,hi,a7,F4,rfl⟩
  by_cases a0:(i:Int)<(m:Int)
  case neg=>
   have d4:=bI a0;obtain rfl:i=m:=om
   simp(disch:=omega)only[go_sem,d4];exact⟨aB rfl,a7,F4⟩
  have d4:=cI a0
  have l:i<m:=om
  have b3:Fr j Z:=⟨by have:=F4.next;omega,λq hq=>by rw[F4.get q om om];exact f3.get q hq⟩
  have b6:Z.get (X+5)=aF [aC n,y,s,.mp (X+3),.aD]:=by rw[F4.get _ om om];exact gB
  obtain⟨vx,cx,sx⟩:=f9 i l
  have d2:Z.cell (X+5) 3=some (.mp (X+3)):=by rw[H.cell_of b6];rfl
  simp(disch:=omega)only[go_sem,d4,f6.ixa,cx Z b3,d2]
  refine (Nn vx (L.getD i []) _ (Q i l).1 (Q i l).2 (sx.mono (b3.trans ((Fr.refl Z).bH om)))).mono ?_
  rintro _ B ⟨rfl,f5⟩
  have a9:Fr Z B:=((Fr.refl Z).bH om).trans f5
  have n4:=F4.next
  have b9:B.get (X+3)=some (.wmap .str (Jl L i)):=by rw[a9.get _ om];exact a7
  have f8:B.cell (X+5) 3=some (.mp (X+3)):=by rw[a9.cell om];exact d2
  have pt:=λF=>AJ E.nodup (show i<L.length by omega) (hK i l) F (X+3)
  simp(disch:=omega)only[go_sem,f8,b9,pt]
  rw[fJ i]
  refine⟨by simp [dI],m-(i+1),om,i+1,aB rfl,om,rfl,⟨by have:=a9.next;show h3.next<=B.next;omega,λq J j=>by rw[H.aH _ (λe=>j e),a9.get q om];exact F4.get q J j⟩,rfl⟩
 rintro b4 Z ⟨⟨g,rfl⟩,a7,F4⟩
 have n4:=F4.next
 have b3:Fr j Z:=⟨om,λq hq=>by rw[F4.get q om om];exact f3.get q hq⟩
 have b6:Z.get (X+5)=aF [aC n,y,s,.mp (X+3),.aD]:=by rw[F4.get _ om om];exact gB
 have b5:=f2.trans b3
 have rA:=aJ (h:=Z) (id:=A) (ro:=false) (by rw[b5.get _ om];exact g1)
 simp(disch:=omega)only[go_sem,rA]
 refine (QC _ n O R G Z (gc.mono (f1.trans b5)) L hL).mono ?_
 rintro _ B ⟨vl,K,ks,rfl,ik,sl,al,f5⟩
 have lk:=aN.length al
 have kl:K.length<=5040:=mY (List.Nodup.length_le_of_subset ik.nd (l₂:=List.range L.length) λx hx=>Dj.2 (ik.lt hx)) (by rw[Xf];omega)
 have d9:bL vl=some (aC (K.length:Int)):=by unfold bL;rw[SV.len sl (n:=K.length) (by rw[tX,lk]) om];rfl
 have n5:=f5.next
 have c0:B.get (X+5)=aF [aC n,y,s,.mp (X+3),.aD]:=by rw[f5.get _ om];exact b6
 obtain⟨a8,RP,d6,c5,b1⟩:=SV.shape sl K.length (by rw[tX,lk]) om
 have b0:=b5.trans f5
 obtain⟨nO,nR⟩:(∀k z,y≠ .int k z)/\ ∀k z,s≠ .int k z:=by
  obtain⟨_,_,_,_,ev,sO,_,_,sR,_,_⟩:=gc.cw;simp only[V.agg.injEq,List.cons.injEq,true_and,and_true] at ev;rw[←ev.1] at sO;rw[←ev.2] at sR;refine⟨λk z e=>?_,λk z e=>?_⟩
  ·rw[e] at sO
   rcases sO with ⟨h|⟨_,h⟩,_⟩|⟨_,_,_,_,_,_,h,_⟩<;>cases h
  ·rw[e] at sR
   rcases sR with ⟨h|⟨_,h⟩,_⟩|⟨_,_,_,_,_,_,h,_⟩<;>cases h
 simp(disch:=omega)only[go_sem,d9]
 refine aI (λk' vs F=> ∃(i:Nat) (vr:V) (wr:List V),(∃g:Nat->V,vs= [g 0,g 1,g 2,aC 0,g 4,g 5,.ptr (X+5) 0,g 7,g 8,g 9,g 10,g 11,g 12,g 13,g 14,g 15,vl,aC (K.length:Int),aC i,g 19])/\i<=K.length/\F.get (X+5)=aF [aC n,y,s,.mp (X+3),vr]/\dH F vr 1 wr B.next/\aN (λv r=>SI B v (zi (L.getD r []))) wr (K.take i)/\Fx (· =X+5) B F/\k'=K.length-i) K.length
  ⟨0,.aD, [],aB rfl,iB _,c0,dH.aD _ _ _,trivial,Fx.refl _ B,rfl⟩ ?_
 rintro k' b4 h6 ⟨i,vr,wr,⟨g,rfl⟩,hi,b2,ow,aw,F6,rfl⟩
 have n6:=F6.next
 by_cases a0:(i:Int)<(K.length:Int)
 case neg=>
  have d4:=bI a0;obtain rfl:i=K.length:=om
  have f0:Fr h h6:=⟨by have:=f1.next;have:=b0.next;omega,λq hq=>by rw[F6.get q (by have:=b0.next;omega) (by have:=f2.next;omega),b0.get q om];exact f1.get q hq⟩
  have e0: ∀q,q<B.next->q≠X+5->h6.get q=B.get q:=λq J j=>F6.get q J j
  simp(disch:=omega)only[go_sem,d4];rw[List.take_length] at aw;have b9:B.get (X+3)=some (.wmap .str (Jl L L.length)):=by rw[f5.get _ om,a7,hm]
  have Lp: ∀r∈K,zi (L.getD r [])≠ []:=λr hr e=>by
   have P:=lE hG E (ik.lt hr);have:=congrArg List.length e;rw[aS,P.len] at this;exact absurd this (by show n≠0;omega)
  have e5:SP h6 vr (K.map λr=>L.getD r []):=by
   refine dZ.LO (W:=λ_=>False) ow.sv (aN.eM (by rw[iA];exact aN.length aw) λt J j=>?_);rw[iA] at j;rw[List.getElem_map];exact⟨SI.Ag (aN.get aw t J j) (Lp _ (xG _)) c0 b2 (nO _) (nR _) (λ_ e=>(by cases e)) (λ_ e=>(by cases e)) F6,Ct _⟩
  have d3:GC (λ_=>False) h6 (.agg [aC n,y,s]) n O R G:=by
   refine (((gc.mono f1).kO (W':=λq=>q=X+5) λq hq h=>?_).mono b0).go (W':=λ_=>False) (h':=h6) F6 λq _ h=>h.elim
   have:=f2.next;omega
  exact⟨X+5,L,K,rfl,⟨⟨y,s,X+3,vr,b2,by rw[e0 _ om om];exact b9,d3,e5,om⟩,hL,ik,om⟩,f0⟩
 have d4:=cI a0
 have l:i<K.length:=om
 have b7:i<ks.length:=om
 have d5:a8≠X+5:=λe=>by
  obtain⟨_,c1,_⟩:=Yi b7;have c2:=b1 (i*3+1) (by rw[tX];omega);rw[c1,e,H.cell_of c0] at c2
  match ho:RP+(i*3+1),c2 with
  |0,_=>omega
  |1,c2=>exact nO _ _ (Option.some.inj c2)
  |2,c2=>exact nR _ _ (Option.some.inj c2)
  |3,c2=>cases c2
  |4,c2=>cases c2
  |k+5,c2=>cases c2
 obtain⟨q1,q2,q3⟩:=Yi b7
 have r5:B.row a8 (RP+i*3) 3=some [ks[i].rep,aC (ks[i].ord:Int),aC (ks[i].size:Int)]:=by
  have ll:=tX ks;refine Ub ((b1 (i*3) om).trans q1) ?_ ?_
  ·have:=(b1 (i*3+1) om).trans q2
   rwa [←Nat.add_assoc] at this
  ·have:=(b1 (i*3+2) om).trans q3
   rwa [←Nat.add_assoc] at this
 have r6:h6.row a8 (RP+i*3) 3=some [ks[i].rep,aC (ks[i].ord:Int),aC (ks[i].size:Int)]:=by
  rw[←r5];unfold H.row;rw[F6.get a8 (c5 om) d5]
 have kr:=(aN.get al i b7 l).rep
 have U:=ks[i].hrep
 generalize ks[i].rep=rp at r6 kr U
 generalize ((ks[i].ord:Nat):Int)=a1 at r6
 generalize ((ks[i].size:Nat):Int)=a2 at r6
 obtain⟨D,hD⟩:=exI h6.next
 obtain⟨h7,e7,g3,g7,o7,f7⟩:=dK hD [.aD,aC 0,aC 0]
 obtain⟨N,e8,n8,g8,o8⟩:=mV h7 D [rp,aC a1,aC a2]
 have d8:N.get (X+5)=aF [aC n,y,s,.mp (X+3),vr]:=by rw[o8 _ om,o7 _ om];exact b2
 simp(disch:=omega)only[go_sem,d4,d6.ixa,r6,hD,e7,cF h7 D 0 (v:=rp) (u:= aC a1) (w:= aC a2) U.2.1 rfl rfl,g7,cH,e8,H.cell_of d8,H.cell_of g8,cK (H.mk N.tr (N.next+7)) (z:= .aD) U.1 U.2.1]
 obtain⟨h9,a5⟩: ∃h9:H,h9=H.mk ((H.mk N.tr (N.next+7)).new (Ob.cells false [rp])).tr (N.next+12):=⟨_,rfl⟩
 rw[←a5]
 have g9:h9.get (N.next+7)=aF [rp]:=by rw[a5];exact H.aL (H.mk N.tr (N.next+7)) _
 have n9:h9.next=N.next+12:=by rw[a5]
 have o9: ∀k,k≠N.next+7->h9.get k=N.get k:=λk hk=>by rw[a5];exact H.bG (H.mk N.tr (N.next+7)) hk _
 clear a5
 have b8: ∀k,k<h6.next->h9.get k=h6.get k:=λk hk=>by rw[o9 k om,o8 k om,o7 k om]
 have lw:=aN.length aw
 rw[zO,Nat.min_eq_left om] at lw
 obtain⟨c6,f4,a6⟩:=(ow.mono (h':=h9) om λq o m c e _ J=>b8 q J).push (bytes:=24) (SV.one om g9 (.kn 1)) (n:=i) (m:=1) om rfl om om om
 have g0:=a6.next
 have c3: ∀k,k<B.next->dR vr k:=λk hk id o m c e e2=>by have:=(ow.in _ _ _ _ e).2.1;omega
 have d1:c6.get (X+5)=aF [aC n,y,s,.mp (X+3),vr]:=by rw[a6.old _ om (c3 _ om),b8 _ om];exact b2
 have pt: ∀(F:H) (x:V),eU (aF [aC n,y,s,.mp (X+3),vr]) F (X+5) 4 [x]=some (F.set (X+5) (aF [aC n,y,s,.mp (X+3),x])):=λF x=>bT (by simp) F _ x
 simp(disch:=omega)only[go_sem,f4,d1,pt]
 rw[fJ i]
 refine⟨K.length-(i+1),om,i+1,_,_,aB rfl,om,rfl,(a6.own om rfl om).mono (dT _) λq o m c e _ J=>H.aH _ (by cases e;omega) _,?_,⟨by show B.next<=c6.next;omega,λq J j=>?_⟩,rfl⟩
 ·rw[eY 0 l]
  exact aN.append aw ⟨by rw[←sD (d:=0) l];exact kr,trivial⟩
 ·rw[H.aH _ j,a6.old q om (c3 q J),b8 q om]
  exact F6.get q J j
section
variable {a b c d:V}
structure Rk (L:LN)(Gd:List Nat->Prop)(r:List Nat):Prop where
 asc:r.Pairwise (· < ·)
 mem: ∀i,i∈r↔i<L.length/\Gd (L.getD i [])
theorem kV (h:H)(id off:Nat)(g:a.one=true)(i:b.one=true)(e:c.one=true)(f:d.one=true):Wz h 4 (.ptr id off) (.agg [a,b,c,d])=eU (h.get id) h id off [a,b,c,d]:=Di h id off 4 _ rfl (by simp [g,i,e,f])
theorem jS {x y z t:V}(h:H)(id:Nat):eU (some (.cells false [x,y,z,t])) h id 0 [a,b,c,d]=some (h.set id (some (.cells false [a,b,c,d]))):=by
 simp [eU,putAt]
theorem iD {h:H}{id:Nat}{ro:Bool}(e:h.get id=some (.cells ro [a,b,c,d])):h.row id 0 4=some [a,b,c,d]:=by
 simp [H.row,e,sub]
theorem acK (f:a.one=true)(g:b.one=true)(e:c.one=true):qU [aC 0,.aD,.aD,.aD] [(0,3,.agg [a,b,c])]=some (.agg [a,b,c,.aD]):=by
 simp [qU,iK,putAt,f,g,e,show (V.agg [a,b,c]).cells= [a,b,c] from rfl]
theorem aiT {G m:List Nat->Prop}{L j:LN}(q:cZ G L)(E:cZ m j)(le: ∀x,m x->G x){f:List Int}(p:f.Perm (zi (j.map λx=>L.idxOf x)))(s:f.Pairwise (· <= ·)): ∃r,f=zi r/\Rk L m r:=by
 have g: ∀x∈j,x∈L:=λx l=>(q.mem x).2 (le x ((E.mem x).1 l))
 have e:zi (f.map Int.toNat)=f:=by
  unfold zi;rw[List.map_map];refine (Xa λz B=>?_).trans (List.map_id _);have:=p.mem_iff.1 B;unfold zi at this;obtain⟨k,_,rfl⟩:=pH.1 this
  rfl
 have nd:(j.map λx=>L.idxOf x).Nodup:=by
  refine List.pairwise_map.2 (List.Pairwise.imp_of_mem (λ{a b} y A ne e=>ne ?_) E.nodup);have u:=List.getElem_idxOf (List.idxOf_lt_length_of_mem (g a y));have v:=List.getElem_idxOf (List.idxOf_lt_length_of_mem (g b A));rw[←u,←v];congr 1
 have t:(f.map Int.toNat).Perm (j.map λx=>L.idxOf x):=by
  have:=p.map Int.toNat;refine this.trans (List.Perm.of_eq ?_);unfold zi;rw[List.map_map];exact (Xa λz _=>rfl).trans (List.map_id _)
 refine⟨_,e.symm,?_,λi=>?_⟩
 ·have o:=t.nodup_iff.2 nd
  have w:(f.map Int.toNat).Pairwise (· <= ·):=List.pairwise_map.2 (s.imp λh=>Int.toNat_le_toNat h);exact (List.pairwise_and_iff.2 ⟨w,o⟩).imp λh=>Nat.lt_of_le_of_ne h.1 h.2
 ·rw[t.mem_iff,pH]
  constructor
  ·rintro⟨x,l,rfl⟩
   have n:=List.idxOf_lt_length_of_mem (g x l);refine⟨n,?_⟩;rw[List.getD,dD n,Option.getD_some,List.getElem_idxOf n];exact (E.mem x).1 l
  ·rintro⟨hi,hg⟩
   refine⟨_,(E.mem _).2 hg,?_⟩;rw[List.getD,dD hi,Option.getD_some];exact q.nodup.idxOf_getElem i hi
theorem PF {W:Nat->Prop}(T0:Nat)(vd:V)(n:Nat)(O O':LN)(R R':jJ)(G Gd:List Nat->Prop)(L:LN)(K:List Nat)(h:H)(Ag:YB n O R G L K h T0)(gd:GC W h vd n O' R' Gd)(le: ∀x,Gd x->G x):
  Ev T 102 [.ptr T0 0,vd] h (λv h'=> ∃vO vR vr r,vd= .agg [aC n,vO,vR]/\v= .agg [aC n,vO,vR,vr]/\SI h' vr (zi r)/\Rk L Gd r/\Ej (λq=>q<h.next) vr/\Fr h h'):=by
 obtain⟨vO,vR,rfl,y,B⟩:=gd.shape
 obtain⟨lO,lR,M,lr,gT,gM,gc,_,nM⟩:=Ag.ex
 refine dW sG rfl ?_
 obtain⟨E0,e3⟩:=dB gc.cY gc.isc
 rw[Ag.hL] at E0
 obtain⟨E,ll⟩:=dB gd.cY gd.isc
 have e0:=jE gd
 have n7:=gd.n7
 obtain⟨J,b5⟩:=exI (dM O' R' n 0 (aX n))
 rw[b5] at E ll
 have nT:=Ag.nx
 obtain⟨A,hA⟩:=exI h.next
 obtain⟨h1,e1,n1,g1,o1,f1⟩:=dK hA [aC n,vO,vR]
 obtain⟨h2,e2,n2,g2,o2,f2⟩:=dK n1 [aC 0,.aD,.aD,.aD]
 have F2:=f1.trans f2
 have a8:h2.get A=some (.cells false [aC n,vO,vR]):=by rw[o2 A om];exact g1
 simp(disch:=omega)only[go_sem,sG,aE,bV h (v:= aC n) (u:=vO) (w:=vR) rfl y B,hA,e1,n1,e2,aJ a8]
 refine (Wb _ n O' R' Gd h2 (gd.mono F2)).mono ?_
 rw[b5]
 rintro _ h3 ⟨vL,rfl,nw⟩
 obtain⟨wL,W,c0,b4,d9,W1⟩:=nw.ex
 have b1:=aN.length b4
 have c7:=dH.lens c0 b1
 have f3:=nw.fr
 have n3:=f3.next
 have c3:h3.get A=some (.cells false [aC n,vO,vR]):=by rw[f3.get A om];exact a8
 obtain⟨D,hD⟩:=exI h3.next
 obtain⟨h4,e4,n4,g4,o4,f4⟩:=dK hD [aC 0,.aD,.aD,.aD]
 obtain⟨Y,e5,n5,g5,o5⟩:=mV h4 D [aC n,vO,vR,.aD]
 simp(disch:=omega)only[go_sem,aJ c3,acK (a:= aC n) (b:=vO) (c:=vR) rfl y B,hD,e4,kV h4 D 0 (a:= aC n) (b:=vO) (c:=vR) (d:= .aD) rfl y B rfl,g4,jS,e5,c7]
 obtain⟨m,hm⟩:=exI J.length
 rw[hm] at b1
 have a3:Fr h3 Y:=⟨om,λq hq=>by rw[o5 q om,o4 q om]⟩
 obtain⟨c9,b6,d6,b7,c8⟩:=SV.shape c0.sv m om om
 have d7: ∀i,i<m-> ∃vx,(∀h',Fr h3 h'->h'.cell c9 (b6+i)=some vx)/\SI h3 vx (zi (J.getD i [])):=λi hi=>by
  obtain⟨v,h1,c2⟩:=dZ.at b4 (i:=i) om;exact⟨v,λh' f=>by rw[f.cell (b7 om),c8 i om,h1],c2.si⟩
 have F: ∀i,i<m->(J.getD i []).length<=1000/\ ∀x∈J.getD i [],x<256:=λi hi=>by
  have P:=lE gd.cY E (show i<J.length by omega);exact⟨by rw[P.len];omega,λx hx=>by have:=P.lt x hx;omega⟩
 have d0: ∀x∈J,x∈L:=λx hx=>(E0.mem x).2 (le x ((E.mem x).1 hx))
 have a6:Fr h h3:=F2.trans f3
 obtain⟨Z,a0⟩: ∃Z:Nat->List Int,Z=λi=>zi ((J.take i).map λx=>L.idxOf x):=⟨_,rfl⟩
 have rl: ∀i,i<=m->(Z i).length=i:=λi hi=>by rw[a0];simp [aS];omega
 refine bQ (λvs t=> ∃S,(∃g:Nat->V,vs= [g 0,g 1,g 2,.ptr (A+1) 0,g 4,.ptr D 0,g 6,g 7,g 8,g 9,g 10])/\t.get D=some (.cells false [aC n,vO,vR,.sl S 0 m (.un 1)])/\t.get S=some (.cells false (ints (Z m)))/\S<t.next/\Y.next<=S/\Fx (· =D) Y t) ?_ ?_
 ·refine aI (λk' vs t=> ∃(i:Nat) (vr:V),(∃g:Nat->V,vs= [.ptr T0 0,g 1,g 2,.ptr (A+1) 0,g 4,.ptr D 0,g 6,vL,aC m,aC i,g 10])/\i<=m/\t.get D=some (.cells false [aC n,vO,vR,vr])/\dH t vr 1 (ints (Z i)) Y.next/\(0<i-> ∃S,vr= .sl S 0 i (.un 1)/\t.get S=some (.cells false (ints (Z i)))/\S<t.next/\Y.next<=S)/\Fx (· =D) Y t/\k'=m-i) m
   ⟨0,.aD,by rw[hm];exact aB rfl,iB _,g5,by rw[a0];exact dH.aD _ _ _,λh=>absurd h om,Fx.refl _ Y,rfl⟩ ?_
  rintro k' b8 l ⟨i,vr,⟨g,rfl⟩,hi,s,ow,hS,F6,rfl⟩
  have n6:=F6.next
  by_cases b0:(i:Int)<(m:Int)
  case neg=>
   have d4:=bI b0;obtain rfl:i=m:=om
   have mp:0<i:=by
    have:=Rl ((E.mem _).2 gd.cY.one);omega
   obtain⟨S,rfl,gS,s1,s2⟩:=hS mp;simp(disch:=omega)only[go_sem,d4];exact⟨S,aB rfl,s,gS,s1,s2,F6⟩
  have d4:=cI b0
  have N:i<m:=om
  have a7:Fr h3 l:=⟨om,λq hq=>by rw[F6.get q om om];exact a3.get q hq⟩
  have a4:Fr h l:=a6.trans a7
  obtain⟨vx,cx,sx⟩:=d7 i N
  have b3:l.get T0=some (.cells false [aC n,lO,lR,.mp M,lr]):=by rw[a4.get T0 nT];exact gT
  have c6:dI vr vr=true:=ow.sv.dI
  obtain⟨j,hj⟩:=exI (L.idxOf (J.getD i []))
  have xL:J.getD i []∈L:=d0 _ (bC om)
  have jl:j<L.length:=hj▸List.idxOf_lt_length_of_mem xL
  have lj:L.getD j []=J.getD i []:=by
   rw[List.getD,dD jl,Option.getD_some];subst hj;exact List.getElem_idxOf _
  have d5:isKey .str (.str (J.getD i []))=true:=zJ (F i N).1 (F i N).2
  have lk:=λz=>Gg E0.nodup jl (by rw[lj];exact d5) z
  rw[lj] at lk
  have fb:Fr l (H.mk l.tr (l.next+13)):=(Fr.refl l).bH om
  simp(disch:=omega)only[go_sem,d4,d6.ixa,cx l a7,H.cell_of s,H.cell_of b3]
  refine (Nn vx (J.getD i []) _ (F i N).1 (F i N).2 (sx.mono (a7.trans fb))).mono ?_
  rintro _ p ⟨rfl,f7⟩
  have a1:=fb.trans f7
  have c5:l.next+13<=p.next:=f7.next
  have a2:p.get D=some (.cells false [aC n,vO,vR,vr]):=by rw[a1.get D om];exact s
  have d3:p.get T0=some (.cells false [aC n,lO,lR,.mp M,lr]):=by rw[a1.get T0 (by have:=a4.next;omega)];exact b3
  have c1:p.get M=some (.wmap .str (Jl L L.length)):=by rw[(a4.trans a1).get M nM];exact gM
  simp(disch:=omega)only[go_sem,H.cell_of a2,H.cell_of d3,c6,c1,lk,show dI (.mp M) (.mp M)=true from by simp [dI],cK (H.mk p.tr (l.next+9)) (z:= aC 0) (v:= aC j) rfl rfl]
  obtain⟨h8,U⟩: ∃h8:H,h8=H.mk ((H.mk p.tr (l.next+9)).new (Ob.cells false [aC j])).tr p.next:=⟨_,rfl⟩
  rw[←U]
  have g8:h8.get (l.next+9)=some (.cells false [aC j]):=by rw[U];exact H.aL (H.mk p.tr (l.next+9)) _
  have n8:h8.next=p.next:=by rw[U]
  have o8: ∀k,k≠l.next+9->h8.get k=p.get k:=λk hk=>by rw[U];exact H.bG (H.mk p.tr (l.next+9)) hk _
  clear U
  have a5: ∀k,k<l.next->h8.get k=l.get k:=λk hk=>by rw[o8 k om,a1.get k hk]
  have li:=rl i om
  obtain⟨h9,a9,p9⟩:=(ow.mono (h':=h8) om λq o m c e _ h1=>a5 q h1).push (bytes:=8) (SV.one om g8 (.kn 1)) (n:=i) (m:=1) (by rw[aP];omega) rfl om om om
  have n9:=p9.next
  have b2: ∀k,k<Y.next->dR vr k:=λk hk id o m c e e2=>by have:=(ow.in _ _ _ _ e).2.1;omega
  have d8:h9.get D=some (.cells false [aC n,vO,vR,vr]):=by rw[p9.old _ om (b2 _ om),a5 _ om];exact s
  have pt: ∀(t:H) (x:V),eU (some (.cells false [aC n,vO,vR,vr])) t D 3 [x]=some (t.set D (some (.cells false [aC n,vO,vR,x]))):=λt x=>bT (by simp) t _ x
  simp(disch:=omega)only[go_sem,a9,d8,pt]
  rw[fJ i]
  have er:ints (Z i)++ [aC j]=ints (Z (i+1)):=by
   rw[a0];simp only;rw[eY [] om,List.map_append,List.map_singleton,hj];simp [zi,ints]
  have pg:=p9.get
  have po:=p9.own (b:=Y.next) (by rw[aP];omega) rfl om
  rw[er] at pg po
  refine⟨m-(i+1),om,i+1,_,aB rfl,om,rfl,po.mono (dT _) λq o m c e _ h1=>H.aH _ (by cases e;omega) _,λ_=>⟨_,rfl,(H.aH _ om _).trans pg,by show h8.next<h9.next;omega,om⟩,⟨by show Y.next<=h9.next;omega,λq h1 h2=>?_⟩,rfl⟩
  rw[H.aH _ h2,p9.old q om (b2 q h1),a5 q om]
  exact F6.get q h1 h2
 rintro b8 l ⟨S,⟨g,rfl⟩,s,gS,s1,s2,F6⟩
 have n6:=F6.next
 simp(disch:=omega)only[go_sem,H.cell_of s]
 have b9:=rl m (dT _)
 refine Ev.mono (Q:=λ_ h'=> ∃l',h'.get S=some (.cells false (ints l'))/\l'.Perm (Z m)/\l'.Pairwise (· <= ·)/\Fx (· =S) l h') (by have:=Mw l S (Z m) (.un 1) om gS s1;rwa [b9] at this) ?_
 rintro _ p ⟨l',c4,pm,so,F7⟩
 have a2:p.get D=some (.cells false [aC n,vO,vR,.sl S 0 m (.un 1)]):=by rw[F7.get D om om];exact s
 obtain⟨r,rfl,rk⟩:=aiT E0 E le (by rw[a0] at pm;simp only[←hm,List.take_length] at pm;exact pm) so
 have d1:(zi r).length=m:=by rw[pm.length_eq,b9]
 have c5:=F7.next
 have d2:p.get (A+1)=some (.cells false [aC 0,.aD,.aD,.aD]):=by rw[F7.get _ om om,F6.get _ om om,a3.get _ om,f3.get _ om];exact g2
 obtain⟨h8,e8,n8,g8,o8⟩:=mV p (A+1) [aC n,vO,vR,.sl S 0 m (.un 1)]
 simp(disch:=omega)only[go_sem,iD a2,kV p (A+1) 0 (a:= aC n) (b:=vO) (c:=vR) (d:= .sl S 0 m (.un 1)) rfl y B rfl,d2,jS,e8,iD g8]
 refine⟨vO,vR,_,r,rfl,rfl,SV.all (by rw[aP,d1,tW]) om (by rw[o8 S om];exact c4) _,rk,λ(e:S<A)=>by have:=a6.next;omega,⟨om,λq hq=>?_⟩⟩
 rw[o8 q om,F7.get q om om,F6.get q om om,a3.get q om]
 exact a6.get q hq
end
theorem BA (vc vx:V)(n:Nat)(O:LN)(R:jJ)(G:List Nat->Prop)(x:List Nat)(h:H)(f6:1<=n)(hn:n<=64)(hG:dO n G)(o:aV n G O R)(hc:YD h vc (n:Int) (O.map zi) (R.map (List.map zi)))(hx:SI h vx (zi x))(X:aY n x):
  Ev T 204 [vc,vx] h (λv h'=> ∃b,v= .bool b/\(b=true↔G x)/\Fr h h'):=by
 obtain⟨vO,vR,rfl,sO,sR⟩:=hc
 refine dW Io rfl ?_
 obtain⟨f7,eO,cO,b5,d9,c0,wO,a0,P⟩:=fV sO
 obtain⟨e9,eR,cR,b7,d7,a9,wR,b8,Q⟩:=kZ sR
 rw[iA,o.lo] at a0 P
 rw[iA,o.lr] at b8 Q
 obtain⟨B,hB⟩:=exI h.next
 obtain⟨h1,e1,n1,g1,o1,f1⟩:=dK hB [aC n,vO,vR]
 have bx:=bV h (v:= aC n) (u:=vO) (w:=vR) rfl b5 b7
 simp(disch:=omega)only[go_sem,Io,aE,bx,hB,e1]
 refine aI (λk' r hh=> ∃(i:Nat) (vy:V) (y:List Nat),(∃g:Nat->V,r= [g 0,vy,.ptr B 0,g 3,aC i,g 5,g 6,g 7,g 8])/\i<=n/\SI hh vy (zi y)/\aY n y/\Fix i y/\(G y↔G x)/\Fr h1 hh/\k'=n-i) n
  ⟨0,vx,x,aB rfl,iB _,hx.mono f1,X,λk hk=>om,Iff.rfl,Fr.refl _,rfl⟩ ?_
 rintro k' r h2 ⟨i,vy,y,⟨g,rfl⟩,hi,sy,Y,K,a6,F2,rfl⟩
 have g2:h2.get B=some (.cells false [aC n,vO,vR]):=by rw[F2.get B om];exact g1
 have c9:(zi y).length=n:=by rw[aS,Y.len]
 by_cases b0:(i:Int)<(n:Int)
 case neg=>
  have d1:=bI b0;obtain rfl:i=n:=om
  simp(disch:=omega)only[go_sem,H.cell_of g2,d1];exact⟨true,rfl,⟨λ_=>a6.1 (by rw[K.all Y];exact hG.one),λ_=>rfl⟩,f1.trans F2⟩
 have d1:=cI b0
 have f:i<n:=om
 have F:=f1.trans F2
 obtain⟨bO,c6,W⟩:=P i f
 obtain⟨bR,b2,a4⟩:=Q i f
 rw[oI zi (d:= []) (by rw[o.lo];exact f)] at W
 rw[oI (List.map zi) (d:= []) (by rw[o.lr];exact f)] at a4
 generalize wO.getD i V.undef=vo at c6 W
 generalize wR.getD i V.undef=vr at b2 a4
 obtain⟨a1,eo,f0,e5,N,J,a5,L⟩:bL vo=some (aC ((O.getD i []).length:Int))/\True/\True/\True/\ ∃N J,Sl vo 1 (O.getD i []).length N J/\ ∀k,k<(O.getD i []).length->N<h.next/\h.cell N (J+k)=some (aC ((O.getD i []).getD k 0:Nat)):=by
  have l:=W.lens;obtain⟨a,b,s,c,d⟩:=W.open;rw[aS] at l s c d;refine⟨l,trivial,trivial,trivial,a,b,s,λk hk=>⟨c om,?_⟩⟩;rw[d k hk];congr 2;exact oI (λk:Nat=>(k:Int)) (d:=0) om
 obtain⟨f2,er,f8,e6,e4,c7,wr,a3,t⟩:=fV a4
 rw[iA,o.rl i f] at a3 t
 have e0:(O.getD i []).length<=n:=mY (tK (λx hx=>hG.bF hx) f (o.asc i f) (o.mem i f)) om
 obtain⟨m,hm⟩:=exI ((O.getD i []).length)
 rw[hm] at a1 a5 L a3 t e0
 obtain⟨p,hp⟩:=exI (y.getD i 0)
 simp(disch:=omega)only[go_sem,H.cell_of g2,d1]
 refine aI (λk' r hh=> ∃(k:Nat),(∃g:Nat->V,r= [g 0,vy,.ptr B 0,g 3,aC i,aC k,g 6,g 7,g 8])/\k<=m/\(∀j,j<k->(O.getD i []).getD j 0≠p)/\Fr h2 hh/\k'=m-k) m
  ⟨0,aB rfl,iB _,λj hj=>om,Fr.refl _,rfl⟩ ?_
 rintro k' r h3 ⟨k,⟨g',rfl⟩,hk,hj,f3,rfl⟩
 have g3:h3.get B=some (.cells false [aC n,vO,vR]):=by rw[f3.get B (by have:=F2.next;omega)];exact g2
 have F3:=F.trans f3
 have U:h3.cell d9 (c0+i)=some vo:=by rw[F3.cell bO];exact c6
 have e2:h3.cell d7 (a9+i)=some vr:=by rw[F3.cell bR];exact b2
 have b6:=sy.mono f3
 obtain⟨d0,b9,a8,c1,b3⟩:=b6.open
 rw[c9] at a8 c1 b3
 have cy:h3.cell d0 (b9+i)=some (aC p):=by rw[b3 i f];congr 2;simp [zi,Y.len,f,←hp]
 by_cases b1:(k:Int)<(m:Int)
 case neg=>
  have d2:=bI b1;obtain rfl:k=m:=om
  have e3: ¬G x:=λhx=>by
   have hy:=a6.2 hx;obtain⟨j,c8,d5⟩:=Ad.1 ((o.mem i f p).2 ⟨y,hy,K,hp⟩);exact hj j om (by rw[OU,dD c8];exact d5)
  simp(disch:=omega)only[go_sem,H.cell_of g3,a0.ixa,U,a1,d2];refine bA (λ_=>?_) (λhc=>(hc trivial).elim);simp(disch:=omega)only[go_sem];exact⟨false,rfl,⟨λe=>(by cases e),λhx=>absurd hx e3⟩,F3.bH om⟩
 have d2:=cI b1
 have a2:k<m:=om
 obtain⟨b4,c4⟩:=L k a2
 have c5:h3.cell N (J+k)=some (aC ((O.getD i []).getD k 0:Nat)):=by rw[F3.cell b4];exact c4
 obtain⟨q,hq⟩:=exI ((O.getD i []).getD k 0)
 rw[hq] at c5
 by_cases c2:q=p
 case neg=>
  have d3:decide ((q:Int)≠(p:Int))=true:=cI om;simp(disch:=omega)only[go_sem,H.cell_of g3,a0.ixa,U,a1,d2,a5.ixa,c5,a8.ixa,cy,d3];rw[fJ k];refine⟨m-(k+1),om,k+1,aB rfl,om,λj e7=>?_,f3.bH om,rfl⟩
  by_cases e:j=k
  ·rw[e,hq];exact c2
  ·exact hj j om
 have d3:decide ((q:Int)≠(p:Int))=false:=bI om
 have d4:decide ((k:Int)=(m:Int))=false:=bI om
 have A:=o.rep i f k om
 rw[hq,c2] at A
 obtain⟨z,hz⟩:=exI ((R.getD i []).getD k [])
 rw[hz] at A
 have Z:=hG.bF A.mem
 obtain⟨br,c3,a7⟩:=t k a2
 rw[oI zi (l:=R.getD i []) (i:=k) (d:= []) (by rw[o.rl i f];omega),hz] at a7
 generalize wr.getD k V.undef=vz at c3 a7
 have d6:h3.cell e4 (c7+k)=some vz:=by rw[F3.cell br];exact c3
 have fb:=(Fr.refl h3).bH (n:=h3.next+23) om
 have e8:=U
 simp(disch:=omega)only[go_sem,H.cell_of g3,a0.ixa,U,a1,d2,a5.ixa,c5,a8.ixa,cy,d3,d4,b8.ixa,e2,a3.ixa,d6]
 refine (HJ vz n z _ om Z (a7.mono (F3.trans fb))).mono ?_
 rintro vi h4 ni
 have f4:=fb.trans ni.fr
 have d8:SI h4 vi (zi (bZ z)):=(Ud ni).si
 simp(disch:=omega)only[go_sem]
 refine (vT vy vi y (bZ z) h4 (by rw[Y.len];omega) (b6.mono f4) d8 (λj hj=>by rw[jU,Z.len];exact Y.fX (by rw[←Y.len];exact hj))).mono ?_
 rintro vm h5 ⟨sm,f5,_⟩
 simp(disch:=omega)only[go_sem]
 rw[fJ i]
 refine⟨n-(i+1),om,i+1,_,_,aB rfl,om,sm,Y.mul Z.inv,?_,?_,F2.trans (f3.trans (f4.trans f5)),rfl⟩
 ·refine (Fix.mul Y om K (Fix.inv Z om A.fix)).succ ?_
  rw[dE (by rw[Y.len];exact f),hp]
  have:=wY Z f
  rwa [A.maps] at this
 ·rw[←a6]
  constructor
  ·intro h1
   have:=hG.mul h1 A.mem
   rwa [aG Y Z.inv Z,dL Z,aZ Y] at this
  ·exact λh1=>hG.mul h1 (hG.inv A.mem)
theorem FD (u w:V)(n:Nat)(a b:List Nat)(h:H)(p:n<=64)(A:aY n a)(B:aY n b)(l:SI h u (zi a))(f:SI h w (zi b)):
  Ev T 203 [u,w] h (λv h'=>SI h' v (zi (aT a b))/\Fr h h'/\ ∀id off len cap,v= .sl id off len cap->h.next<=id):=by
 refine dW uP rfl ?_
 simp(disch:=omega)only[go_sem,uP,aE]
 refine (HJ w n b h om B f).mono ?_
 rintro x g d
 simp(disch:=omega)only[go_sem]
 refine (vT x u (bZ b) a g (by rw[B.inv.len];omega) (Ud d).si (l.mono d.fr) (La B.inv A)).mono ?_
 rintro y o ⟨k,m,_⟩
 have c:=d.fr.trans m
 simp(disch:=omega)only[go_sem]
 refine (vT y w (aM (bZ b) a) b o (by rw[(B.inv.mul A).len];omega) k (f.mono c) (La (B.inv.mul A) B)).mono ?_
 rintro z q ⟨sz,i,j⟩
 simp(disch:=omega)only[go_sem]
 exact⟨sz,c.trans i,λid off len cap e=>mY c.next (j id off len cap e)⟩
theorem dbl {n:Nat}{G K:List Nat->Prop}{L M:LN}(c:dO n G)(i:dO n K)(E:cZ G L)(F:cZ K M)(h: ∀y,G y->K y){x:List Nat}(j:K x)(nx: ¬G x):2*L.length<=M.length:=by
 have X:=i.bF j
 have nd:(L++L.map (aM x)).Nodup:=by
  refine List.nodup_append.2 ⟨E.nodup,?_,λa f b g e=>?_⟩
  ·refine List.pairwise_map.2 (List.Pairwise.imp_of_mem (λ{a b} f g ne e=>ne ?_) E.nodup)
   exact Bg (c.bF ((E.mem a).1 f)) (c.bF ((E.mem b).1 g)) X e
  ·obtain⟨y,d,rfl⟩:=pH.1 g
   have Y:=(E.mem y).1 d;have A:=(E.mem a).1 f;rw[e] at A;have:=c.mul A (c.inv Y);rw[aG X (c.bF Y) (c.bF Y).inv,cG (c.bF Y),aZ X] at this;exact nx this
 have:=List.Nodup.length_le_of_subset nd (l₂:=M) λy d=>(F.mem y).2 (by
  rcases oD.1 d with d|d
  ·exact h y ((E.mem y).1 d)
  ·obtain⟨z,k,rfl⟩:=pH.1 d
   exact i.mul j (h z ((E.mem z).1 k)))
 rw[iV,iA] at this;omega
theorem IA {W W':Nat->Prop}{h h':H}{i d:V}{n:Nat}{O c:LN}{R m:jJ}{l:LN}{x:List Nat}(a:GC W h i n O R (bM n (· ∈l)))(b:GC W' h' d n c m (bM n (· ∈l++ [x])))(k: ∀g∈l++ [x],aY n g)(nx: ¬bM n (· ∈l) x):2*iW O n 0<=iW c n 0:=by
 obtain⟨E,e⟩:=dB a.cY a.isc;obtain⟨F,f⟩:=dB b.cY b.isc;rw[←e,←f];exact dbl a.cY b.cY E F (λy j=>bM.mono (λg o=>oD.2 (.inl o)) j) (bM.of k (by simp)) nx
theorem Gk (vl:V)(n:Nat)(l:LN)(h:H)(n0:1<=n)(n7:n<=7)(hl:l.length<1000000)(hv:SP h vl l)(hP: ∀g∈l,aY n g):
  Ev T 202 [aC n,vl] h (λv h'=> ∃O R,GC (λid=>id<h.next) h' v n O R (bM n (· ∈l))/\Fr h h'):=by
 refine dW rE rfl ?_
 obtain⟨B,hB⟩:=exI h.next
 obtain⟨s,e1,n1,g1,o1,f1⟩:=dK hB [aC 0,.aD,.aD]
 obtain⟨id,a7,ws,sh,J,b7,hc,a8⟩:=hv.open
 rw[iA] at sh J b7 hc
 simp(disch:=omega)only[go_sem,rE,aE,hB,e1]
 refine (rL .aD n [] s n0 n7 (by simp) (SR.aD s) (λg h=>by cases h)).mono ?_
 rintro _ K ⟨vc,O0,R0,rfl,P,f2⟩
 obtain⟨G,t,rfl,oO,oR⟩:=P.shape
 have n2:=f2.next
 obtain⟨C,hC⟩:=exI K.next
 obtain⟨h3,e3,n3,g3,o3,f3⟩:=dK hC [aC 0,.aD,.aD]
 obtain⟨h4,e4,n4,g4,o4⟩:=mV h3 C [aC n,G,t]
 have lv:=hv.lens
 rw[iA] at lv
 have a4:Fr K h4:=⟨om,λq d=>by rw[o4 q om,o3 q om]⟩
 simp(disch:=omega)only[go_sem,hC,e3,cF h3 C 0 (v:= aC n) (u:=G) (w:=t) rfl oO oR,g3,cH,e4]
 have a0: ∀g∈([]:LN),g∈l:=λg h=>by cases h
 refine bQ (λvs a=> ∃(G t:V) (O:LN) (R:jJ),(∃g:Nat->V,vs= [g 0,g 1,.ptr B 0,.ptr C 0,g 4,g 5,g 6,g 7])/\a.get C=some (.cells false [aC n,G,t])/\GC (λq=>q<B+1) a (.agg [aC n,G,t]) n O R (bM n (· ∈l))/\Fr s a/\C<a.next) ?_ ?_
 ·refine aI (λk' vs a=> ∃(i:Nat) (Z:V) (L:List V) (kept:LN) (b:Nat) (G t:V) (O:LN) (R:jJ),(∃g:Nat->V,vs= [aC n,vl,.ptr B 0,.ptr C 0,Z,aC i,g 6,g 7])/\i<=l.length/\dH a Z 1 L s.next/\dZ (λq=>B<=q) h L kept/\a.get C=some (.cells false [aC n,G,t])/\GC (λq=>q<b∨q=C∨bY Z q) a (.agg [aC n,G,t]) n O R (bM n (· ∈kept))/\B<b/\(∀q,bY Z q->q≠C)/\Fr s a/\C<a.next/\(∀g∈kept,g∈l)/\(∀g∈l.take i,bM n (· ∈kept) g)/\2^kept.length<=iW O n 0/\k'=l.length-i) l.length
   ⟨0,.aD, [], [],B+1,G,t,O0,R0,aB rfl,iB _,dH.aD _ _ _,trivial,g4,?_,Nat.lt_succ_self _,λq ⟨_,_,_,e⟩=>(by cases e),⟨om,λq d=>by rw[a4.get q om];exact f2.get q d⟩,om,a0,λg h=>(by cases h),?_,rfl⟩ ?_
  ·refine (P.kO (W':=λq=>q<B+1∨q=C∨bY .aD q) λq hn d=>?_).mono a4
   rcases d with h|h|⟨_,_,_,e⟩
   ·show q<s.next;omega
   ·omega
   ·cases e
  ·exact Mz n 0 λj _ K=>(P.row om).1
  rintro k' a5 a ⟨i,Z,L,kept,b,xO,xR,O,R,⟨g,rfl⟩,hi,ow,pv,W,r,b4,a2,F,nC,hk,ht,b5,rfl⟩
  by_cases a1:(i:Int)<(l.length:Int)
  case neg=>
   have d4:=bI a1;obtain rfl:i=l.length:=om
   simp(disch:=omega)only[go_sem,lv,d4];rw[List.take_length] at ht;have f: ∀g∈kept,aY n g:=λg p=>hP g (hk g p)
   exact⟨xO,xR,O,R,aB rfl,W,(r.kO λq _ (h:q<B+1)=> .inl om).congr λy=>⟨bM.mono hk,bM.le (bM.cY f) ht⟩,F,nC⟩
  have d4:=cI a1
  have k:i<l.length:=om
  have Fh:Fr h a:=f1.trans F
  have ci:a.cell id (a7+i)=some (ws.getD i .undef):=by rw[Fh.cell (J om),hc i k]
  have U:=xJ a8 k
  have X:aY n (l.getD i []):=hP _ (bC k)
  have xl:l.getD i []∈l:=bC k
  have tm:=MO k
  generalize ws.getD i .undef=Y at ci U
  generalize l.getD i []=x at U X xl tm
  have fb:Fr a (H.mk a.tr (a.next+7)):=(Fr.refl a).bH om
  simp(disch:=omega)only[go_sem,lv,d4,aJ W,sh.ixa,ci]
  refine (BA _ Y n O R _ x _ n0 om r.cY r.isc (r.ch.mono fb) (U.mono (Fh.trans fb)) X).mono ?_
  rintro _ h5 ⟨bb,rfl,a9,f5⟩
  have A:=fb.trans f5
  have n5:=A.next
  have nF:=F.next
  cases bb with
  |true=>
   simp(disch:=omega)only[go_sem];rw[fJ i]
   exact⟨l.length-(i+1),om,i+1,Z,L,kept,b,xO,xR,O,R,aB rfl,om,ow.fr A,pv,by rw[A.get C nC];exact W,r.mono A,b4,a2,F.trans A,om,hk,λg p=>by
    rcases (tm g).1 p with h|h
    ·exact ht g h
    ·rw[h];exact a9.1 rfl,b5,rfl⟩
  |false=>
   have nx: ¬bM n (· ∈kept) x:=λh=>by have:=a9.2 h;cases this
   have b9:kept.length<=12:=by
    have:=jE r;apply Jj;intro hc;have:2^13<=2^kept.length:=Nat.pow_le_pow_right om om;omega
   have lw:=aN.length pv;have b1:h5.cell id (a7+i)=some Y:=by rw[A.cell (by have:=J om;have:=Fh.next;omega)];exact ci
   obtain⟨h6,a6,N,f6,n6,o6⟩:=Je (v:=Y) (ow.fr A) (F.trans A) om (bytes:=24) om;have wx:=SV.cT U;simp(disch:=omega)only[go_sem,sh.ixa,b1,cK h5 (z:= .aD) wx.1 wx.2.1,a6];generalize b8:V.sl (h5.next+1) 0 (L.length+1) (.un 1)=v6 at N;have f: ∀g∈kept++ [x],aY n g:=λg p=>(oD.1 p).elim (λh=>hP g (hk g h)) λh=>by rw[List.mem_singleton.1 h];exact X
   have px:PV (λq=>B<=q) h Y x:=⟨U,HN (b:=B) U om λ_ h=>h⟩
   have a3:dZ (λq=>B<=q) h (L++ [Y]) (kept++ [x]):=aN.append pv (dZ.one px);have b0:Fr h h6:=f1.trans f6;refine (rL v6 n (kept++ [x]) h6 n0 n7 (by rw[iV,List.length_singleton];omega) (dZ.LO N.sv (dZ.fr a3 b0)) f).mono ?_;rintro _ h7 ⟨vc,O2,R2,rfl,Q,f7⟩;obtain⟨yO,yR,rfl,pO,pR⟩:=Q.shape;have c0:=f7.next
   have b3:h7.get C=some (.cells false [aC n,xO,xR]):=by
    rw[f7.get C om,o6 C om λq o m c e e2=>a2 q ⟨o,m,c,e⟩ e2.symm,A.get C nC];exact W
   obtain⟨h8,e8,n8,g8,o8⟩:=mV h7 C [aC n,yO,yR];simp(disch:=omega)only[go_sem,cF h7 C 0 (v:= aC n) (u:=yO) (w:=yR) rfl pO pR,b3,cH,e8];rw[fJ i];have b6: ∀q,bY v6 q->q=h5.next+1:=λq ⟨_,_,_,e⟩=>by rw[←b8] at e;cases e;rfl
   have b2:Fx (λq=>q<h6.next) h7 h8:=⟨om,λq s K=>o8 q λe=>K (by show q<_;omega)⟩
   refine⟨l.length-(i+1),om,i+1,v6,L++ [Y],kept++ [x],h6.next,yO,yR,O2,R2,aB rfl,om,?_,a3,g8,?_,om,λq d=>by have:=b6 q d;omega,?_,om,?_,?_,?_,rfl⟩
   ·refine N.mono om λq o m c e _ s=>?_
    have:=b6 q ⟨o,m,c,e⟩;rw[o8 q om,f7.get q om]
   ·refine Q.go b2 λq _ d=>?_
    show q<h6.next;rcases d with h|h|h
    ·exact h
    ·omega
    ·have:=b6 q h;omega
   ·have F7:=f6.trans f7
    exact⟨by have:=F7.next;omega,λq d=>by rw[o8 q om];exact F7.get q d⟩
   ·intro g p
    rcases oD.1 p with h|h
    ·exact hk g h
    ·rw[List.mem_singleton.1 h];exact xl
   ·intro g p
    rcases (tm g).1 p with h|h
    ·exact bM.mono (λg p=>oD.2 (.inl p)) (ht g h)
    ·rw[h];exact bM.of f (by simp)
   ·have:=IA r Q f nx
    rw[iV,List.length_singleton,Nat.pow_succ];omega
 rintro a5 a ⟨xO,xR,O,R,⟨g,rfl⟩,W,r,F,nC⟩
 obtain⟨_,qO,qR⟩:=r.one
 have gB:a.get B=some (.cells false [aC 0,.aD,.aD]):=by rw[F.get B om];exact g1
 obtain⟨h9,e9,n9,g9,o9⟩:=mV a B [aC n,xO,xR]
 simp(disch:=omega)only[go_sem,aJ W,cF a B 0 (v:= aC n) (u:=xO) (w:=xR) rfl qO qR,gB,cH,e9,aJ g9]
 have Fh:Fr h a:=f1.trans F
 refine⟨O,R,r.go ⟨om,λq s K=>o9 q λe=>K (by show q<_;omega)⟩ λq _ (h:q<B)=>by show q<B+1;omega,⟨by have:=Fh.next;omega,λq d=>by rw[o9 q om];exact Fh.get q d⟩⟩
def Mk (n:Nat)(G K:List Nat->Prop)(x:List Nat):List Nat->Prop:=NC n (λa=>K a∨a=x) G
def RG (L:LN)(r:List Nat)(x:List Nat):Prop:= ∃i,i∈r/\L.getD i []=x
section
variable {n:Nat} {G K K':List Nat->Prop} {O O':LN} {R R':jJ} {x y:List Nat} {L:LN} {r r':List Nat}
theorem Mk.cY (c:dO n G)(le: ∀x,K x->G x)(d:G x):dO n (Mk n G K x):=
 NC.cY (λa h=>c.bF (h.elim (le a) λe=>by rw[e];exact d)) λb h=>c.bF h
theorem Mk.le (c:dO n G)(le: ∀x,K x->G x)(g:G x)(h:Mk n G K x y):G y:=
 NC.le h c (λa h=>h.elim (le a) λe=>by rw[e];exact g) λy b f d=>c.mul (c.mul (c.inv d) f) d
theorem abZ (i:dO n G)(c:aV n G O R)(l:dO n K)(d:aV n K O' R')(le: ∀x,K x->G x)(o:G x)(y:List Nat):NC n (· ∈bP R'++ [x]) (· ∈bP R) y↔Mk n G K x y:=by
 have q: ∀a,a∈bP R'++ [x]->aY n a:=λa j=>(oD.1 j).elim (λh=>l.bF (bE d h)) λh=>by rw[List.mem_singleton.1 h];exact i.bF o
 have m: ∀b,b∈bP R->aY n b:=λb h=>i.bF (bE c h)
 constructor
 ·intro h
  exact NC.le h (Mk.cY i le o) (λa j=>(oD.1 j).elim (λh=>NC.of (.inl (bE d h))) λh=>NC.of (.inr (List.mem_singleton.1 h))) λy b f e=>NC.cj f (bE c e)
 ·intro h
  have k:=NC.cY q m;refine NC.le h k ?_ λy b f e=>Nu k m (λy b f e=>NC.cj f e) (oG i c e) y f
  rintro a (h|rfl)
  ·exact bM.le k (λg p=>NC.of (oD.2 (.inl p))) (oG l d h)
  ·exact NC.of (oD.2 (.inr (List.mem_singleton.2 rfl)))
theorem Mk.iff (e: ∀x,K x↔K' x)(y:List Nat):Mk n G K x y↔Mk n G K' x y:=by
 have:K=K':=funext λx=>propext (e x)
 rw[this]
theorem Rk.uniq (a:Rk L K r)(b:Rk L K r'):r=r':=pL a.asc b.asc λi=>(a.mem i).trans (b.mem i).symm
theorem Rk.iff (E:cZ G L)(le: ∀x,K x->G x)(a:Rk L K r)(x:List Nat):K x↔RG L r x:=by
 constructor
 ·intro h
  obtain⟨i,hi,rfl⟩:=Ad.1 ((E.mem x).2 (le x h));have e:L.getD i []=L[i]:=by rw[List.getD,dD hi];rfl
  exact⟨i,(a.mem i).2 ⟨hi,by rw[e];exact h⟩,e⟩
 ·rintro⟨i,hi,rfl⟩
  exact ((a.mem i).1 hi).2
theorem Rk.self (a:Rk L K r)(E:cZ G L):Rk L (RG L r) r:=⟨a.asc,λi=>⟨λh=>⟨((a.mem i).1 h).1,i,h,rfl⟩,λ⟨hi,j,hj,e⟩=>by
 have b:=((a.mem j).1 hj).1;rw[List.getD,dD b,List.getD,dD hi] at e;have:j=i:=(List.getElem_inj E.nodup).1 e
 rw[←this];exact hj⟩⟩
theorem Rk.len (g:dO n K)(d:aV n K O' R')(E:cZ G L)(le: ∀x,K x->G x)(a:Rk L K r):r.length=iW O' n 0:=by
 obtain⟨F,e⟩:=dB g d;rw[←e]
 have p:(r.map λi=>L.getD i []).Perm (dM O' R' n 0 (aX n)):=by
  refine (List.perm_ext_iff_of_nodup ?_ F.nodup).2 λx=>?_
  ·refine List.pairwise_map.2 (List.Pairwise.imp_of_mem (λ{i j} hi f (ne:i<j) e=>?_) a.asc)
   have b:=((a.mem i).1 hi).1;have c:=((a.mem j).1 f).1;rw[List.getD,dD b,List.getD,dD c] at e;have:=(List.getElem_inj E.nodup).1 e;omega
  ·rw[F.mem,a.iff E le,pH]
   rfl
 have:=p.length_eq;rwa [iA] at this
end
open Classical in
noncomputable def Lf (L:LN)(K:List Nat->Prop):List Nat:=(List.range L.length).filter λi=>decide (K (L.getD i []))
open Classical in
theorem zH (L:LN)(K:List Nat->Prop):Rk L K (Lf L K):=⟨List.pairwise_lt_range.filter _,λi=>by
 unfold Lf
 rw[Rq,Dj,Ak]⟩
noncomputable def Ai (n:Nat)(G:List Nat->Prop)(L:LN)(r:List Nat)(i:Nat):List Nat:=Lf L (Mk n G (RG L r) (L.getD i []))
def uD (l:LN)(a:List Nat):LN:=if a∈l then l else l++ [a]
noncomputable def GZ (n:Nat)(G:List Nat->Prop)(L:LN)(r:List Nat)(K:List Nat):LN:=K.foldl (λl i=>if i∈r then l else uD l (Ai n G L r i)) []
def Xp (l:LN)(a:List Nat):Bool:=l.any λb=>decide (b.length<a.length)&&b.all λi=>decide (i∈a)
def KL (l:LN):LN:=l.filter λa=>!Xp l a
def lexB:List Nat->List Nat->Bool
 | [], []=>false
 | [],_::_=>true
 |_::_, []=>false
 |a::l,b::m=>if a=b then lexB l m else decide (a<b)
def JE:LN->List Nat
 | []=> []
 |a::l=>l.foldl (λm x=>if lexB x m then x else m) a
noncomputable def Qx (n:Nat)(G:List Nat->Prop)(L:LN)(K:List Nat)(r:List Nat):List Nat:=JE (KL (GZ n G L r K))
theorem yI {l:LN}{a x:List Nat}:x∈uD l a↔x∈l∨x=a:=by
 unfold uD;split
 ·rename_i h
  exact⟨.inl,λk=>k.elim id λe=>by rw[e];exact h⟩
 ·simp
theorem Gu {n:Nat}{G:List Nat->Prop}{L:LN}{r K:List Nat}{x:List Nat}:x∈GZ n G L r K↔ ∃i,i∈K/\i∉r/\x=Ai n G L r i:=by
 have d: ∀(K:List Nat) (l:LN),x∈K.foldl (λl i=>if i∈r then l else uD l (Ai n G L r i)) l↔x∈l∨ ∃i,i∈K/\i∉r/\x=Ai n G L r i:=by
  intro K
  induction K with
  |nil=>intro l;simp
  |cons k K ih=>
   intro l;rw[List.foldl_cons,ih];split
   ·rename_i h
    refine or_congr_right ⟨λ⟨i,a,c,b⟩=>⟨i,wI _ a,c,b⟩,λ⟨i,a,c,b⟩=>?_⟩;rcases vI.1 a with rfl|a
    ·exact absurd h c
    ·exact⟨i,a,c,b⟩
   ·rename_i h
    rw[yI,or_assoc];refine or_congr_right ⟨?_,λ⟨i,a,c,b⟩=>?_⟩
    ·rintro (e|⟨i,a,c,b⟩)
     ·exact⟨k,tQ,h,e⟩
     ·exact⟨i,wI _ a,c,b⟩
    ·rcases vI.1 a with rfl|a
     ·exact .inl b
     ·exact .inr ⟨i,a,c,b⟩
 exact (d K []).trans (by simp)
theorem YZ: ∀{l:LN},l≠ []->JE l∈l
 |a::l,_=>by
  have c: ∀(l:LN) (a:List Nat),l.foldl (λm x=>if lexB x m then x else m) a=a∨l.foldl (λm x=>if lexB x m then x else m) a∈l:=by
   intro l
   induction l with
   |nil=>exact λa=> .inl rfl
   |cons b l ih=>
    intro a;rw[List.foldl_cons];split
    ·exact .inr ((ih b).elim (λe=>by rw[e];exact tQ) (wI _))
    ·exact (ih a).imp id (wI _)
  show l.foldl _ a∈_;exact (c l a).elim (λe=>by rw[e];exact tQ) (wI _)
theorem RV {l:LN}(h:l≠ []):KL l≠ []:=by
 have c: ∀(k:Nat) (a:List Nat),a∈l->a.length<=k->KL l≠ []:=by
  intro k
  induction k with
  |zero=>
   intro a d i e
   have:a∈KL l:=Rq.2 ⟨d,by
    rw[Bool.not_eq_true'];refine List.any_eq_false.2 λb f=>?_
    simp;omega⟩
   rw[e] at this;cases this
  |succ k ih=>
   intro a d i
   by_cases h:Xp l a=true
   ·obtain⟨b,f,g⟩:=List.any_eq_true.1 h
    simp only[sE,Ak] at g;exact ih b f om
   ·intro e
    have:a∈KL l:=Rq.2 ⟨d,by simp [h]⟩;rw[e] at this;cases this
 cases l with
 |nil=>exact absurd rfl h
 |cons a l=>exact c _ a tQ (dT _)
theorem RM {W:Nat->Prop}(vc x:V)(n:Nat)(O:LN)(R:jJ)(G:List Nat->Prop)(l:LN)(h:H)(c:GC W h vc n O R G)(hl:l.length<=4096)(sl:SP h x l)(hP: ∀g∈l,aY n g):
  Ev T 107 [vc,x] h (λv h'=> ∃vr O2 R2,v= .tup [vr,aC 0]/\GC (λq=>q<h.next) h' vr n O2 R2 (NC n (· ∈l) (· ∈bP R))/\Fr h h'):=by
 obtain⟨Y,P,rfl,oO,oR⟩:=c.shape
 refine dW lJ rfl ?_
 have n0:=c.n0
 have t:=c.n7
 have hG:=c.cY
 obtain⟨B,hB⟩:=exI h.next
 obtain⟨h1,e1,n1,g1,o1,f1⟩:=dK hB [aC n,Y,P]
 obtain⟨j,e2,n2,g2,o2,f2⟩:=dK n1 [aC 0,.aD,.aD]
 have F2:=f1.trans f2
 have o: ∀d,Fr j d->d.get B=aF [aC n,Y,P]:=λd f=>by rw[f.get B om,o2 B om];exact g1
 have gA: ∀d,Fr j d->d.get (B+1)=aF [aC 0,.aD,.aD]:=λd f=>by rw[f.get _ om];exact g2
 simp(disch:=omega)only[go_sem,lJ,aE,bV h (v:= aC n) (u:=Y) (w:=P) rfl oO oR,hB,e1,n1,e2,aJ (o j (Fr.refl _))]
 refine ((c.mono F2).check).mono ?_
 rintro _ h3 ⟨rfl,Q⟩
 simp(disch:=omega)only[go_sem]
 refine bA (λz=>(z rfl).elim) (λ_=>?_)
 simp(disch:=omega)only[go_sem,H.cell_of (o h3 Q)]
 refine (Ms x n l h3 n0 t hl (sl.mono (F2.trans Q)) hP).mono ?_
 rintro _ h4 ⟨vm,Om,Rm,rfl,gm,f4⟩
 obtain⟨mO,mR,rfl,U,y⟩:=gm.shape
 obtain⟨M,hM⟩:=exI h4.next
 obtain⟨h5,e5,n5,g5,o5,f5⟩:=dK hM [aC 0,.aD,.aD]
 obtain⟨i,e6,n6,g6,o6⟩:=mV h5 M [aC n,mO,mR]
 simp(disch:=omega)only[go_sem,hM,e5,cF h5 M 0 (v:= aC n) (u:=mO) (w:=mR) rfl U y,g5,cH,e6]
 refine bA (λz=>(z rfl).elim) (λ_=>?_)
 have N:Fr h4 i:=⟨om,λq hq=>by rw[o6 q om,o5 q om]⟩
 have b:=Q.trans (f4.trans N)
 have fb: ∀k,i.next<=k->Fr i (H.mk i.tr k):=λk hk=>(Fr.refl i).bH hk
 simp(disch:=omega)only[go_sem,H.cell_of (o i b),aJ (o i b)]
 refine (zA _ n O R G h _ c (F2.trans (b.trans (fb _ om)))).mono ?_
 rintro va s ⟨wA,F,pA,f7⟩
 have J:=(fb _ om).trans f7
 have a:=b.trans J
 have cB:SW (s.cell B 0) (aC n)=true:=by rw[H.cell_of (o s a)];simp [SW,dI]
 simp(disch:=omega)only[go_sem]
 refine⟨cB,?_⟩
 have sA:=rT hG c.isc
 have nn:n*n<=7*7:=Nat.mul_le_mul t t
 have Z:SP s va (bP R):=dZ.LO (W:=λ_=>False) F.sv (aN.mono (λ_ _ p=>⟨p.si.mono (F2.trans a),Ct _⟩) pA)
 refine (Tm x va n l (bP R) s n0 t hP (λg hg=>hG.bF (bE c.isc hg)) om om (sl.mono (F2.trans a)) Z).mono ?_
 rintro _ K ⟨D,rfl,hD,bd,f8⟩
 obtain⟨xO,xR,O2,R2,gD,r⟩:=bd.ex
 obtain⟨_,L,A⟩:=r.one
 have m:=a.trans f8
 obtain⟨h9,e9,n9,g9,o9⟩:=mV K (B+1) [aC n,xO,xR]
 simp(disch:=omega)only[go_sem,aJ gD,cF K (B+1) 0 (v:= aC n) (u:=xO) (w:=xR) rfl L A,gA K m,cH,e9,aJ g9]
 have q2:=a.next
 have q8:=f8.next
 refine⟨_,O2,R2,rfl,?_,⟨om,λq hq=>by rw[o9 q om,m.get q om];exact F2.get q hq⟩⟩
 exact r.go ⟨om,λq h1 j=>o9 q λe=>j (.inl om)⟩ λq _ h=> .inl om
structure Nm (W:Nat->Prop)(n:Nat)(L:LN)(h:H)(p:V×V×V)(r:List Nat):Prop where
 ch: ∃O R,GC W h (.agg [aC n,p.1,p.2.1]) n O R (RG L r)
 si:SI h p.2.2 (zi r)
 off:Ej W p.2.2
 rk:Rk L (RG L r) r
abbrev AY (n:Nat)(p:V×V×V):V:= .agg [aC n,p.1,p.2.1,p.2.2]
section
variable {W W':Nat->Prop} {n:Nat} {L:LN} {h h':H} {p:V×V×V} {r:List Nat}
theorem Nm.go (m:Nm W n L h p r)(f:Fx W h h')(a: ∀q,q<h.next->W' q->W q):Nm W' n L h' p r:=by
 obtain⟨O,R,g⟩:=m.ch;exact⟨⟨O,R,g.go f a⟩,SV.fx m.si m.off f,Ej.kO m.off m.si a,m.rk⟩
theorem Nm.mono (m:Nm W n L h p r)(f:Fr h h'):Nm W n L h' p r:=m.go (Fx.of f) λ_ _ h=>h
theorem Nm.one (m:Nm W n L h p r):p.1.one=true/\p.2.1.one=true/\p.2.2.one=true:=by
 obtain⟨O,R,g⟩:=m.ch;exact⟨g.one.2.1,g.one.2.2,(SV.cT m.si).2.1⟩
theorem Nm.eq (m:Nm W n L h p r):dI p.1 p.1=true/\dI p.2.1 p.2.1=true/\dI p.2.2 p.2.2=true:=by
 obtain⟨O,R,g⟩:=m.ch;obtain⟨_,_,_,_,e,b,_,_,a,_,_⟩:=g.cw;simp only[V.agg.injEq,List.cons.injEq,and_true,true_and] at e;rw[e.1,e.2];exact⟨SV.dI b,SV.dI a,SV.dI m.si⟩
theorem DQ {h h':H}(f:Fr h h'){id off k:Nat}(a:id<h.next):h'.row id off k=h.row id off k:=by
 unfold H.row;rw[f.get id a]
theorem Rk.short (m:Rk L (RG L r) r):r.length<=L.length:=by
 have:=List.Nodup.length_le_of_subset (l₂:=List.range L.length) (m.asc.imp λh=>Nat.ne_of_lt h) λi hi=>Dj.2 ((m.mem i).1 hi).1
 rwa [Xf] at this
end
theorem YB.few {n:Nat}{O:LN}{R:jJ}{G:List Nat->Prop}{L:LN}{K:List Nat}{h:H}{p:Nat}(l:YB n O R G L K h p):L.length<=5040/\cZ G L/\dO n G/\aV n G O R/\1<=n/\n<=7:=by
 obtain⟨d,c,M,i,g,b,a,sp,f⟩:=l.ex;obtain⟨E,e⟩:=dB a.cY a.isc;rw[l.hL] at E e;exact⟨by rw[e];exact jE a,E,a.cY,a.isc,a.n0,a.n7⟩
theorem gY (h:H){a b c d:V}(g:a.one=true)(i:b.one=true)(e:c.one=true)(f:d.one=true):Ce h (.agg [a,b,c,d])=some (.ptr h.next 0,h.new (.cells false [a,b,c,d])):=lG h _ (by simp [g,i,e,f])
theorem IE {W:Nat->Prop}(f:Nat)(p:V×V×V)(s:V)(n:Nat)(O:LN)(R:jJ)(G:List Nat->Prop)(L:LN)(K r:List Nat)(i:Nat)(h:H)(Ag:YB n O R G L K h f)(l:Nm W n L h p r)(hi:i<L.length)(q:SI h s (zi (L.getD i []))):
  Ev T 48 [.ptr f 0,AY n p,s] h (λv h'=>v= .bool (decide (i∈r))/\Fr h h'):=by
 obtain⟨o1,o2,o3⟩:=l.one
 obtain⟨ll,E,hG,a0,n0,n7⟩:=Ag.few
 obtain⟨F,U,M,A,gT,gM,gc,_,nM⟩:=Ag.ex
 have Z:=Ag.nx
 have rl:=l.rk.short
 refine dW rR rfl ?_
 obtain⟨B,Y⟩:=exI h.next
 obtain⟨m,e1,n1,J,q1,j⟩:=dK Y [aC n,p.1,p.2.1,p.2.2]
 have P:=lE hG E hi
 have N:(L.getD i []).length<=1000:=by rw[P.len];omega
 have Q: ∀x∈L.getD i [],x<256:=λx q=>by have:=P.lt x q;omega
 have g:m.get f=some (.cells false [aC n,F,U,.mp M,A]):=by rw[j.get f Z];exact gT
 simp(disch:=omega)only[go_sem,rR,aE,gY h (a:= aC n) (b:=p.1) (c:=p.2.1) (d:=p.2.2) rfl o1 o2 o3,Y,e1,H.cell_of J,H.cell_of g]
 refine (Nn s (L.getD i []) _ N Q (q.mono (j.trans ((Fr.refl m).bH om)))).mono ?_
 rintro _ o ⟨rfl,f2⟩
 have e:=((Fr.refl m).bH (n:=m.next+15) om).trans f2
 have t:o.get B=some (.cells false [aC n,p.1,p.2.1,p.2.2]):=by rw[e.get B om];exact J
 have y:o.get f=some (.cells false [aC n,F,U,.mp M,A]):=by rw[e.get f om];exact g
 have w:o.get M=some (.wmap .str (Jl L L.length)):=by rw[(j.trans e).get M nM];exact gM
 have lk:=λz=>Gg E.nodup hi (zJ N Q) z
 have u:dI p.2.2 p.2.2=true:=SV.dI l.si
 simp(disch:=omega)only[go_sem,H.cell_of t,H.cell_of y,w,lk,u,show dI (.mp M) (.mp M)=true from by simp [dI]]
 refine (Gi p.2.2 r i o om l.rk.asc (l.si.mono (j.trans e))).mono ?_
 rintro _ h3 ⟨k,b,rfl,hb,_,f3⟩
 simp(disch:=omega)only[go_sem]
 refine⟨?_,j.trans (e.trans f3)⟩
 congr 1
 exact DW.2 (hb.trans Ak.symm)
theorem HU (s:Nat)(n:Nat)(O:LN)(R:jJ)(G:List Nat->Prop)(L:LN)(K:List Nat)(h:H)(Ag:YB n O R G L K h s):
  Ev T 47 [.ptr s 0] h (λv h'=> ∃p,v=AY n p/\Nm (λq=>q<h.next) n L h' p (Lf L λx=>x=aX n)/\Fr h h'):=by
 obtain⟨ll,E,hG,a4,n0,n7⟩:=Ag.few
 obtain⟨lO,lR,M,lr,gT,gM,gc,_,nM⟩:=Ag.ex
 have nT:=Ag.nx
 refine dW oN rfl ?_
 obtain⟨B,hB⟩:=exI h.next
 obtain⟨j,z,n1,g1,q1,Y⟩:=dK hB [aC 0,.aD,.aD,.aD]
 have a1:j.get s=some (.cells false [aC n,lO,lR,.mp M,lr]):=by rw[Y.get s nT];exact gT
 simp(disch:=omega)only[go_sem,oN,aE,hB,z,H.cell_of a1]
 refine (Ms .aD n [] j n0 n7 (by show 0<=4096;omega) ⟨[],SV.aD j 1,trivial⟩ (λg Z=>by cases Z)).mono ?_
 rintro _ y ⟨vm,Om,Rm,rfl,P,l⟩
 obtain⟨m,k,rfl,t,o⟩:=P.shape
 obtain⟨A,hA⟩:=exI y.next
 obtain⟨h3,e3,n3,g3,o3,f3⟩:=dK hA [aC 0,.aD,.aD]
 obtain⟨Q,e4,n4,g4,o4⟩:=mV h3 A [aC n,m,k]
 have f:Fr y Q:=⟨om,λq hq=>by rw[o4 q om,o3 q om]⟩
 simp(disch:=omega)only[go_sem,hA,e3,cF h3 A 0 (v:= aC n) (u:=m) (w:=k) rfl t o,g3,cH,e4,aJ g4]
 have z: ∀x,bM n (· ∈([]:LN)) x↔x=aX n:=λx=>⟨λh=>by
  have e: ∀g,g∈([]:LN)->g=aX n:=λg Z=>by cases Z
  have r:=bM.le (Um n) e h
  exact r,λh=>by rw[h];exact .one⟩
 have F:=Y.trans (l.trans f)
 refine (PF s _ n O Om R Rm G _ L K Q (Ag.mono F) (((P.kO (W':=λ_=>False) λ_ _ h=>h.elim).mono f).congr z) (λx hx=>by rw[hx];exact hG.one)).mono ?_
 rintro _ J ⟨vO,vR,U,r,e5,rfl,sr,rk,a2,N⟩
 obtain⟨rfl,rfl⟩:m=vO/\k=vR:=by simpa using e5
 obtain rfl:=rk.uniq (zH _ _)
 have oR:=(SV.cT sr).2.1
 have gB:J.get B=some (.cells false [aC 0,.aD,.aD,.aD]):=by rw[N.get B (by have:=l.next;omega),f.get B (by have:=l.next;omega),l.get B om];exact g1
 obtain⟨h6,e6,n6,g6,o6⟩:=mV J B [aC n,m,k,U]
 simp(disch:=omega)only[go_sem,kV J B 0 (a:= aC n) (b:=m) (c:=k) (d:=U) rfl t o oR,gB,jS,e6,iD g6]
 have a5:=l.next
 have a3:=N.next
 have Fb:Fx (· =B) J h6:=⟨om,λq j y=>o6 q y⟩
 have a0:=((((P.mono f).mono N).go (Fx.wide Fb λq (e:q=B)=>(by omega:q<j.next)) (W':=λq=>q<B) λq _ h=>(by have:q<B:=h;omega:q<j.next)).congr z).congr (rk.iff E λx hx=>by rw[hx];exact hG.one)
 have i:=Ej.kO (W':=λq=>q<B∨q=B) a2 sr λq _ h=>(by have:q<B∨q=B:=h;omega:q<Q.next)
 refine⟨(m,k,U),rfl,⟨⟨Om,Rm,a0⟩,SV.fx sr i (Fx.wide Fb λq h=> .inr h),Ej.kO i sr λq _ h=> .inl h,rk.self E⟩,⟨om,λq hq=>by rw[o6 q om,N.get q om,f.get q om,l.get q om];exact Y.get q hq⟩⟩
theorem Zs {W:Nat->Prop}(T0:Nat)(p:V×V×V)(vx:V)(n:Nat)(O:LN)(R:jJ)(G:List Nat->Prop)(L:LN)(K r:List Nat)(i:Nat)(h:H)(Ag:YB n O R G L K h T0)(nm:Nm W n L h p r)(hi:i<L.length)(A:SI h vx (zi (L.getD i []))):
  Ev T 50 [.ptr T0 0,AY n p,vx] h (λv h'=> ∃q,v=AY n q/\Nm (λq=>q<h.next) n L h' q (Ai n G L r i)/\Fr h h'):=by
 obtain⟨o1,o2,o3⟩:=nm.one
 obtain⟨ll,E,hG,b1,n0,n7⟩:=Ag.few
 obtain⟨lO,lR,M,lr,gT,gM,gc,_,nM⟩:=Ag.ex
 obtain⟨_,oO,oR⟩:=gc.one
 have nT:=Ag.nx
 obtain⟨Op,Rp,P⟩:=nm.ch
 refine dW pZ rfl ?_
 obtain⟨B,hB⟩:=exI h.next
 obtain⟨h1,e1,n1,g1,q1,f1⟩:=dK hB [aC n,p.1,p.2.1,p.2.2]
 obtain⟨l,e2,n2,g2,q2,f2⟩:=dK n1 [aC 0,.aD,.aD,.aD]
 have F2:=f1.trans f2
 have gB: ∀j,Fr l j->j.get B=some (.cells false [aC n,p.1,p.2.1,p.2.2]):=λj f=>by rw[f.get B om,q2 B om];exact g1
 have gA: ∀j,Fr l j->j.get (B+1)=some (.cells false [aC 0,.aD,.aD,.aD]):=λj f=>by rw[f.get _ om];exact g2
 have a2: ∀j,Fr l j->j.get T0=some (.cells false [aC n,lO,lR,.mp M,lr]):=λj f=>by rw[f.get _ om,F2.get T0 nT];exact gT
 have a9: ∀{j:H} {id:Nat} {a b c d:V},j.get id=some (.cells false [a,b,c,d])->j.row id 0 3=some [a,b,c]:=λhg=>by simp [H.row,hg,sub]
 have a0: ∀{j:H} {id:Nat} {a b c d e:V},j.get id=some (.cells false [a,b,c,d,e])->j.row id 0 3=some [a,b,c]:=λhg=>by simp [H.row,hg,sub]
 simp(disch:=omega)only[go_sem,pZ,aE,gY h (a:= aC n) (b:=p.1) (c:=p.2.1) (d:=p.2.2) rfl o1 o2 o3,hB,e1,n1,e2,a9 (gB l (Fr.refl _))]
 refine (Sd _ n Op Rp _ l (P.mono F2)).mono ?_
 rintro _ k ⟨vs,rfl,nl⟩
 have f3:=nl.fr
 obtain⟨ws,W1,ow,pv,bk,lW⟩:=nl.ex
 have lw:=aN.length pv
 have sl:=rT P.cY P.isc
 have nn:n*n<=7*7:=Nat.mul_le_mul n7 n7
 have wx:=SV.cT A
 obtain⟨C,hC⟩:=exI k.next
 simp(disch:=omega)only[go_sem,a0 (a2 k f3),cK (H.mk k.tr (k.next+6)) (z:= .aD) wx.1 wx.2.1]
 obtain⟨h4,e4,n4,g4,o4⟩:=KW k (k.next+6) (k.next+15) [vx]
 rw[e4]
 have a3:Fr k h4:=⟨om,λq J=>o4 q om⟩
 obtain⟨y,a5,p5⟩:=((ow.fr a3).le (iB _)).push (bytes:=24) (SV.one om g4 (.kn 1)) (n:=(bP Rp).length) (m:=1) om rfl om om om
 have n5:=p5.next
 have b8:=f3.next
 have vb: ∀id t m c,vs= .sl id t m c->l.next<=id:=λid t m c e=>(ow.in _ _ _ _ e).2.1
 have o:Fr l y:=⟨om,λq J=>by rw[p5.old q om (λid t m c e e2=>by have:=vb _ _ _ _ e;omega),o4 q om,f3.get q J]⟩
 have ec:dI lO lO=true/\dI lR lR=true:=by
  obtain⟨_,_,_,_,e,sO,_,_,sR,_,_⟩:=gc.cw;cases e;exact⟨SV.dI sO,SV.dI sR⟩
 simp(disch:=omega)only[go_sem,a5,a0 (a2 y o),ec.1,ec.2]
 have a8:Fx W1 h4 y:=p5.fx λid t m c e=>bk _ _ _ _ e
 have sw:SP y (.sl h4.next 0 ((bP Rp).length+1) (.un 1)) (bP Rp++ [L.getD i []]):=dZ.LO (W:=λ_=>False) (p5.own om rfl (iB _)).sv (aN.append (aN.mono (λ_ _ p=>⟨SV.fx (p.si.mono a3) (W:=W1) p.off a8,Ct _⟩) pv) ⟨⟨A.mono (F2.trans o),Ct _⟩,trivial⟩)
 have le: ∀x,RG L r x->G x:=λx A=>by
  obtain⟨i,hi,rfl⟩:=A;exact (E.mem _).1 (bC ((nm.rk.mem i).1 hi).1)
 have s:G (L.getD i []):=(E.mem _).1 (bC hi)
 refine (RM _ _ n O R G (bP Rp++ [L.getD i []]) y (gc.mono (F2.trans o)) (by rw[iV];show _+1<=4096;omega) sw (λg hg=>(oD.1 hg).elim (λh=>P.cY.bF (bE P.isc h)) λh=>by rw[List.mem_singleton.1 h];exact hG.bF s)).mono ?_
 rintro _ h6 ⟨vr,O2,R2,rfl,N,f6⟩
 obtain⟨Y,U,rfl,a1,a7⟩:=N.shape
 have n6:=f6.next
 obtain⟨h7,e7,c0,g7,o7⟩:=KW h6 (k.next+12) h6.next [aC 0,.aD,.aD]
 obtain⟨h8,e8,n8,g8,o8⟩:=mV h7 (k.next+12) [aC n,Y,U]
 simp(disch:=omega)only[go_sem,e7,cF h7 (k.next+12) 0 (v:= aC n) (u:=Y) (w:=U) rfl a1 a7,g7,cH,e8,aJ g8]
 have a6:Fr l h8:=⟨om,λq J=>by rw[o8 q om,o7 q om,f6.get q om,o.get q J]⟩
 have F:Fx (· =k.next+12) h6 h8:=⟨om,λq h1 l=>by rw[o8 q l,o7 q l]⟩
 have eN:=abZ hG b1 P.cY P.isc le s
 refine (PF T0 _ n O O2 R R2 G _ L K h8 (Ag.mono (F2.trans a6)) ((N.go (Fx.wide F λq (e:q=k.next+12)=>(by omega:q<y.next)) (W':=λ_=>False) λ_ _ h=>h.elim).congr eN) (λx A=>Mk.le hG le s A)).mono ?_
 rintro _ h9 ⟨vO,vR,vr,r',e9,rfl,sr,rk,b4,f9⟩
 obtain⟨rfl,rfl⟩:Y=vO/\U=vR:=by simpa using e9
 obtain rfl:=rk.uniq (zH _ _)
 have b2:=(SV.cT sr).2.1
 have Q:=a6.trans f9
 obtain⟨b3,b5,b7,b6,Z⟩:=mV h9 (B+1) [aC n,Y,U,vr]
 simp(disch:=omega)only[go_sem,kV h9 (B+1) 0 (a:= aC n) (b:=Y) (c:=U) (d:=vr) rfl a1 a7 b2,gA h9 Q,jS,b5,iD b6]
 have b9:=Q.next
 have c1:=f9.next
 have Fb:Fx (· =B+1) h9 b3:=⟨om,λq h1 l=>Z q l⟩
 have b0: ∀x,Mk n G (RG L r) (L.getD i []) x->G x:=λx A=>Mk.le hG le s A
 have hw: ∀q,(q<B∨q=B+1)->q<h8.next:=λq J=>om
 have gq:=((((N.go (Fx.wide F λq (e:q=k.next+12)=>(by omega:q<y.next)) (W':=λq=>q<B∨q=B+1) λq _ h=>(by have:q<B∨q=B+1:=h;omega:q<y.next)).mono f9).go (Fx.wide Fb λq h=> .inr h) (W':=λq=>q<B) λq _ h=> .inl h).congr eN).congr (rk.iff E b0)
 have a4:=Ej.kO (W':=λq=>q<B∨q=B+1) b4 sr λq _ h=>hw q h
 refine⟨(Y,U,vr),rfl,⟨⟨O2,R2,gq⟩,SV.fx sr a4 (Fx.wide Fb λq h=> .inr h),Ej.kO a4 sr λq _ h=> .inl h,rk.self E⟩,⟨om,λq J=>by rw[Z q om,Q.get q om];exact F2.get q J⟩⟩
section
variable {α:Type} {f:α->List V} {k:Nat}
theorem tS (b: ∀x,(f x).length=k): ∀ls:List α,(ls.flatMap f).length=ls.length*k
 | []=>by simp
 |a::l=>by rw[List.flatMap_cons,iV,b,tS b l,List.length_cons,Nat.succ_mul];omega
theorem DX (b: ∀x,(f x).length=k): ∀(ls:List α) (i:Nat) (hi:i<ls.length),((ls.flatMap f).drop (i*k)).take k=f ls[i]
 |a::l,0,_=>by rw[List.flatMap_cons,Nat.zero_mul,List.drop_zero,←b a,List.take_left];rfl
 |a::l,i+1,hi=>by
  have:=DX b l i (by simpa using hi);rw[List.flatMap_cons,show (i+1)*k=(f a).length+i*k from by rw[b,Nat.succ_mul];omega,List.drop_append,List.drop_eq_nil_of_le om,List.nil_append,Nat.add_sub_cancel_left];exact this
theorem SV.rec {h:H}{v:V}(g:0<k)(l: ∀x,(f x).length=k){ls:List α}(s:SV h v k (ls.flatMap f)){i:Nat}(hi:i<ls.length): ∃id off,Sl v k ls.length id off/\h.row id (off+i*k) k=some (f ls[i])/\id<h.next:=by
 have c:=tS l ls;obtain⟨id,off,m,_,_⟩:=s.shape ls.length c g;refine⟨id,off,m,?_⟩;have p:(i+1)*k<=ls.length*k:=Nat.mul_le_mul_right k om;rw[Nat.succ_mul] at p;rcases s with ⟨_,s⟩|⟨d,b,len,q,u,w,rfl,j,n,t,y,r⟩
 ·rw[s] at c
  have:0=ls.length*k:=c;omega
 ·have e:=m.ixa .i64 0 om om
  obtain⟨rfl,rfl⟩:d=id/\b=off:=by
   have a:len=ls.length:=Nat.eq_of_mul_eq_mul_right g (j.symm.trans c);have o:0<len:=om
   simpa [Gr,o] using e
  have a:len=ls.length:=Nat.eq_of_mul_eq_mul_right g (j.symm.trans c);subst a;refine⟨?_,n⟩;unfold H.row;rw[t];simp only[sub];rw[bJ om,←DX l ls i hi,←r,List.drop_take,List.take_take,Nat.min_eq_left om,List.drop_drop]
end
abbrev Bz (n:Nat)(p:V×V×V):List V:= [aC n,p.1,p.2.1,p.2.2]
def Ae (n:Nat)(ps:List (V×V×V)):List V:=ps.flatMap (Bz n)
theorem mS (n:Nat)(ps:List (V×V×V)):(Ae n ps).length=ps.length*4:=tS (k:=4) (f:=Bz n) (λ_=>rfl) ps
theorem Wg (n:Nat)(a b:List (V×V×V)):Ae n (a++b)=Ae n a++Ae n b:=by unfold Ae;rw[List.flatMap_append]
theorem Mq {h:H}{v:V}{n:Nat}{ps:List (V×V×V)}(s:SV h v 4 (Ae n ps)){i:Nat}(hi:i<ps.length): ∃id off,Sl v 4 ps.length id off/\h.row id (off+i*4) 4=some [aC n,ps[i].1,ps[i].2.1,ps[i].2.2]/\id<h.next:=SV.rec (k:=4) (f:=Bz n) om (λ_=>rfl) s hi
theorem Bo {h:H}{v:V}{n:Nat}{ps:List (V×V×V)}(s:SV h v 4 (Ae n ps)):bL v=some (aC (ps.length:Int)):=by
 unfold bL;rw[SV.len s (n:=ps.length) (mS n ps) om];rfl
theorem JH (o:V)(F:Nat)(l:List V)(n:Nat)(ps:List (V×V×V))(P:Nat->Bool)(h:H)(sv:SV h o 4 (Ae n ps))(y:ps.length<1000000)(s: ∀i (hi:i<ps.length) hh,Fr h hh->Ev T F (AY n ps[i]::l) hh (λv h'=>v= .bool (P i)/\Fr hh h')):
  Ev T 108 [o,.fn F [] l] h (λv h'=> ∃k:Int,v= aC k/\((k= -1/\ ∀i,i<ps.length->P i=false)∨ ∃i,i<ps.length/\k=(i:Int)/\P i=true/\ ∀j,j<i->P j=false)/\Fr h h'):=by
 refine dW fL rfl ?_
 have w:=Bo sv
 simp(disch:=omega)only[go_sem,fL,aE,w]
 refine aI (λr a hh=> ∃(i:Nat),(∃g:Nat->V,a= [o,.fn F [] l,g 2,g 3,aC (ps.length:Int),aC i,g 6,g 7])/\i<=ps.length/\(∀j,j<i->P j=false)/\Fr h hh/\r=ps.length-i) ps.length
  ⟨0,aB rfl,iB _,λj p=>om,Fr.refl h,rfl⟩ ?_
 rintro r a hh ⟨i,⟨g,rfl⟩,hi,m,f,rfl⟩
 by_cases c:(i:Int)<(ps.length:Int)
 case neg=>
  have d:=bI c;simp(disch:=omega)only[go_sem,d];exact⟨_,rfl,.inl ⟨rfl,λj p=>m j om⟩,f⟩
 have d:=cI c
 have b:i<ps.length:=om
 obtain⟨id,t,u,row,_⟩:=Mq (sv.mono f) b
 simp(disch:=omega)only[go_sem,d,u.ixa,row]
 refine (s i b hh f).mono ?_
 rintro _ x ⟨rfl,q⟩
 cases hP:P i with
 |true=>
  simp(disch:=omega)only[go_sem];exact⟨_,rfl,.inr ⟨i,b,rfl,hP,m⟩,f.trans q⟩
 |false=>
  simp(disch:=omega)only[go_sem];rw[fJ i]
  exact⟨ps.length-(i+1),om,i+1,aB rfl,om,λj p=>by
   by_cases e:j=i
   ·rw[e];exact hP
   ·exact m j om,f.trans q,rfl⟩
theorem GM (c:V)(F:Nat)(a:List V)(n:Nat)(ps:List (V×V×V))(P:Nat->Bool)(h:H)(sv:SV h c 4 (Ae n ps))(j:ps.length<1000000)(m: ∀i (hi:i<ps.length) hh,Fr h hh->Ev T F (AY n ps[i]::a) hh (λv h'=>v= .bool (P i)/\Fr hh h')):
  Ev T 54 [c,.fn F [] a] h (λv h'=>(∃b,v= .bool b/\(b=true↔ ∃i,i<ps.length/\P i=true))/\Fr h h'):=by
 refine dW eX rfl ?_
 simp(disch:=omega)only[go_sem,eX,aE]
 refine (JH c F a n ps P h sv j m).mono ?_
 rintro _ o ⟨k,rfl,g,f⟩
 simp(disch:=omega)only[go_sem]
 refine⟨⟨_,rfl,?_⟩,f⟩
 rcases g with ⟨rfl,d⟩|⟨i,hi,rfl,l,_⟩
 ·refine⟨λh=>by simp at h,λ⟨i,hi,e⟩=>by rw[d i hi] at e;cases e⟩
 ·exact⟨λ_=>⟨i,hi,l⟩,λ_=>cI om⟩
theorem aiP {a b:List Nat}:(zi a=zi b)=(a=b):=propext ⟨Wv,λh=>by rw[h]⟩
theorem PW (h:H){a b c d:V}(g:a.one=true)(j:b.one=true)(f:c.one=true)(i:d.one=true):mH h 4 [aC 0,.aD,.aD,.aD] 1 [(0,4,.agg [a,b,c,d])]=some (.sl h.next 0 1 (.kn 1),h.new (.cells false [a,b,c,d])):=by
 have e:dP [aC 0,.aD,.aD,.aD] (1*4)= [aC 0,.aD,.aD,.aD]:=rfl;simp [mH,iK,e,putAt,V.cells,g,j,f,i]
structure NmL (W:Nat->Prop)(n:Nat)(L:LN)(b:Nat)(h:H)(v:V)(rs:LN):Prop where
 ex: ∃ps,dH h v 4 (Ae n ps) b/\aN (Nm (λq=>W q∨bY v q) n L h) ps rs/\ ∀id off m c,v= .sl id off m c->h.get id=some (.cells false (Ae n ps))
theorem NmL.mono {W:Nat->Prop}{n:Nat}{L:LN}{b:Nat}{h h':H}{v:V}{rs:LN}(m:NmL W n L b h v rs)(f:Fr h h'):NmL W n L b h' v rs:=by
 obtain⟨i,o,a,e⟩:=m.ex;exact⟨i,o.fr f,aN.mono (λ_ _ x=>Nm.mono x f) a,λid g m c d=>by rw[f.get id (o.in _ _ _ _ d).1];exact e _ _ _ _ d⟩
theorem HZ {W:Nat->Prop}(n:Nat)(L:LN)(b Q:Nat)(j:V)(rs:LN)(p:V×V×V)(r:List Nat)(h:H)(m:NmL W n L b h j rs)(hb:b<=h.next)(U:Nm (λq=>W q∨bY j q) n L h p r)(hQ:h.get Q=some (.cells false [j]))(N:Q<h.next)(a5: ¬bY j Q)(a8:W Q)(hL:L.length<=5040)(hl:rs.length<1000000):
  Ev T 49 [.ptr Q 0,AY n p] h (λv h'=>v= .tup []/\ ∃vl',h'.get Q=some (.cells false [vl'])/\NmL W n L b h' vl' (uD rs r)/\Fx (λq=>q=Q∨bY j q) h h'/\ ∀q,bY vl' q->bY j q∨h.next<=q):=by
 obtain⟨l,ow,Z,_⟩:=m.ex
 obtain⟨o1,o2,o3⟩:=U.one
 have lp:=aN.length Z
 refine dW vW rfl ?_
 obtain⟨B,hB⟩:=exI h.next
 obtain⟨A,e1,n1,g1,q1,F⟩:=dK hB [aC n,p.1,p.2.1,p.2.2]
 have a0:A.get Q=some (.cells false [j]):=by rw[F.get Q N];exact hQ
 simp(disch:=omega)only[go_sem,vW,aE,gY h (a:= aC n) (b:=p.1) (c:=p.2.1) (d:=p.2.2) rfl o1 o2 o3,hB,e1,H.cell_of a0]
 have rl:=U.rk.short
 refine (GM j 104 [.ptr B 0] n l (λi=>decide (rs.getD i []=r)) A (ow.sv.mono F) om λi hi s f=>?_).mono ?_
 ·have mi:=aN.get Z i hi om
  obtain⟨a1,a2,a3⟩:=mi.one
  have ri:=mi.rk.short
  have gB:s.get B=some (.cells false [aC n,p.1,p.2.1,p.2.2]):=by rw[f.get B om];exact g1
  refine dW tB rfl ?_
  obtain⟨C,hC⟩:=exI s.next
  obtain⟨g,J,n2,g2,q2,t⟩:=dK hC [aC n,l[i].1,l[i].2.1,l[i].2.2]
  have a7:g.get B=some (.cells false [aC n,p.1,p.2.1,p.2.2]):=by rw[t.get B (by have:=f.next;omega)];exact gB
  simp(disch:=omega)only[go_sem,tB,aE,gY s (a:= aC n) (b:=l[i].1) (c:=l[i].2.1) (d:=l[i].2.2) rfl a1 a2 a3,hC,J,H.cell_of g2,H.cell_of a7]
  refine (Yh _ _ (zi rs[i]) (zi r) g (mi.si.mono (F.trans (f.trans t))) (U.si.mono (F.trans (f.trans t))) (by rw[aS];omega) (by rw[aS];omega)).mono ?_
  rintro _ R ⟨rfl,f3⟩
  simp(disch:=omega)only[go_sem]
  refine⟨?_,t.trans f3⟩
  congr 1
  rw[decide_eq_decide,aiP,List.getD,dD om]
  rfl
 rintro _ g ⟨⟨c,rfl,hc⟩,t⟩
 have F2:=F.trans t
 have G:c=true↔r∈rs:=by
  rw[hc];constructor
  ·rintro⟨i,hi,e⟩
   rw[←of_decide_eq_true e];exact bC om
  ·intro hr
   obtain⟨i,hi,rfl⟩:=Ad.1 hr;exact⟨i,om,cI (by rw[List.getD,dD hi];rfl)⟩
 have z:g.get Q=some (.cells false [j]):=by rw[F2.get Q N];exact hQ
 cases c with
 |true=>
  simp(disch:=omega)only[go_sem];refine⟨rfl,j,z,?_,Fx.of F2,λq h=> .inl h⟩;unfold uD;rw[bJ (G.1 rfl)];exact m.mono F2
 |false=>
  have hn:r∉rs:=λh=>by have:=G.2 h;cases this
  have r4:g.row B 0 4=some [aC n,p.1,p.2.1,p.2.2]:=iD (by rw[t.get B om];exact g1);obtain⟨R,e3,n3,g3,q3⟩:=KW g (g.next+6) (g.next+11) [aC n,p.1,p.2.1,p.2.2]
  have a9:Fr g R:=⟨om,λq hq=>q3 q om⟩
  obtain⟨P,a4,K⟩:=((ow.fr (F2.trans a9)).le (iB _)).push (bytes:=80) (SV.all (sz:=4) (len:=1) (vs:=Bz n p) rfl om g3 (.kn 1)) (n:=l.length) (m:=1) (mS n l) rfl om om om;have n4:=K.next;have b0:=F2.next;have vb: ∀id k m c,j= .sl id k m c->b<=id/\id<h.next:=λid k m c e=>by have:=ow.in _ _ _ _ e;omega
  have Y:dR j Q:=λid k m c e J=>a5 (by rw[e,J];exact⟨_,_,_,rfl⟩)
  have a6:P.get Q=some (.cells false [j]):=by rw[K.old Q om Y,q3 Q om];exact z
  have pt: ∀(s:H) (u w:V),eU (some (.cells false [u])) s Q 0 [w]=some (s.set Q (some (.cells false [w]))):=λs u w=>bT (by simp) s _ _
  simp(disch:=omega)only[go_sem,H.cell_of z,r4,PW (H.mk g.tr (g.next+6)) (a:= aC n) (b:=p.1) (c:=p.2.1) (d:=p.2.2) rfl o1 o2 o3,e3,a4,a6,pt];obtain⟨O,y⟩:=exI (P.set Q (some (Ob.cells false [V.sl R.next 0 (l.length+1) (pY.un 4)])));rw[y];have n5:O.next=P.next:=by rw[←y];rfl
  have o5: ∀q,q≠Q->O.get q=P.get q:=λq hq=>by rw[←y];exact H.aH _ hq _
  have fx:Fx (λq=>q=Q∨bY j q) h O:=⟨om,λq A g=>by
   rw[o5 q λe=>g (.inl e),K.old q om (λid k m c e J=>g (.inr (by rw[e,J];exact⟨_,_,_,rfl⟩))),q3 q om,F2.get q A]⟩
  have fw:Fx (λq=>W q∨bY j q) h O:=Fx.wide fx λq h=>h.imp (λe=>by rw[e];exact a8) id
  have wk: ∀q,q<h.next->(W q∨bY (V.sl R.next 0 (l.length+1) (pY.un 4)) q)->(W q∨bY j q):=λq A g=>g.elim .inl λ⟨k,m,c,e⟩=>by cases e;omega
  refine⟨rfl,_,rfl,?_,fx,λq ⟨k,m,c,e⟩=> .inr (by cases e;omega)⟩;unfold uD;rw[bU hn];refine⟨l++ [p],?_,aN.append (aN.mono (λ_ _ x=>Nm.go x fw wk) Z) ⟨U.go fw wk,trivial⟩,λid k m c e=>?_⟩
  rotate_left
  ·cases e
   rw[o5 _ om,Wg];exact K.get
  rw[Wg];exact (K.own (mS n l) rfl om).mono om λq o m c e _ A=>o5 q (by cases e;omega)
theorem IJ (u:V)(ws:List V)(m:Nat)(h:H)(a:ws.length=m*4)(z:0<m)(o:m<1000000)(f:SV h u 4 ws):
  Ev T 52 [u] h (λv h'=> ∃id cap rest,v= .sl id 0 m cap/\(cap= .un 4∨cap= .kn m/\rest= [])/\h.next<=id/\id<h'.next/\h'.get id=some (.cells false (ws++rest))/\Fr h h'):=by
 refine dW gJ rfl ?_
 have t:Ht false u=some (.bool false):=by
  rcases f with ⟨_,rfl⟩|⟨id,r,len,cap,x,y,rfl,g⟩
  ·simp at a;omega
  ·rfl
 have b:Fr h (h.new (.cells false [])):=(Fr.refl h).new _
 have s:dH (h.new (.cells false [])) (.sl h.next 0 0 (.kn 0)) 4 [] h.next:=dH.new h 4 0 _ [] rfl (dT _)
 obtain⟨w,g,i,A⟩:=s.app (bytes:=80) (by rw[H.aW];omega) (f.mono b) (n:=0) (m:=m) rfl a om om
 have l:mH h 4 [aC 0,.aD,.aD,.aD] 0 []=some (.sl h.next 0 0 (.kn 0),h.new (.cells false [])):=rfl
 simp(disch:=omega)only[go_sem,gJ,aE,t,l,i]
 have fr:=A.fr _ b (dT _)
 rcases A.own with ⟨_,e⟩|⟨id,k,cap,rest,rfl,d,j,p,q,c⟩
 ·rw[List.nil_append] at e
  rw[e] at a
  simp at a;omega
 ·rw[List.nil_append] at d c
  obtain rfl:k=m:=Nat.eq_of_mul_eq_mul_right (by omega:0<4) (d.symm.trans a)
  exact⟨id,cap,rest,rfl,j,p,q,c,fr⟩
def oT {α:Type}(P:Nat->Bool)(l:List α):List α:=l.zipIdx.filterMap λx=>if P x.2 then none else some x.1
section
variable {α β:Type} {P:Nat->Bool}
theorem MG (l:List α)(a:α):oT P (l++ [a])=oT P l++if P l.length then [] else [a]:=by
 unfold oT;rw[List.zipIdx_append,List.filterMap_append];congr 1;simp only[List.zipIdx_singleton,Nat.zero_add,List.filterMap_cons,List.filterMap_nil];split
 ·rename_i h
  split at h
  ·rename_i c;rw[bJ c]
  ·cases h
 ·rename_i b h
  split at h
  ·cases h
  ·rename_i c
   cases h;rw[bU c]
theorem qS {l:List α}{i:Nat}(hi:i<l.length):oT P (l.take (i+1))=oT P (l.take i)++if P i then [] else [l[i]]:=by
 rw[List.take_succ_eq_append_getElem hi,MG,zO,Nat.min_eq_left om]
theorem Kf {l:List α}: ∀{i:Nat},i<=l.length->(∀j,j<i->P j=false)->oT P (l.take i)=l.take i
 |0,_,_=>rfl
 |i+1,hi,h=>by
  rw[qS om,Kf om λj a=>h j om,bU (by rw[h i om];exact Bool.false_ne_true),List.take_succ_eq_append_getElem om]
theorem CA {R:α->β->Prop}{l:List α}{m:List β}(a:aN R l m):aN R (oT P l) (oT P m):=by
 have c:=aN.length a
 have b: ∀i,i<=l.length->aN R (oT P (l.take i)) (oT P (m.take i)):=by
  intro i
  induction i with
  |zero=>exact λ_=>trivial
  |succ i ih=>
   intro hi;rw[qS om,qS om];refine aN.append (ih om) ?_;split
   ·trivial
   ·exact⟨aN.get a i om om,trivial⟩
 have:=b l.length (dT _);rwa [List.take_length,c,List.take_length] at this
end
section
variable {rest:List V} {k:Nat}
def WJ (h:H)(sz:Nat)(zero:List V):V->Option (V×H)
 | .aD=>some (V.undef,h)
 | .emp _=>some (V.undef,h)
 | .sl id off len _=>if len=0 then some (V.undef,h) else
   if zero.length=sz/\zero.all V.one=true then (h.put id off (dP zero (len*sz))).map (λh'=>(V.undef,h')) else none
 |_=>none
theorem GQ (ρ:X->V)(h:H)(sz:Nat)(zero:List V)(x:X):fC ρ h (.clr sz zero x)=WJ h sz zero (ρ x):=by
 simp only[fC,WJ]
 rfl
section
variable {α:Type} {f:α->List V} {s:Nat} (hf: ∀x,(f x).length=s)
include hf
theorem FX {ps:List α}{i:Nat}(hi:i<ps.length):sub (ps.flatMap f++rest) (i*s) s=some (f ps[i]):=by
 have e:=DX hf ps i hi;have l:=tS hf ps;have a:(i+1)*s<=ps.length*s:=Nat.mul_le_mul_right s om;rw[Nat.succ_mul] at a;unfold sub;rw[bJ (by rw[iV];omega),List.drop_append,List.take_append_of_le_length (by rw[Gb];omega)];exact congrArg some e
theorem GG {ps:List α}(c:k<ps.length)(p:α):putAt (ps.flatMap f++rest) (k*s) (f p)=some ((ps.set k p).flatMap f++rest):=by
 have l:=tS hf ps;have g:(k+1)*s<=ps.length*s:=Nat.mul_le_mul_right s om;rw[Nat.succ_mul] at g;have e:ps.take k++ [ps[k]]++ps.drop (k+1)=ps:=by rw[←List.take_succ_eq_append_getElem c,List.take_append_drop]
 have i:ps.set k p=ps.take k++ [p]++ps.drop (k+1):=by rw[List.set_eq_take_append_cons_drop,bJ c,Lz];rfl
 have d:=tS hf (ps.take k);rw[zO,Nat.min_eq_left om] at d;have a:=tS hf (ps.take k++ [ps[k]]);rw[iV,zO,Nat.min_eq_left om] at a;have a:((ps.take k++ [ps[k]]).flatMap f).length=(k+1)*s:=a;rw[Nat.succ_mul] at a;have b:ps.flatMap f++rest=(ps.take k++ [ps[k]]).flatMap f++((ps.drop (k+1)).flatMap f++rest):=by rw[←Lz,←List.flatMap_append,e]
 unfold putAt;rw[bJ (by rw[iV,l,hf];omega)];refine congrArg some ?_
 have j:(ps.flatMap f++rest).take (k*s)=(ps.take k).flatMap f:=by
  rw[b,List.flatMap_append,Lz,←d,List.take_left]
 have h:(ps.flatMap f++rest).drop (k*s+(f p).length)=(ps.drop (k+1)).flatMap f++rest:=by
  rw[b,hf,←a,List.drop_left]
 rw[j,h,i,List.flatMap_append,List.flatMap_append,Lz,Lz,Lz];simp
end
section
variable {n:Nat}
theorem abL {ps:List (V×V×V)}{i:Nat}(hi:i<ps.length):sub (Ae n ps++rest) (i*4) 4=some (Bz n ps[i]):=FX (s:=4) (f:=Bz n) (λ_=>rfl) hi
theorem adD {ps:List (V×V×V)}(a:k<ps.length)(p:V×V×V):putAt (Ae n ps++rest) (k*4) (Bz n p)=some (Ae n (ps.set k p)++rest):=GG (s:=4) (f:=Bz n) (λ_=>rfl) a p
theorem aaB {id m:Nat}{a:pY}(d:a= .un 4∨a= .kn m/\rest= [])(b:k<=m): ∃off cap',rY 4 (.sl id 0 m a) (some (aC k)) none none=some (.sl id off (m-k) cap')/\(k<m->off=k*4):=by
 rcases d with rfl|⟨rfl,_⟩
 ·by_cases h:k<m
  ·exact⟨k*4,_,by simp [rY,nP,b,h];rfl,λ_=>rfl⟩
  ·exact⟨0,.un 4,by simp [rY,nP,b,h];omega,λc=>absurd c h⟩
 ·by_cases h:m=k
  ·exact⟨0,_,by simp [rY,nP,b,h];rfl,λc=>om⟩
  ·exact⟨k*4,_,by simp [rY,nP,b,h];rfl,λ_=>rfl⟩
theorem aaA {id m:Nat}{a:pY}(c:a= .un 4∨a= .kn m/\rest= [])(b:k<=m)(d:0<m): ∃cap',rY 4 (.sl id 0 m a) none (some (aC k)) none=some (.sl id 0 k cap'):=by
 rcases c with rfl|⟨rfl,_⟩
 ·exact⟨_,by simp [rY,nP,b,d];rfl⟩
 ·exact⟨_,by simp [rY,nP,b,show m≠0 by omega];rfl⟩
end
theorem YI (id m:Nat)(r:pY)(rest:List V)(F:Nat)(cs:List V)(n:Nat)(ps:List (V×V×V))(P:Nat->Bool)(h:H)(K:id<h.next)(hg:h.get id=some (.cells false (Ae n ps++rest)))(hc:r= .un 4∨r= .kn m/\rest= [])(hm:ps.length=m)(h0:0<m)(w:m<1000000)(one: ∀p∈ps,p.1.one=true/\p.2.1.one=true/\p.2.2.one=true)(hf: ∀i (hi:i<ps.length) hh,Fx (· =id) h hh->Ev T F (AY n ps[i]::cs) hh (λv h'=>v= .bool (P i)/\Fr hh h')):
  Ev T 51 [.sl id 0 m r,.fn F [] cs] h (λv h'=>SV h' v 4 (Ae n (oT P ps))/\Fx (· =id) h h'):=by
 refine dW fH rfl ?_
 have sv:SV h (.sl id 0 m r) 4 (Ae n ps):= .inr ⟨id,0,m,r,false,_,rfl,by rw[mS,hm],K,hg,by rw[iV,mS];omega,by rw[List.drop_zero,List.take_append_of_le_length (by rw[mS];omega),←hm,←mS n ps,List.take_length]⟩
 simp(disch:=omega)only[go_sem,fH,aE]
 refine (JH _ F cs n ps P h sv om λi hi hh f=>hf i hi hh (Fx.of f)).mono ?_
 rintro _ t ⟨k,rfl,J,Y⟩
 rcases J with ⟨rfl,hn⟩|⟨O,a2,rfl,L,hn⟩
 ·simp(disch:=omega)only[go_sem,eq_self,decide_true]
  have e:oT P ps=ps:=by
   have:=Kf (P:=P) (l:=ps) (dT _) hn;rwa [List.take_length] at this
  rw[e]
  exact⟨sv.mono Y,Fx.of Y⟩
 have d0:decide ((O:Int)= -1)=false:=bI om
 simp(disch:=omega)only[go_sem,d0]
 rw[fJ O]
 refine aI (λk' y hh=> ∃(i k:Nat) (o:List (V×V×V)),(∃g:Nat->V,y= [.sl id 0 m r,.fn F [] cs,g 2,aC k,aC i,g 5,g 6,g 7,g 8])/\i<=m/\o.length=m/\k<=i/\o.take k=oT P (ps.take i)/\o.drop i=ps.drop i/\hh.get id=some (.cells false (Ae n o++rest))/\Fx (· =id) h hh/\k'=m-i) (m-(O+1))
  ⟨O+1,O,ps,aB rfl,om,hm,om,?_,rfl,by rw[Y.get id K];exact hg,Fx.of Y,rfl⟩ ?_
 ·rw[qS a2,Kf om hn,bJ L,tZ]
 clear hn L d0 Y
 rintro k' y hh ⟨i,k,o,⟨g,rfl⟩,hi,lc,ki,J,hd,gc,F2,rfl⟩
 by_cases N:(i:Int)<(m:Int)
 case neg=>
  have d1:=bI N;obtain rfl:i=m:=om
  obtain⟨a4,cp,s1,s2⟩:=aaB (id:=id) hc ki;obtain⟨W,s3⟩:=aaA (id:=id) hc ki h0;rw[←hm,List.take_length] at J;have n2:=F2.next;have l4:=mS n o
  have R: ∀A u,A.next=hh.next->A.get id=some (.cells false u)->u.take (k*4)=Ae n (o.take k)->k*4<=u.length->SV A (.sl id 0 k W) 4 (Ae n (oT P ps)):=λA u e1 e2 e3 e4=>by
   rw[←J];exact .inr ⟨id,0,k,W,false,u,rfl,by rw[mS,zO];rw[Nat.min_eq_left om],om,e2,om,by rw[List.drop_zero];exact e3⟩
  have t4:(Ae n o++rest).take (k*4)=Ae n (o.take k):=by
   have e:Ae n o=Ae n (o.take k)++Ae n (o.drop k):=by rw[←Wg,List.take_append_drop]
   have l1:=mS n (o.take k);rw[zO,Nat.min_eq_left om] at l1;rw[e,Lz,List.take_append_of_le_length om,←l1,List.take_length]
  by_cases e:k=i
  ·have cz:WJ hh 4 [aC 0,.aD,.aD,.aD] (.sl id a4 (i-k) cp)=some (V.undef,hh):=by simp [WJ,e]
   simp(disch:=omega)only[go_sem,d1,s1,GQ,cz,s3];exact⟨R hh _ rfl gc t4 (by rw[iV];omega),F2⟩
  ·obtain rfl:=s2 om
   have zl:(dP [aC 0,.aD,.aD,.aD] ((i-k)*4)).length=(i-k)*4:=by simp [dP]
   obtain⟨u,z⟩:=exI ((Ae n o++rest).take (k*4)++dP [aC 0,.aD,.aD,.aD] ((i-k)*4)++(Ae n o++rest).drop (k*4+(i-k)*4));have ik:k*4+(i-k)*4=i*4:=by rw[←Nat.add_mul];congr 1;omega
   have pa:putAt (Ae n o++rest) (k*4) (dP [aC 0,.aD,.aD,.aD] ((i-k)*4))=some u:=by
    unfold putAt;rw[zl,bJ (by rw[iV];omega),z]
   have a1:((Ae n o++rest).take (k*4)).length=k*4:=by rw[zO,Nat.min_eq_left (by rw[iV];omega)]
   have tv:u.take (k*4)=Ae n (o.take k):=by rw[←z,Lz,List.take_append_of_le_length om,Ro om,t4]
   have cz:WJ hh 4 [aC 0,.aD,.aD,.aD] (.sl id (k*4) (i-k) cp)=some (V.undef,hh.set id (some (.cells false u))):=by
    show (if i-k=0 then _ else if _ then _ else none)=_;rw[bU om,bJ ⟨rfl,rfl⟩];unfold H.put;rw[gc];simp only[pa,Option.map_some]
   simp(disch:=omega)only[go_sem,d1,s1,GQ,cz,s3];exact⟨R _ u rfl (H.aU _ _ _) tv (by rw[←z,iV,iV,a1];omega),⟨n2,λq w t=>by rw[H.aH _ t];exact F2.get q w t⟩⟩
 have d1:=cI N
 have a0:i<m:=om
 have ix: ∀j:Nat,j<m->Gr 4 (.sl id 0 m r) (aC j)=some (.ptr id (j*4)):=λj hj=>by simp [Gr,hj]
 have lP:i<ps.length:=om
 have ci:o[i]'om=ps[i]:=by
  have:=congrArg (λl=>l[0]?) hd;simp only[List.getElem?_drop,Nat.add_zero] at this;rw[dD om,dD lP] at this;exact Option.some.inj this
 have Q:hh.row id (i*4) 4=some (Bz n ps[i]):=by
  rw[←ci];unfold H.row;rw[gc];exact abL om
 obtain⟨o1,o2,o3⟩:=one _ (xG lP)
 have fi:=hf i lP
 have U:oT P (ps.take (i+1))=oT P (ps.take i)++if P i then [] else [ps[i]]:=qS lP
 generalize ps[i]=p at Q o1 o2 o3 fi U ci
 obtain⟨B,hB⟩:=exI hh.next
 obtain⟨A,e3,n3,g3,q3,f3⟩:=dK hB [aC 0,.aD,.aD,.aD]
 obtain⟨h4,e4,n4,g4,q4⟩:=mV A B (Bz n p)
 have n2:=F2.next
 have Z:Fr hh h4:=⟨om,λq hq=>by rw[q4 q om,q3 q om]⟩
 have F4:Fx (· =id) h h4:=⟨om,λq w t=>by rw[Z.get q om];exact F2.get q w t⟩
 simp(disch:=omega)only[go_sem,d1,ix i a0,Q,hB,e3,kV A B 0 (a:= aC n) (b:=p.1) (c:=p.2.1) (d:=p.2.2) rfl o1 o2 o3,g3,jS,e4,iD g4]
 refine (fi h4 F4).mono ?_
 rintro _ G ⟨rfl,f5⟩
 have F5:Fx (· =id) h G:=⟨by have:=f5.next;omega,λq w t=>by rw[f5.get q om];exact F4.get q w t⟩
 have g5:G.get id=some (.cells false (Ae n o++rest)):=by rw[f5.get id om,Z.get id om];exact gc
 have a3:G.get B=some (.cells false (Bz n p)):=by rw[f5.get B om];exact g4
 cases L:P i with
 |true=>
  rw[L,bJ rfl,tZ] at U;simp(disch:=omega)only[go_sem];rw[fJ i];exact⟨m-(i+1),om,i+1,k,o,aB rfl,om,lc,om,by rw[J,U],by rw[←List.drop_drop,hd,List.drop_drop],g5,F5,rfl⟩
 |false=>
  rw[L,bU (by simp)] at U
  have pt:eU (some (.cells false (Ae n o++rest))) G id (k*4) (Bz n p)=some (G.set id (some (.cells false (Ae n (o.set k p)++rest)))):=by
   have:=adD (n:=n) (ps:=o) (rest:=rest) (k:=k) om p;simp only[eU,this,Option.map_some]
  simp(disch:=omega)only[go_sem,iD a3,ix k om,kV G id (k*4) (a:= aC n) (b:=p.1) (c:=p.2.1) (d:=p.2.2) rfl o1 o2 o3,g5,pt];rw[show (i:Int)+1=((i+1:Nat):Int) from om,show (k:Int)+1=((k+1:Nat):Int) from om];have lk:k<o.length:=om
  refine⟨m-(i+1),om,i+1,k+1,o.set k p,aB rfl,om,by rw[List.length_set];exact lc,om,?_,?_,rfl,⟨by have:=F5.next;simp only[H.cV];omega,λq w t=>by rw[H.aH _ t];exact F5.get q w t⟩,rfl⟩
  ·rw[List.take_succ_eq_append_getElem (by rw[List.length_set];exact lk),List.getElem_set_self,List.take_set_of_le (dT _),J,U]
  ·rw[List.drop_set_of_lt om,←List.drop_drop,hd,List.drop_drop]
end
def Ja:List Nat->List Nat->Int
 | [], []=>0
 | [],_::_=> -1
 |_::_, []=>1
 |a::l,b::m=>if a=b then Ja l m else Cls.sF a b
theorem Uj: ∀(a b:List Nat),Ja a b<0↔lexB a b=true
 | [], []=>by simp [Ja,lexB]
 | [],_::_=>by simp [Ja,lexB]
 |_::_, []=>by simp [Ja,lexB]
 |a::l,b::m=>by
  unfold Ja lexB;split
  ·exact Uj l m
  ·unfold Cls.sF
   rw[Ak];split
   ·omega
   ·split<;>omega
theorem aeG (w A:V)(a b:List Nat)(h:H)(N:SI h w (zi a))(O:SI h A (zi b))(W:a.length<1000000)(U:b.length<1000000):
  Ev T 109 [w,A] h (λv h'=>v= aC (Ja a b)/\Fr h h'):=by
 refine dW nH rfl ?_
 have x:=N.lens
 have lb:=O.lens
 rw[aS] at x lb
 obtain⟨id,B,F,q,J⟩:=N.open
 obtain⟨y,p,u,k,t⟩:=O.open
 rw[aS] at F q J u k t
 simp(disch:=omega)only[go_sem,nH,aE,x,lb]
 refine aI (λP l n=> ∃(i:Nat),(∃g:Nat->V,l= [w,A,g 2,g 3,g 4,g 5,g 6,w,aC (a.length:Int),aC i,g 10,g 11,g 12,g 13])/\i<=a.length/\i<=b.length/\Ja a b=Ja (a.drop i) (b.drop i)/\Fr h n/\P=a.length-i) a.length
  ⟨0,aB rfl,iB _,iB _,rfl,Fr.refl h,rfl⟩ ?_
 rintro P l n ⟨i,⟨g,rfl⟩,hi,Y,c,f,rfl⟩
 by_cases r:(i:Int)<(a.length:Int)
 case neg=>
  have s:=bI r;rw[List.drop_eq_nil_of_le om] at c
  by_cases o:(a.length:Int)<(b.length:Int)
  ·have m:=cI o
   rw[Zh (show i<b.length by omega)] at c;simp(disch:=omega)only[go_sem,s,x,lb,m];exact⟨by rw[c];rfl,f⟩
  ·have m:=bI o
   rw[List.drop_eq_nil_of_le om] at c;simp(disch:=omega)only[go_sem,s,x,lb,m];exact⟨by rw[c];rfl,f⟩
 have s:=cI r
 have j:i<a.length:=om
 have G:n.cell id (B+i)=some (aC (a.getD i 0:Nat)):=by rw[f.cell (q om),J i j];congr 2;simp [zi,j]
 rw[Zh j] at c
 have R:a.getD i 0=a[i]:=by rw[List.getD,dD j];rfl
 by_cases o:(b.length:Int)<=(i:Int)
 ·have m:=cI o
  rw[show b.drop i= [] from List.drop_eq_nil_of_le om] at c
  simp(disch:=omega)only[go_sem,s,F.ixa,G,lb,m]
  exact⟨by rw[c];rfl,f⟩
 have m:=bI o
 have d:i<b.length:=om
 have L:n.cell y (p+i)=some (aC (b.getD i 0:Nat)):=by rw[f.cell (k om),t i d];congr 2;simp [zi,d]
 rw[Zh d] at c
 have Q:b.getD i 0=b[i]:=by rw[List.getD,dD d];rfl
 rw[R] at G
 rw[Q] at L
 simp(disch:=omega)only[go_sem,s,F.ixa,G,lb,m,u.ixa,L]
 refine (Cls.zF _ _ n).mono ?_
 rintro _ Z ⟨rfl,K⟩
 rw[show Ja (a[i]::a.drop (i+1)) (b[i]::b.drop (i+1))=if a[i]=b[i] then Ja (a.drop (i+1)) (b.drop (i+1)) else Cls.sF a[i] b[i] from rfl] at c
 by_cases e:a[i]=b[i]
 ·rw[bJ e] at c
  have z:decide (Cls.sF (a[i]:Int) (b[i]:Int)≠0)=false:=bI (by rw[e];unfold Cls.sF;rw[bU om,bU om];omega)
  simp(disch:=omega)only[go_sem,z]
  rw[fJ i]
  exact⟨a.length-(i+1),om,i+1,aB rfl,om,om,c,f.trans K,rfl⟩
 ·rw[bU e] at c
  have z:decide (Cls.sF (a[i]:Int) (b[i]:Int)≠0)=true:=cI (by unfold Cls.sF;split;omega;split<;>omega)
  simp(disch:=omega)only[go_sem,z]
  exact⟨by rw[c],f.trans K⟩
section
variable {W W':Nat->Prop} {L:LN} {h:H} {p q:V×V×V} {a b:List Nat}
theorem JD (n:Nat)(P:L.length<=5040)(f:Nm W n L h p a)(j:Nm W' n L h q b):
  Ev T 58 [AY n p,AY n q] h (λv h'=>v= aC (Ja a b)/\Fr h h'):=by
 obtain⟨A,z,G⟩:=f.one
 obtain⟨t,J,u⟩:=j.one
 have K:=f.rk.short
 have lb:=j.rk.short
 refine dW zN rfl ?_
 obtain⟨B,m⟩:=exI h.next
 obtain⟨o,y,l,r,Q,e⟩:=dK m [aC n,p.1,p.2.1,p.2.2]
 obtain⟨k,w,O,x,F,i⟩:=dK l [aC n,q.1,q.2.1,q.2.2]
 have g:k.get B=some (.cells false (Bz n p)):=by rw[F B om];exact r
 simp(disch:=omega)only[go_sem,zN,aE,gY h (a:= aC n) (b:=p.1) (c:=p.2.1) (d:=p.2.2) rfl A z G,m,y,gY o (a:= aC n) (b:=q.1) (c:=q.2.1) (d:=q.2.2) rfl t J u,l,w,H.cell_of g,H.cell_of x]
 refine (aeG _ _ a b k (f.si.mono (e.trans i)) (j.si.mono (e.trans i)) om om).mono ?_
 rintro _ N ⟨rfl,s⟩
 simp(disch:=omega)only[go_sem]
 exact e.trans (i.trans s)
theorem aaY (n:Nat)(hL:L.length<=5040)(w:Nm W n L h p a)(y:Nm W' n L h q b):
  Ev T 56 [AY n p,AY n q] h (λv h'=>v= .bool (a.all λi=>decide (i∈b))/\Fr h h'):=by
 obtain⟨o1,o2,o3⟩:=w.one
 obtain⟨u1,u2,u3⟩:=y.one
 have la:=w.rk.short
 have lb:=y.rk.short
 refine dW zY rfl ?_
 obtain⟨B,U⟩:=exI h.next
 obtain⟨Z,e1,P,g1,q1,f1⟩:=dK U [aC n,p.1,p.2.1,p.2.2]
 obtain⟨z,e2,n2,g2,q2,f2⟩:=dK P [aC n,q.1,q.2.1,q.2.2]
 have G:z.get B=some (.cells false (Bz n p)):=by rw[q2 B om];exact g1
 have F2:=f1.trans f2
 have N:=w.si.lens
 rw[aS] at N
 obtain⟨id,A,R,r,K⟩:=w.si.open
 rw[aS] at R r K
 simp(disch:=omega)only[go_sem,zY,aE,gY h (a:= aC n) (b:=p.1) (c:=p.2.1) (d:=p.2.2) rfl o1 o2 o3,U,e1,gY Z (a:= aC n) (b:=q.1) (c:=q.2.1) (d:=q.2.2) rfl u1 u2 u3,P,e2,H.cell_of G,N]
 refine aI (λY l m=> ∃(i:Nat),(∃g:Nat->V,l= [g 0,g 1,g 2,.ptr (B+1) 0,.bool false,g 5,g 6,p.2.2,aC (a.length:Int),aC i,g 10,g 11])/\i<=a.length/\(∀j (u:j<i) (Q:j<a.length),a[j]∈b)/\Fr z m/\Y=a.length-i) a.length
  ⟨0,aB rfl,iB _,λj u=>om,Fr.refl z,rfl⟩ ?_
 rintro Y l m ⟨i,⟨g,rfl⟩,hi,J,f,rfl⟩
 by_cases s:(i:Int)<(a.length:Int)
 case neg=>
  have F:=bI s;simp(disch:=omega)only[go_sem,F];refine⟨?_,F2.trans f⟩;congr 1;refine (zP.2 λx hx=>?_).symm;obtain⟨j,u,rfl⟩:=Ad.1 hx;exact cI (J j om u)
 have F:=cI s
 have t:i<a.length:=om
 have c1:m.cell id (A+i)=some (aC (a[i]:Nat)):=by rw[(F2.trans f).cell (r om),K i t];congr 2;simp [zi,t]
 have gq:m.get (B+1)=some (.cells false (Bz n q)):=by rw[f.get _ om];exact g2
 simp(disch:=omega)only[go_sem,F,R.ixa,c1,H.cell_of gq]
 refine (Gi q.2.2 b a[i] m om y.rk.asc (y.si.mono (F2.trans f))).mono ?_
 rintro _ h3 ⟨k,c,rfl,o,_,O⟩
 cases c with
 |true=>
  simp(disch:=omega)only[go_sem,Bool.not_true];rw[fJ i]
  exact⟨a.length-(i+1),om,i+1,aB rfl,om,λj u Q=>by
   by_cases e:j=i
   ·subst e;exact o.1 rfl
   ·exact J j om Q,f.trans O,rfl⟩
 |false=>
  simp(disch:=omega)only[go_sem,Bool.not_false];refine⟨?_,F2.trans (f.trans O)⟩;congr 1;refine (List.all_eq_false.2 ⟨a[i],xG _,?_⟩).symm;rw[Ak];exact λh=>by have:=o.2 h;cases this
theorem aaP (n B:Nat)(J:L.length<=5040)(j:Nm W n L h p a)(k:Nm W' n L h q b)(G:h.get B=some (.cells false (Bz n q)))(U:B<h.next):
  Ev T 55 [AY n p,.ptr B 0] h (λv h'=>v= .bool (decide (a.length<b.length)&&a.all λi=>decide (i∈b))/\Fr h h'):=by
 obtain⟨y,x,z⟩:=j.one
 obtain⟨Q,Y,R⟩:=k.one
 have N:=j.rk.short
 have lb:=k.rk.short
 refine dW oF rfl ?_
 obtain⟨C,u⟩:=exI h.next
 obtain⟨A,w,P,o,K,g⟩:=dK u [aC n,p.1,p.2.1,p.2.2]
 have l:B≠C:=om
 have e:A.get B=some (.cells false (Bz n q)):=by rw[K B l];exact G
 have t:=j.si.lens
 rw[aS] at t
 have m:=k.si.lens
 rw[aS] at m
 by_cases f:(a.length:Int)<(b.length:Int)
 case neg=>
  have s:=bI f;have r:decide (a.length<b.length)=false:=bI om;simp(disch:=omega)only[go_sem,oF,aE,gY h (a:= aC n) (b:=p.1) (c:=p.2.1) (d:=p.2.2) rfl y x z,u,w,H.cell_of e,H.cell_of o,t,m,s,r,Bool.false_and];exact g
 ·have s:=cI f
  have r:decide (a.length<b.length)=true:=cI om
  simp(disch:=omega)only[go_sem,oF,aE,gY h (a:= aC n) (b:=p.1) (c:=p.2.1) (d:=p.2.2) rfl y x z,u,w,H.cell_of e,H.cell_of o,t,m,s,iD e,iD o]
  refine (aaY n J (j.mono g) (k.mono g)).mono ?_
  rintro _ O ⟨rfl,F⟩
  simp(disch:=omega)only[go_sem,r,Bool.true_and]
  exact g.trans F
end
theorem NZ (l:List Nat):lexB l []=false:=by cases l<;>rfl
theorem EM {a b:List Nat}{i:Nat}(c:i<a.length)(d:i<b.length):lexB (a.drop i) (b.drop i)=if a[i]=b[i] then lexB (a.drop (i+1)) (b.drop (i+1)) else decide (a[i]<b[i]):=by
 rw[Zh c,Zh d,lexB]
theorem TO (z w:V)(a b:List Nat)(h:H)(N:SI h z (zi a))(L:SI h w (zi b))(Y:a.length<=5040)(lb:b.length<=5040):
  Ev T 64 [z,w] h (λv h'=>v= .bool (lexB a b)/\Fr h h'):=by
 refine dW qK rfl ?_
 have d:=N.lens
 have c:=L.lens
 rw[aS] at d c
 obtain⟨R,U,F,n,l⟩:=N.open
 obtain⟨W,P,G,p,k⟩:=L.open
 rw[aS] at F n l G p k
 simp(disch:=omega)only[go_sem,qK,aE]
 refine aI (λO j q=> ∃(i:Nat),(∃g:Nat->V,j= [z,w,g 2,.int .i64 (i:Int),g 4,g 5])/\i<=a.length/\i<=b.length/\lexB a b=lexB (a.drop i) (b.drop i)/\Fr h q/\O=a.length-i) a.length
  ⟨0,aB rfl,iB _,iB _,by rw[List.drop_zero,List.drop_zero],Fr.refl h,rfl⟩ ?_
 rintro O j q ⟨i,⟨g,rfl⟩,hi,Q,e,f,rfl⟩
 by_cases K:(i:Int)<(a.length:Int)
 case neg=>
  have o:decide ((i:Int)<(a.length:Int))=false:=decide_eq_false K;obtain rfl:i=a.length:=om
  simp(disch:=omega)only[go_sem,d,c,o];refine⟨?_,f⟩;rw[e,List.drop_length];congr 1
  by_cases r:a.length<b.length
  ·rw[Zh r];exact decide_eq_true om
  ·rw[List.drop_eq_nil_of_le om];exact decide_eq_false om
 have o:decide ((i:Int)<(a.length:Int))=true:=decide_eq_true K
 have t:i<a.length:=om
 by_cases r:(i:Int)<(b.length:Int)
 case neg=>
  have s:decide ((i:Int)<(b.length:Int))=false:=decide_eq_false r;simp(disch:=omega)only[go_sem,d,c,o,s];refine⟨?_,f⟩;rw[e,List.drop_eq_nil_of_le (by omega:b.length<=i),NZ];congr 1;exact decide_eq_false om
 have s:decide ((i:Int)<(b.length:Int))=true:=decide_eq_true r
 have u:i<b.length:=om
 have J:q.cell R (U+i)=some (.int .i64 ((a[i]:Nat):Int)):=by rw[f.cell (n om),l i t];congr 2;simp [zi,t]
 have A:q.cell W (P+i)=some (.int .i64 ((b[i]:Nat):Int)):=by rw[f.cell (p om),k i u];congr 2;simp [zi,u]
 rw[EM t u] at e
 generalize a[i]=x at J e
 generalize b[i]=y at A e
 by_cases m:x=y
 ·have B:decide ((x:Int)≠(y:Int))=false:=decide_eq_false om
  rw[bJ m] at e
  simp(disch:=omega)only[go_sem,d,c,o,s,F.ixa,G.ixa,J,A,B]
  rw[show (i:Int)+1=((i+1:Nat):Int) from om]
  exact⟨a.length-(i+1),om,i+1,aB rfl,om,om,e,f.bH om,rfl⟩
 ·have B:decide ((x:Int)≠(y:Int))=true:=decide_eq_true om
  rw[bU m] at e
  simp(disch:=omega)only[go_sem,d,c,o,s,F.ixa,G.ixa,J,A,B]
  refine⟨?_,?_⟩
  ·rw[e];congr 1;simp only[Int.ofNat_lt]
  ·exact f.bH om
theorem BF {α:Type}{f:Nat->List α}{s im k:Nat}{x:α}(i:(f im)[k]? =some x): ∀{l:List Nat},l.Pairwise (· < ·)->(∀a∈l,(f a).length=s)->im∈l->
  (l.flatMap f)[(l.filter λa=>decide (a<im)).length*s+k]? =some x
 | [],_,_,hm=>by cases hm
 |a::l,pw,hs,hm=>by
  obtain⟨j,n⟩:=List.pairwise_cons.1 pw;rw[List.flatMap_cons]
  by_cases e:a=im
  ·subst e
   have m:(a::l).filter (λb=>decide (b<a))= []:=by
    refine List.filter_eq_nil_iff.2 λb d=>?_
    rw[Ak];rcases vI.1 d with e|d
    ·omega
    ·have:=j b d;omega
   rw[m,List.length_nil,Nat.zero_mul,Nat.zero_add,Dt (vJ.1 i).1];exact i
  ·have c:im∈l:=(vI.1 hm).resolve_left λh=>e h.symm
   have g:=j im c;have o:=BF i n (λb d=>hs b (wI _ d)) c;rw[List.filter_cons_of_pos (p:=λb=>decide (b<im)) (decide_eq_true g),List.length_cons,Jg (by rw[hs a tQ,Nat.add_mul];omega),hs a tQ];rw[←o];congr 1;rw[Nat.add_mul];omega
section
variable {n:Nat} {G:List Nat->Prop} {O:List (List Nat)} {R:List (List (List Nat))} {u x:List Nat} {i d:Nat}
theorem HT (l:dO n G)(c:aV n G O R)(h:i+(d+1)=n)(U:aY n u)(t:x∈dM O R (d+1) i u):
  x.getD i 0∈jT O u i/\x∈dM O R d (i+1) (fY O R u i (x.getD i 0))/\ ∀k,(dM O R d (i+1) (fY O R u i (x.getD i 0)))[k]? =some x->
   (dM O R (d+1) i u)[((jT O u i).filter λa=>decide (a<x.getD i 0)).length*iW O d (i+1)+k]? =some x:=by
 have w: ∀a,a∈yF (jT O u i)↔a∈jT O u i:=λa=>(oL _).mem_iff
 have hi:i<n:=om
 unfold dM at t
 obtain⟨o,m,v⟩:=List.mem_flatMap.1 t
 have j:=(w o).1 m
 obtain⟨q,K,_,_,_,_,r,J,_⟩:=xS l c U hi j
 obtain⟨g,B,z,e⟩:=((Ss l c d (i+1) _ om r).1 x).1 v
 have A:x.getD i 0=o:=by
  rw[e,dE (by rw[(l.bF B).len];exact hi),z i om,J]
 rw[A]
 refine⟨j,v,λk y=>?_⟩
 have p:(yF (jT O u i)).Pairwise (· < ·):=by
  have nd:(yF (jT O u i)).Nodup:=(oL _).nodup_iff.2 (BU l c U hi);rw[MV] at nd;exact ((Ta _).and nd).imp λ⟨a,b⟩=>om
 have:=BF (f:=λo=>dM O R d (i+1) (fY O R u i o)) (s:=iW O d (i+1)) y p (λa F=>by
  obtain⟨_,_,_,_,_,_,r,_⟩:=xS l c U hi ((w a).1 F)
  exact (Ss l c d (i+1) _ om r).2.2) m
 rw[((oL (jT O u i)).filter _).length_eq] at this
 exact this
end
theorem NH (vc vx:V)(n:Nat)(O:LN)(R:jJ)(G:List Nat->Prop)(x:List Nat)(h:H)(f7:1<=n)(hn:n<=64)(hG:dO n G)(o:aV n G O R)(hc:YD h vc (n:Int) (O.map zi) (R.map (List.map zi)))(hx:SI h vx (zi x))(X:aY n x):
  Ev T 114 [vc,vx] h (λv h'=> ∃vr lv,v= .tup [vr,aC lv]/\(lv=(n:Int)↔G x)/\lv<=(n:Int)/\Fr h h'):=by
 obtain⟨vO,vR,rfl,sO,sR⟩:=hc
 refine dW xQ rfl ?_
 obtain⟨f8,eO,cO,b7,e0,c1,wO,a1,Q⟩:=fV sO
 obtain⟨f0,eR,cR,b8,d8,b1,wR,b9,U⟩:=kZ sR
 rw[iA,o.lo] at a1 Q
 rw[iA,o.lr] at b9 U
 obtain⟨B,hB⟩:=exI h.next
 obtain⟨h1,e1,n1,g1,o1,f1⟩:=dK hB [aC n,vO,vR]
 have bx:=bV h (v:= aC n) (u:=vO) (w:=vR) rfl b7 b8
 simp(disch:=omega)only[go_sem,xQ,aE,bx,hB,e1]
 refine aI (λk' r hh=> ∃(i:Nat) (vy:V) (y:List Nat),(∃g:Nat->V,r= [g 0,vy,.ptr B 0,g 3,g 4,aC i,g 6,g 7,g 8,g 9])/\i<=n/\SI hh vy (zi y)/\aY n y/\Fix i y/\(G y↔G x)/\Fr h1 hh/\k'=n-i) n
  ⟨0,vx,x,aB rfl,iB _,hx.mono f1,X,λk hk=>om,Iff.rfl,Fr.refl _,rfl⟩ ?_
 rintro k' r h2 ⟨i,vy,y,⟨g,rfl⟩,hi,sy,Y,L,a8,F2,rfl⟩
 have g2:h2.get B=some (.cells false [aC n,vO,vR]):=by rw[F2.get B om];exact g1
 have d0:(zi y).length=n:=by rw[aS,Y.len]
 by_cases b2:(i:Int)<(n:Int)
 case neg=>
  have d1:=bI b2;obtain rfl:i=n:=om
  have ey:=sy.dI;simp(disch:=omega)only[go_sem,H.cell_of g2,d1,ey];refine (agS vy (zi y) _ (sy.mono ((Fr.refl h2).bH om)) om).mono ?_;rintro v K ⟨ow,f3,_⟩;have g3:K.get B=some (.cells false [aC i,vO,vR]):=by rw[f3.get B (by have:=F2.next;show B<h2.next+_;omega)];exact g2
  simp(disch:=omega)only[go_sem,H.cell_of g3];exact⟨v,i,rfl,⟨λ_=>a8.1 (by rw[L.all Y];exact hG.one),λ_=>rfl⟩,Int.le_refl _,(f1.trans F2).trans (((Fr.refl h2).bH om).trans f3)⟩
 have d1:=cI b2
 have f:i<n:=om
 have F:=f1.trans F2
 obtain⟨bO,c7,a0⟩:=Q i f
 obtain⟨bR,b5,a5⟩:=U i f
 rw[oI zi (d:= []) (by rw[o.lo];exact f)] at a0
 rw[oI (List.map zi) (d:= []) (by rw[o.lr];exact f)] at a5
 generalize wO.getD i V.undef=vo at c7 a0
 generalize wR.getD i V.undef=vr at b5 a5
 obtain⟨a2,eo,f2,e6,P,J,a6,N⟩:bL vo=some (aC ((O.getD i []).length:Int))/\True/\True/\True/\ ∃P J,Sl vo 1 (O.getD i []).length P J/\ ∀k,k<(O.getD i []).length->P<h.next/\h.cell P (J+k)=some (aC ((O.getD i []).getD k 0:Nat)):=by
  have l:=a0.lens;obtain⟨a,b,s,c,d⟩:=a0.open;rw[aS] at l s c d;refine⟨l,trivial,trivial,trivial,a,b,s,λk hk=>⟨c om,?_⟩⟩;rw[d k hk];congr 2;exact oI (λk:Nat=>(k:Int)) (d:=0) om
 obtain⟨f6,er,f9,e7,e5,c8,wr,a4,t⟩:=fV a5
 rw[iA,o.rl i f] at a4 t
 have e2:(O.getD i []).length<=n:=mY (tK (λx hx=>hG.bF hx) f (o.asc i f) (o.mem i f)) om
 obtain⟨m,hm⟩:=exI ((O.getD i []).length)
 rw[hm] at a2 a6 N a4 t e2
 obtain⟨p,hp⟩:=exI (y.getD i 0)
 simp(disch:=omega)only[go_sem,H.cell_of g2,d1]
 refine aI (λk' r hh=> ∃(k:Nat),(∃g:Nat->V,r= [g 0,vy,.ptr B 0,g 3,g 4,aC i,aC k,g 7,g 8,g 9])/\k<=m/\(∀j,j<k->(O.getD i []).getD j 0≠p)/\Fr h2 hh/\k'=m-k) m
  ⟨0,aB rfl,iB _,λj hj=>om,Fr.refl _,rfl⟩ ?_
 rintro k' r K ⟨k,⟨g',rfl⟩,hk,hj,f3,rfl⟩
 have g3:K.get B=some (.cells false [aC n,vO,vR]):=by rw[f3.get B (by have:=F2.next;omega)];exact g2
 have F3:=F.trans f3
 have W:K.cell e0 (c1+i)=some vo:=by rw[F3.cell bO];exact c7
 have e3:K.cell d8 (b1+i)=some vr:=by rw[F3.cell bR];exact b5
 have a7:=sy.mono f3
 obtain⟨d5,c0,b0,c2,b6⟩:=a7.open
 rw[d0] at b0 c2 b6
 have cy:K.cell d5 (c0+i)=some (aC p):=by rw[b6 i f];congr 2;simp [zi,Y.len,f,←hp]
 by_cases b3:(k:Int)<(m:Int)
 case neg=>
  have d2:=bI b3;obtain rfl:k=m:=om
  have e4: ¬G x:=λhx=>by
   have hy:=a8.2 hx;obtain⟨j,c9,d6⟩:=Ad.1 ((o.mem i f p).2 ⟨y,hy,L,hp⟩);exact hj j om (by rw[OU,dD c9];exact d6)
  simp(disch:=omega)only[go_sem,H.cell_of g3,a1.ixa,W,a2,d2];refine bA (λ_=>?_) (λhc=>(hc trivial).elim);simp(disch:=omega)only[go_sem];have fb:=(Fr.refl K).bH (n:=K.next+23) om;refine (agS vy (zi y) _ (a7.mono fb) om).mono ?_;rintro v h4 ⟨ow,f4,_⟩;simp(disch:=omega)only[go_sem];exact⟨v,i,rfl,⟨λe=>om,λhx=>absurd hx e4⟩,om,F3.trans (fb.trans f4)⟩
 have d2:=cI b3
 have a3:k<m:=om
 obtain⟨b4,c4⟩:=N k a3
 have c5:K.cell P (J+k)=some (aC ((O.getD i []).getD k 0:Nat)):=by rw[F3.cell b4];exact c4
 obtain⟨q,hq⟩:=exI ((O.getD i []).getD k 0)
 rw[hq] at c5
 by_cases c3:q=p
 case neg=>
  have d3:decide ((q:Int)≠(p:Int))=true:=cI om;simp(disch:=omega)only[go_sem,H.cell_of g3,a1.ixa,W,a2,d2,a6.ixa,c5,b0.ixa,cy,d3];rw[fJ k];refine⟨m-(k+1),om,k+1,aB rfl,om,λj e8=>?_,f3.bH om,rfl⟩
  by_cases e:j=k
  ·rw[e,hq];exact c3
  ·exact hj j om
 have d3:decide ((q:Int)≠(p:Int))=false:=bI om
 have d4:decide ((k:Int)=(m:Int))=false:=bI om
 have A:=o.rep i f k om
 rw[hq,c3] at A
 obtain⟨z,hz⟩:=exI ((R.getD i []).getD k [])
 rw[hz] at A
 have Z:=hG.bF A.mem
 obtain⟨br,c6,a9⟩:=t k a3
 rw[oI zi (l:=R.getD i []) (i:=k) (d:= []) (by rw[o.rl i f];omega),hz] at a9
 generalize wr.getD k V.undef=vz at c6 a9
 have d7:K.cell e5 (c8+k)=some vz:=by rw[F3.cell br];exact c6
 have fb:=(Fr.refl K).bH (n:=K.next+23) om
 have e9:=W
 simp(disch:=omega)only[go_sem,H.cell_of g3,a1.ixa,W,a2,d2,a6.ixa,c5,b0.ixa,cy,d3,d4,b9.ixa,e3,a4.ixa,d7]
 refine (HJ vz n z _ om Z (a9.mono (F3.trans fb))).mono ?_
 rintro vi h4 ni
 have f4:=fb.trans ni.fr
 have d9:SI h4 vi (zi (bZ z)):=(Ud ni).si
 simp(disch:=omega)only[go_sem]
 refine (vT vy vi y (bZ z) h4 (by rw[Y.len];omega) (a7.mono f4) d9 (λj hj=>by rw[jU,Z.len];exact Y.fX (by rw[←Y.len];exact hj))).mono ?_
 rintro vm h5 ⟨sm,f5,_⟩
 simp(disch:=omega)only[go_sem]
 rw[fJ i]
 refine⟨n-(i+1),om,i+1,_,_,aB rfl,om,sm,Y.mul Z.inv,?_,?_,F2.trans (f3.trans (f4.trans f5)),rfl⟩
 ·refine (Fix.mul Y om L (Fix.inv Z om A.fix)).succ ?_
  rw[dE (by rw[Y.len];exact f),hp]
  have:=wY Z f
  rwa [A.maps] at this
 ·rw[←a8]
  constructor
  ·intro h1
   have:=hG.mul h1 A.mem
   rwa [aG Y Z.inv Z,dL Z,aZ Y] at this
  ·exact λh1=>hG.mul h1 (hG.inv A.mem)
theorem QO {W:Nat->Prop}(F q:V)(n:Nat)(O:LN)(R:jJ)(G:List Nat->Prop)(x:List Nat)(h:H)(g:GC W h F n O R G)(s:SI h q (zi x))(X:aY n x):
  Ev T 112 [F,q] h (λv h'=> ∃b,v= .tup [.bool b,aC 0]/\(b=true↔G x)/\Fr h h'):=by
 obtain⟨f,c,e,U,Y⟩:=g.ch
 have chk:=g.chk
 subst e
 refine dW Im rfl ?_
 have d:f.one=true:=BX U
 have i:c.one=true:=Up Y
 have A:=g.n0
 have n7:=g.n7
 obtain⟨B,L⟩:=exI h.next
 obtain⟨y,P,J,z,o1,m⟩:=dK L [aC n,f,c]
 have t:=bV h (v:= aC n) (u:=f) (w:=c) rfl d i
 have l:=aJ z
 simp(disch:=omega)only[go_sem,Im,aE,t,L,P,l]
 refine Ev.mono (Q:=λv h'=>v= aC 0/\Fr y h') ?_ ?_
 ·refine dW Au rfl ?_
  have t:=bV y (v:= aC n) (u:=f) (w:=c) rfl d i
  obtain⟨p,e2,n2,o,o2,a⟩:=dK J [aC n,f,c]
  have l:=aJ o
  simp(disch:=omega)only[go_sem,Au,aE,t,J,e2,l]
  refine (Bd _ (n:Int) _ _ p (g.ch.mono (m.trans a)) (.inl om) g.small.1 g.small.2.out).mono ?_
  rw[chk]
  rintro _ r ⟨rfl,k⟩
  simp(disch:=omega)only[go_sem]
  refine bA (λj=>(j rfl).elim) (λ_=>?_)
  simp(disch:=omega)only[go_sem]
  refine (Hn q (zi x) r (by rw[aS,X.len];omega) (s.mono ((m.trans a).trans k))).mono ?_
  rw[Wm X A om]
  rintro _ h4 ⟨rfl,N⟩
  have g4:h4.get (B+1)=some (.cells false [aC n,f,c]):=by rw[N.get _ (by have:=k.next;omega),k.get _ om];exact o
  have K:=s.lens
  rw[aS,X.len] at K
  simp(disch:=omega)only[go_sem]
  refine bA (λj=>(j rfl).elim) (λ_=>?_)
  simp(disch:=omega)only[go_sem,H.cell_of g4,K]
  refine bA (λj=>(j rfl).elim) (λ_=>?_)
  simp(disch:=omega)only[go_sem]
  exact (a.trans k).trans N
 rintro _ p ⟨rfl,a⟩
 have o:p.get B=some (.cells false [aC n,f,c]):=by rw[a.get _ om];exact z
 have l:=aJ o
 simp(disch:=omega)only[go_sem]
 refine bA (λj=>(j rfl).elim) (λ_=>?_)
 simp(disch:=omega)only[go_sem,l]
 refine (NH _ q n O R G x p A om g.cY g.isc (g.ch.mono (m.trans a)) (s.mono (m.trans a)) X).mono ?_
 rintro _ r ⟨vr,lv,rfl,hl,_,k⟩
 have Z:r.get B=some (.cells false [aC n,f,c]):=by rw[k.get _ (by have:=a.next;omega)];exact o
 simp(disch:=omega)only[go_sem,H.cell_of Z]
 exact⟨_,rfl,by rw[decide_eq_true_eq];exact hl,(m.trans a).trans k⟩
theorem Dd {W:Nat->Prop}(vc:V)(n:Nat)(O:LN)(R:jJ)(G:List Nat->Prop)(k h:H)(b:GC W k vc n O R G)(f0:Fr k h):
  Ev T 96 [vc] h (λv h'=> ∃acc,dH h' v 1 acc h.next/\aN (SI k) acc (R.flatten.map zi)/\Fr h h'):=by
 obtain⟨Y,r,e,sO,sR⟩:=b.ch
 subst e
 refine dW kT rfl ?_
 have s:Y.one=true:=BX sO
 have t:r.one=true:=Up sR
 obtain⟨z,l,aR,_⟩:=sR
 have n7:=b.n7
 have lR:=b.isc.lr
 have lw:=aN.length aR
 rw[iA,lR] at lw
 obtain⟨A,hA⟩:=exI h.next
 obtain⟨j,e1,n1,g1,o1,N⟩:=dK hA [aC n,Y,r]
 have bx:=bV h (v:= aC n) (u:=Y) (w:=r) rfl s t
 have y:bL r=some (aC n):=by unfold bL;rw[SV.len l (n:=n) om om];rfl
 obtain⟨id,p,sh,K,hc⟩:=SV.shape (l.mono f0) n om om
 have a2: ∀a,Fr j a->a.cell A 2=some r:=λa f=>by rw[f.cell om,H.cell_of g1];rfl
 have rl: ∀i,i<n->(R.getD i []).length<=n/\0<(R.getD i []).length:=λi hi=>by
  refine⟨?_,(NQ b.cY b.isc hi).1⟩;rw[b.isc.rl i hi];have:=tK (λx hx=>b.cY.bF hx) hi (b.isc.asc i hi) (b.isc.mem i hi);omega
 have fl: ∀i,i<=n->((R.take i).flatten).length<=i*n:=λi hi=>by
  induction i with
  |zero=>simp
  |succ i ih=>
   have j:=(rl i om).1;rw[eY [] om,List.flatten_append,iV,Nat.succ_mul];have:=ih om;simp only[List.flatten_cons,List.flatten_nil,tZ];omega
 simp(disch:=omega)only[go_sem,kT,aE,bx,hA,e1]
 refine aI (λk' d a=> ∃(i:Nat) (Q:V) (acc:List V),(∃g:Nat->V,d= [g 0,.ptr A 0,g 2,Q,aC i,g 5])/\i<=n/\dH a Q 1 acc j.next/\aN (SI k) acc (((R.take i).flatten).map zi)/\Fr j a/\k'=n-i) n
  ⟨0,.aD, [],aB rfl,iB _,dH.aD _ _ _,trivial,Fr.refl j,rfl⟩ ?_
 rintro k' d a ⟨i,Q,acc,⟨g,rfl⟩,hi,U,B,F,rfl⟩
 by_cases o:(i:Int)<(n:Int)
 case neg=>
  have P:=bI o;obtain rfl:i=n:=om
  simp(disch:=omega)only[go_sem,a2 a F,y,P];rw[Ro om] at B;exact⟨acc,U.le om,B,N.trans F⟩
 have P:=cI o
 have J:i<n:=om
 have cc:a.cell id (p+i)=some (z.getD i .undef):=by
  rw[(N.trans F).cell (K om),hc i om];simp [List.getD,show i<z.length by omega]
 have sr:SR k (z.getD i .undef) ((R.getD i []).map zi):=by
  have h2:=aN.get aR i om (by rw[iA];omega);rw[List.getElem_map] at h2;rw[List.getD,List.getD,dD om,dD om];exact h2
 generalize z.getD i .undef=va at cc sr
 obtain⟨wi,si,ai⟩:=sr
 have L:=aN.length ai
 rw[iA] at L
 have hr:=rl i J
 have a0:=aN.length B
 rw[iA] at a0
 have a3:=fl i om
 have a1:i*n<=7*7:=Nat.mul_le_mul om n7
 have Fh:=N.trans F
 obtain⟨hd,ad,Z⟩:=U.push (bytes:=24) (si.mono (f0.trans Fh)) (n:=acc.length) (m:=(R.getD i []).length) om om om hr.2 om
 simp(disch:=omega)only[go_sem,a2 a F,y,P,sh.ixa,cc,ad]
 rw[fJ i]
 have nF:=F.next
 have nd:=Z.next
 refine⟨n-(i+1),om,i+1,_,acc++wi,aB rfl,om,Z.own om om om,?_,⟨om,λq hq=>?_⟩,rfl⟩
 ·rw[eY [] om,List.flatten_append,List.map_append]
  simp only[List.flatten_cons,List.flatten_nil,tZ]
  exact aN.append B ai
 ·rw[Z.old q om (λid p n' c e e2=>by have:=(U.in _ _ _ _ e).2.1;omega)]
  exact F.get q hq
theorem XJ {h:H}{v:V}{x:List Nat}{b:Nat}(s:SI h v (zi x))(f: ∀id off len cap,v= .sl id off len cap->b<=id):PV (λq=>q<b) h v x:=by
 refine⟨s,?_⟩
 cases v with
 |sl id off len cap=>exact λ(e:id<b)=>by have:=f id off len cap rfl;omega
 |_=>trivial
theorem Jb {n:Nat}{G:List Nat->Prop}{O:LN}{R:jJ}(b:dO n G)(c:aV n G O R)(x:List Nat):bM n (· ∈R.flatten) x↔G x:=by
 constructor
 ·exact λh=>bM.le b (λg a=>Jt c g a) h
 ·intro h
  refine bM.mono (λg a=>?_) (oG b c h);unfold bP at a;obtain⟨r,e,d⟩:=List.mem_flatMap.1 a;exact List.mem_flatten.2 ⟨r,e,List.mem_of_mem_drop d⟩
theorem Xz {W:Nat->Prop}{h:H}{c:V}{n:Nat}{O:LN}{R:jJ}{G:List Nat->Prop}(a:GC W h c n O R G):R.flatten.length<=49:=by
 have j:=a.isc.lr;have b:=a.n7
 have d: ∀i,i<n->(R.getD i []).length<=n:=λi hi=>by
  rw[a.isc.rl i hi];have:=tK (λx e=>a.cY.bF e) hi (a.isc.asc i hi) (a.isc.mem i hi);omega
 have f: ∀i,i<=n->((R.take i).flatten).length<=i*n:=λi hi=>by
  induction i with
  |zero=>simp
  |succ i ih=>
   have g:=d i om;rw[eY [] om,List.flatten_append,iV,Nat.succ_mul];have:=ih om;simp only[List.flatten_cons,List.flatten_nil,tZ];omega
 have:=f n (dT _);rw[Ro om] at this;exact mY this (Nat.mul_le_mul b b)
theorem sC {α β γ:Type}{R:α->γ->Prop}{f:β->γ}: ∀{l1:List α} {bs:List β},aN R l1 (bs.map f)->aN (λa b=>R a (f b)) l1 bs
 | [], [],_=>trivial
 |_::_,_::_,⟨h,k⟩=>⟨h,sC k⟩
set_option maxHeartbeats 32000000
set_option maxHeartbeats 32000000
theorem Zw {W:Nat->Prop}(k g:V)(n:Nat)(O:List (List Nat))(R:List (List (List Nat)))(G:List Nat->Prop)(x:List Nat)(h:H)(c:GC W h k n O R G)(o:SI h g (zi x))(X:aY n x):
  Ev T 154 [k,g] h (λv h'=>v= .int .i64 0/\Fr h h'):=by
 obtain⟨i,f,rfl,a,b⟩:=c.shape
 have r:=c.n0
 have L:=c.n7
 refine dW rD rfl ?_
 obtain⟨B,q⟩: ∃B,h.next=B:=⟨_,rfl⟩
 obtain⟨J,z,K,j,N,e⟩:=dK q [.int .i64 (n:Int),i,f]
 have F:=bV h (v:= .int .i64 (n:Int)) (u:=i) (w:=f) rfl a b
 have p:=o.lens
 rw[aS,X.len] at p
 have m:decide ((0:Int)≠0)=false:=rfl
 have y:decide ((n:Int)≠(n:Int))=false:=decide_eq_false (λh=>h rfl)
 simp(disch:=omega)only[go_sem,rD,aE,F,q,z,aJ j]
 refine ((c.mono e).Jf).mono ?_
 rintro _ t ⟨rfl,d⟩
 simp(disch:=omega)only[go_sem,m]
 refine (Hn g (zi x) t (by rw[aS,X.len];omega) (o.mono (e.trans d))).mono ?_
 rw[Wm X r om]
 rintro _ s ⟨rfl,l⟩
 have A:s.get B=some (.cells false [.int .i64 (n:Int),i,f]):=by rw[l.get _ (by have:=d.next;omega),d.get _ om];exact j
 simp(disch:=omega)only[go_sem,m,p,H.cell_of A,y]
 exact e.trans (d.trans l)
theorem NM {W:Nat->Prop}(vc vx:V)(n:Nat)(O:List (List Nat))(R:List (List (List Nat)))(G:List Nat->Prop)(x:List Nat)(h:H)(K:GC W h vc n O R G)(hx:SI h vx (zi x))(hG:G x):
  Ev T 116 [vc,vx] h (λv h'=> ∃r:Nat,v= .tup [.int .i64 (r:Int),.int .i64 0]/\(dM O R n 0 (aX n))[r]? =some x/\Fr h h'):=by
 have X:=K.cY.bF hG
 obtain⟨vO,vR,rfl,e2,e3⟩:=K.shape
 have n0:=K.n0
 have n7:=K.n7
 have sz:=jE K
 refine dW tD rfl ?_
 obtain⟨B,hB⟩: ∃B,h.next=B:=⟨_,rfl⟩
 obtain⟨h1,e1,n1,g1,o1,f1⟩:=dK hB [.int .i64 (n:Int),vO,vR]
 have bx:=bV h (v:= .int .i64 (n:Int)) (u:=vO) (w:=vR) rfl e2 e3
 have d0:decide ((0:Int)≠0)=false:=rfl
 simp(disch:=omega)only[go_sem,tD,aE,bx,hB,e1,aJ g1]
 refine (Zw _ vx n O R G x h1 (K.mono f1) (hx.mono f1) X).mono ?_
 rintro _ h2 ⟨rfl,f2⟩
 have F2:=f1.trans f2
 have g2:h2.get B=some (.cells false [.int .i64 (n:Int),vO,vR]):=by rw[f2.get _ om];exact g1
 simp(disch:=omega)only[go_sem,d0,aJ g2]
 refine (Bv _ n O R G h2 (K.mono F2)).mono ?_
 rintro _ h3 ⟨S,rfl,j9,i0,gS,f3⟩
 have F3:=F2.trans f3
 have l2:=f2.next
 have g3:h3.get B=some (.cells false [.int .i64 (n:Int),vO,vR]):=by rw[f3.get _ om];exact g2
 simp(disch:=omega)only[go_sem,Bool.not_true,aJ g3]
 refine (QO _ vx n O R G x h3 (K.mono F3) (hx.mono F3) X).mono ?_
 rintro _ h4 ⟨b,rfl,hb,f4⟩
 obtain rfl:b=true:=hb.2 hG
 have F4:=F3.trans f4
 have l3:=f3.next
 have g4:h4.get B=some (.cells false [.int .i64 (n:Int),vO,vR]):=by rw[f4.get _ om];exact g3
 have i9:h4.get S=_:=(f4.get S i0).trans gS
 simp(disch:=omega)only[go_sem,Bool.not_true,H.cell_of g4]
 refine (Vk n h4 om).mono ?_
 rintro vu h5 ⟨su,f5,_⟩
 have F5:=F4.trans f5
 have l4:=f4.next
 have g5:h5.get B=some (.cells false [.int .i64 (n:Int),vO,vR]):=by rw[f5.get _ om];exact g4
 have h0:h5.get S=_:=(f5.get S om).trans i9
 obtain⟨_,_,e0,sO,sR⟩:=K.ch
 cases e0
 obtain⟨k0,eO,cO,i7,i5,e7,wO,a2,a4⟩:=fV sO
 obtain⟨j6,eR,cR,j1,i2,c8,wR,e5,a6⟩:=kZ sR
 rw[iA,K.isc.lo] at a2 a4
 rw[iA,K.isc.lr] at e5 a6
 obtain⟨idx,e6,b3,b6,e8⟩:=hx.open
 rw[aS,X.len] at b3 b6 e8
 have i1:x∈dM O R n 0 (aX n):=((dB K.cY K.isc).1.mem x).2 hG
 have t:=K.isc
 have cY:=K.cY
 have j4:(dM O R n 0 (aX n)).length=iW O n 0:=(dB K.cY K.isc).2
 simp(disch:=omega)only[go_sem]
 refine aI (λk' J hh=> ∃(i r:Nat) (vu:V) (u:List Nat),(∃g:Nat->V,J= [g 0,vx,.ptr B 0,g 3,g 4,g 5,.sl S 0 (n+1) (.kn (n+1)),g 7,g 8,.int .i64 (r:Int),vu,.int .i64 (i:Int),g 12,g 13,g 14,g 15,g 16,g 17,g 18,g 19,g 20,g 21])/\i<=n/\SI hh vu (zi u)/\aY n u/\x∈dM O R (n-i) i u/\(∀k,(dM O R (n-i) i u)[k]? =some x->(dM O R n 0 (aX n))[r+k]? =some x)/\Fr h5 hh/\k'=n-i) n
  ⟨0,0,vu,aX n,aB rfl,iB _,su,aY.one n,i1,λk y=>by rw[Nat.zero_add];exact y,Fr.refl _,rfl⟩ ?_
 rintro k' J h6 ⟨i,r,vu,u,⟨g,rfl⟩,hi,su,U,el,hr,f6,rfl⟩
 have l5:=f5.next
 have g6:h6.get B=some (.cells false [.int .i64 (n:Int),vO,vR]):=by rw[f6.get _ om];exact g5
 have i8:h6.get S=_:=(f6.get S om).trans h0
 have F6:=F5.trans f6
 by_cases d5:(i:Int)<(n:Int)
 case neg=>
  have d1:decide ((i:Int)<(n:Int))=false:=decide_eq_false d5;obtain rfl:i=n:=om
  simp(disch:=omega)only[go_sem,H.cell_of g6,d1];rw[Nat.sub_self,dM,List.mem_singleton] at el;subst el;have:=hr 0 (by rw[Nat.sub_self];rfl);exact⟨r,rfl,this,F6⟩
 have d1:decide ((i:Int)<(n:Int))=true:=decide_eq_true d5
 have f:i<n:=om
 obtain⟨d,hd⟩: ∃d,n-(i+1)=d:=⟨_,rfl⟩
 rw[show n-i=d+1 from om] at el hr
 obtain⟨p,hp⟩: ∃p,x.getD i 0=p:=⟨_,rfl⟩
 obtain⟨XY,c9,c7⟩:=HT cY t om U el
 rw[hp] at XY c9 c7
 obtain⟨q,hq,_,h9,g8,c1,sP,_,_⟩:=xS cY t U f XY
 obtain⟨bO,f0,a9⟩:=a4 i f
 obtain⟨bR,d9,b9⟩:=a6 i f
 rw[oI zi (d:= []) (by rw[t.lo];exact f)] at a9
 rw[oI (List.map zi) (d:= []) (by rw[t.lr];exact f)] at b9
 generalize wO.getD i V.undef=vo at f0 a9
 generalize wR.getD i V.undef=vr at d9 b9
 obtain⟨a1,N,b0,a0⟩: ∃a1 N,Sl vo 1 (O.getD i []).length a1 N/\ ∀k,k<(O.getD i []).length->a1<h.next/\h.cell a1 (N+k)=some (.int .i64 (((O.getD i []).getD k 0:Nat):Int)):=by
  obtain⟨a,b,s,c,d⟩:=a9.open;rw[aS] at s c d;refine⟨a,b,s,λk y=>⟨c om,?_⟩⟩;rw[d k y];congr 2;exact oI (λk:Nat=>(k:Int)) (d:=0) om
 have Q:=a9.lens
 rw[aS] at Q
 obtain⟨j8,er,k2,j5,j2,g9,wr,b8,L⟩:=fV b9
 rw[iA,t.rl i f] at b8 L
 have i6:(O.getD i []).length<=n:=mY (tK (λx hx=>cY.bF hx) f (t.asc i f) (t.mem i f)) om
 have s7:iW O d (i+1)<=7^7:=mY (TY (m:=7) om d (i+1) λj h1 h2=>mY (tK (λx hx=>cY.bF hx) om (t.asc j om) (t.mem j om)) om) (Nat.pow_le_pow_right om om)
 obtain⟨j3,d6,a7,b7,f9⟩:=su.open
 rw[aS,U.len] at a7 b7 f9
 obtain⟨s,hs⟩: ∃s,iW O d (i+1)=s:=⟨_,rfl⟩
 have cS:h6.cell S (i+1)=some (.int .i64 (s:Int)):=by
  rw[H.cell_of i8,Nk om,hd,hs]
 rw[hs] at c7 s7
 have r5:r<=5040:=by
  obtain⟨k,y,e⟩:=Ad.1 el;have:=(vJ.1 (hr k (by rw[dD y,e]))).1;omega
 have b2: ∀k,k<(O.getD i []).length->(O.getD i []).getD k 0<n:=λk y=>Ky cY t f (bC y)
 have inj: ∀j k,j<(O.getD i []).length->k<(O.getD i []).length->u.getD ((O.getD i []).getD j 0) 0=p->u.getD ((O.getD i []).getD k 0) 0=p->j=k:=λj k Y y ej ek=>by
  have e:=U.inj (b2 j Y) (b2 k y) (ej.trans ek.symm);rw[cW Y,cW y] at e;have g0:(O.getD i []).Pairwise (· < ·):=t.asc i f;rcases Nat.lt_trichotomy j k with h|h|h
  ·have:=GP.1 g0 j k Y y h;omega
  ·exact h
  ·have:=GP.1 g0 k j y Y h;omega
 obtain⟨cf,c0,c6,cE⟩: ∃cf:Nat->Nat,cf 0=0/\(∀k,k<(O.getD i []).length->cf (k+1)=cf k+if u.getD ((O.getD i []).getD k 0) 0<p then 1 else 0)/\cf (O.getD i []).length=((jT O u i).filter λa=>decide (a<p)).length:=by
  refine⟨λk=>(((jT O u i).take k).filter λa=>decide (a<p)).length,rfl,λk y=>?_,?_⟩
  ·have i4:k<(jT O u i).length:=by rw[jT,iA];exact y
   have e:(jT O u i)[k]=u.getD ((O.getD i []).getD k 0) 0:=by simp only[jT,List.getElem_map,cW y]
   show (List.filter _ ((jT O u i).take (k+1))).length=_;rw[List.take_succ_eq_append_getElem i4,List.filter_append,iV,e];congr 1
   by_cases h:u.getD ((O.getD i []).getD k 0) 0<p
   ·rw[List.filter_cons_of_pos (p:=λa=>decide (a<p)) (decide_eq_true h),bJ h];rfl
   ·rw[List.filter_cons_of_neg (p:=λa=>decide (a<p)) (by rw[Ak];exact h),bU h];rfl
  ·show (List.filter _ ((jT O u i).take _)).length=_
   rw[Ro (by rw[jT,iA];omega)]
 obtain⟨m,hm⟩: ∃m,(O.getD i []).length=m:=⟨_,rfl⟩
 rw[hm] at Q b0 a0 b8 L i6 b2 inj cE hq c6
 have cB: ∀k,k<=m->cf k<=k:=λk=>by
  induction k with
  |zero=>intro _;omega
  |succ k ih=>
   intro y;have:=ih om;rw[c6 k om];split<;>omega
 simp(disch:=omega)only[go_sem,H.cell_of g6,d1]
 refine aI (λk' J hh=> ∃(k a A:Nat),(∃g:Nat->V,J= [g 0,vx,.ptr B 0,g 3,g 4,g 5,.sl S 0 (n+1) (.kn (n+1)),g 7,g 8,.int .i64 (A:Int),vu,.int .i64 (i:Int),.int .i64 (a:Int),.int .i64 (k:Int),g 14,g 15,g 16,g 17,g 18,g 19,g 20,g 21])/\k<=m/\A=r+cf k*s/\(∀j,j<k->u.getD ((O.getD i []).getD j 0) 0=p->a=j)/\Fr h6 hh/\k'=m-k) m
  ⟨0,0,r,aB rfl,iB _,by rw[c0,Nat.zero_mul,Nat.add_zero],λj Y=>om,Fr.refl _,rfl⟩ ?_
 rintro k' J h7 ⟨k,a,A,⟨g',rfl⟩,y,hA,ha,f7,rfl⟩
 have l6:=f6.next
 have g7:h7.get B=some (.cells false [.int .i64 (n:Int),vO,vR]):=by rw[f7.get _ om];exact g6
 have F7:=F6.trans f7
 have b5:h7.cell i5 (e7+i)=some vo:=by rw[F7.cell bO];exact f0
 by_cases d7:(k:Int)<(m:Int)
 case neg=>
  have d2:decide ((k:Int)<(m:Int))=false:=decide_eq_false d7;obtain rfl:k=m:=om
  have ea:a=q:=ha q hq h9;subst ea;obtain⟨br,e9,b1⟩:=L a hq;rw[oI zi (l:=R.getD i []) (i:=a) (d:= []) (by rw[t.rl i f];omega)] at b1;have Z:=cY.bF g8.mem;generalize (R.getD i []).getD a []=z at b1 c1 Z;generalize wr.getD a V.undef=vz at e9 b1;have j0:h7.cell j2 (g9+a)=some vz:=by rw[F7.cell br];exact e9
  have i3:h7.cell i2 (c8+i)=some vr:=by rw[F7.cell bR];exact d9
  simp(disch:=omega)only[go_sem,H.cell_of g7,a2.ixa,b5,Q,d2,e5.ixa,i3,b8.ixa,j0];refine (vT vz vu z u h7 (by rw[Z.len];omega) (b1.mono F7) (su.mono f7) (λj Y=>by rw[U.len];exact Z.fX (by rw[←Z.len];exact Y))).mono ?_;rintro vm h8 ⟨sm,f8,_⟩;simp(disch:=omega)only[go_sem];rw[show (i:Int)+1=((i+1:Nat):Int) from om];refine⟨n-(i+1),om,i+1,A,vm,aM z u,aB rfl,om,sm,Z.mul U,by rw[hd,←c1];exact c9,λk y=>?_,f6.trans (f7.trans f8),rfl⟩;rw[hd,←c1] at y;have:=hr _ (c7 k y);rw[hA,cE,Nat.add_assoc];exact this
 have d2:decide ((k:Int)<(m:Int))=true:=decide_eq_true d7
 have P:k<m:=om
 obtain⟨b4,c4⟩:=a0 k P
 have c5:h7.cell a1 (N+k)=some (.int .i64 (((O.getD i []).getD k 0:Nat):Int)):=by rw[F7.cell b4];exact c4
 have c2:=b2 k P
 have F:=c6 k P
 have k1:=cB k y
 have e4: ∀j,j<k->u.getD ((O.getD i []).getD j 0) 0=p->a=j:=ha
 have a5:=λj Y=>inj j k Y P
 obtain⟨o,ho⟩: ∃o,(O.getD i []).getD k 0=o:=⟨_,rfl⟩
 rw[ho] at c5 c2 F a5
 have cu:h7.cell j3 (d6+o)=some (.int .i64 ((u.getD o 0:Nat):Int)):=by rw[f7.cell (b7 om),f9 o c2];congr 2;simp [zi,U.len,c2]
 have cx:h7.cell idx (e6+i)=some (.int .i64 (p:Int)):=by rw[F7.cell (b6 om),e8 i f];congr 2;simp [zi,X.len,f,←hp]
 have c3:h7.cell S (i+1)=some (.int .i64 (s:Int)):=by rw[f7.cell om];exact cS
 obtain⟨w,hw⟩: ∃w,u.getD o 0=w:=⟨_,rfl⟩
 rw[hw] at cu F a5
 have d8:u.getD ((O.getD i []).getD k 0) 0=p->w=p:=λe=>by rw[←hw,←ho];exact e
 have j7:cf k*s<=7*7^7:=Nat.mul_le_mul om s7
 rcases Nat.lt_trichotomy w p with a8|a8|a8
 ·have d3:decide ((w:Int)<(p:Int))=true:=decide_eq_true om
  have d4:decide ((w:Int)=(p:Int))=false:=decide_eq_false om
  rw[bJ a8] at F
  simp(disch:=omega)only[go_sem,H.cell_of g7,a2.ixa,b5,Q,d2,b0.ixa,c5,a7.ixa,cu,b3.ixa,cx,d3,d4,(by omega:((i:Int)+1).toNat=i+1),c3]
  rw[show (k:Int)+1=((k+1:Nat):Int) from om,show (A:Int)+(s:Int)=((A+s:Nat):Int) from om]
  refine⟨m-(k+1),om,k+1,a,A+s,aB rfl,om,by rw[F,Nat.add_mul,Nat.one_mul];omega,λj Y e=>?_,f7,rfl⟩
  by_cases a3:j=k
  ·subst a3;have:=d8 e;omega
  ·exact e4 j om e
 ·have d3:decide ((w:Int)<(p:Int))=false:=decide_eq_false om
  have d4:decide ((w:Int)=(p:Int))=true:=decide_eq_true om
  rw[bU om] at F
  simp(disch:=omega)only[go_sem,H.cell_of g7,a2.ixa,b5,Q,d2,b0.ixa,c5,a7.ixa,cu,b3.ixa,cx,d3,d4,c3]
  rw[show (k:Int)+1=((k+1:Nat):Int) from om]
  refine⟨m-(k+1),om,k+1,k,A,aB rfl,om,by rw[F];omega,λj Y e=>?_,f7,rfl⟩
  by_cases a3:j=k
  ·exact a3.symm
  ·exact (a5 j om e a8).symm
 ·have d3:decide ((w:Int)<(p:Int))=false:=decide_eq_false om
  have d4:decide ((w:Int)=(p:Int))=false:=decide_eq_false om
  rw[bU om] at F
  simp(disch:=omega)only[go_sem,H.cell_of g7,a2.ixa,b5,Q,d2,b0.ixa,c5,a7.ixa,cu,b3.ixa,cx,d3,d4,c3]
  rw[show (k:Int)+1=((k+1:Nat):Int) from om]
  refine⟨m-(k+1),om,k+1,a,A,aB rfl,om,by rw[F];omega,λj Y e=>?_,f7,rfl⟩
  by_cases a3:j=k
  ·subst a3;have:=d8 e;omega
  ·exact e4 j om e
theorem XA {G K:List Nat->Prop}{L M:List (List Nat)}{r:List Nat}(E:cZ G L)(D:cZ K M)(p:r.length=M.length)(l: ∀j,j<r.length->L[r.getD j 0]? =M[j]?):Rk L K r:=by
 have at': ∀j (a:j<r.length),∃o:r.getD j 0<L.length,L[r.getD j 0]=M[j]'om:=λj a=>by
  have:=l j a;rw[dD (by omega:j<M.length)] at this;exact vJ.1 this
 refine⟨GP.2 λj k a d f=>?_,λi=>⟨λhi=>?_,λ⟨hi,d⟩=>?_⟩⟩
 ·obtain⟨b,c⟩:=at' j a
  obtain⟨n,m⟩:=at' k d;have lt:=GP.1 D.asc j k om om f;rw[←c,←m] at lt;rw[←cW a,←cW d];rcases Nat.lt_trichotomy (r.getD j 0) (r.getD k 0) with h|h|h
  ·exact h
  ·have:L[r.getD j 0]=L[r.getD k 0]:=by congr 1
   rw[this] at lt;exact lt.irrefl.elim
  ·exact (lt.asymm (GP.1 E.asc _ _ n b h)).elim
 ·obtain⟨j,a,e⟩:=Ad.1 hi
  obtain⟨b,c⟩:=at' j a;rw[cW a,e] at b;refine⟨b,?_⟩;rw[List.getD,dD b]
  have g:L[i]=M[j]'om:=by
   rw[←c];congr 1;rw[cW a,e]
  show K L[i];rw[g];exact (D.mem _).1 (xG _)
 ·rw[List.getD,dD hi] at d
  obtain⟨j,a,e⟩:=Ad.1 ((D.mem _).2 d);obtain⟨b,c⟩:=at' j om;rw[e] at c;have:=(List.getElem_inj E.nodup).1 c;rw[cW om] at this;exact this▸xG _
theorem FN {W W':Nat->Prop}(vc vd:V)(n:Nat)(O Z:List (List Nat))(R R':List (List (List Nat)))(G K:List Nat->Prop)(L:List (List Nat))(h:H)(gc:GC W h vc n O R G)(z:GC W' h vd n Z R' K)(E:cZ G L)(le: ∀x,K x->G x):
  Ev T 63 [vc,vd] h (λv h'=> ∃r,Rk L K r/\dH h' v 1 (ints (zi r)) h.next/\Fr h h'):=by
 obtain⟨N,F,rfl,J,P⟩:=gc.shape
 obtain⟨A,s,rfl,m,f⟩:=z.shape
 refine dW rH rfl ?_
 obtain⟨B,hB⟩: ∃B,h.next=B:=⟨_,rfl⟩
 obtain⟨h1,e1,n1,g1,o1,f1⟩:=dK hB [.int .i64 (n:Int),N,F]
 obtain⟨h2,e2,n2,g2,o2,f2⟩:=dK n1 [.int .i64 (n:Int),A,s]
 have bx:=bV h (v:= .int .i64 (n:Int)) (u:=N) (w:=F) rfl J P
 have a3:=bV h1 (v:= .int .i64 (n:Int)) (u:=A) (w:=s) rfl m f
 have F2:=f1.trans f2
 have a0:h2.get B=some (.cells false [.int .i64 (n:Int),N,F]):=by rw[f2.get _ om];exact g1
 obtain⟨D,ld⟩:=dB z.cY z.isc
 have sz:=jE z
 generalize hM:dM Z R' n 0 (aX n)=M at D ld
 have eL:=gc.el E
 simp(disch:=omega)only[go_sem,rH,aE,bx,hB,e1,a3,n1,e2,aJ g2]
 refine (Tc _ n Z R' K h2 (z.mono F2) M hM).mono ?_
 rintro _ U ⟨vl,wl,rfl,ol,pl,f3⟩
 have F3:=F2.trans f3
 have g3:U.get B=some (.cells false [.int .i64 (n:Int),N,F]):=by rw[f3.get _ om];exact a0
 obtain⟨a1,t,a2,c⟩:=Qh ol pl
 have l:=(dZ.sp' ol.sv pl:SP U vl M).lens
 rw[iA] at l
 simp(disch:=omega)only[go_sem]
 refine aI (λk' a hh=> ∃(i:Nat) (Y:V) (r:List Nat),(∃g:Nat->V,a= [g 0,g 1,.ptr B 0,g 3,g 4,vl,Y,.int .i64 (i:Int),g 8,g 9])/\i<=M.length/\r.length=i/\(∀j,j<i->L[r.getD j 0]? =M[j]?)/\dH hh Y 1 (ints (zi r)) U.next/\Fr U hh/\k'=M.length-i) M.length
  ⟨0,.aD, [],aB rfl,iB _,rfl,λj hj=>om,dH.aD _ _ _,Fr.refl _,rfl⟩ ?_
 rintro k' a Q ⟨i,Y,r,⟨g,rfl⟩,hi,hl,hr,ow,o,rfl⟩
 have l3:=f3.next
 have l4:=o.next
 have F4:=F3.trans o
 have g4:Q.get B=some (.cells false [.int .i64 (n:Int),N,F]):=by rw[o.get _ om];exact g3
 by_cases q:(i:Int)<(M.length:Int)
 case neg=>
  have d1:decide ((i:Int)<(M.length:Int))=false:=decide_eq_false q;obtain rfl:i=M.length:=om
  simp(disch:=omega)only[go_sem,l,d1];exact⟨r,XA E D hl (λj hj=>hr j om),ow.le (by have:=F3.next;omega),F4⟩
 have d1:decide ((i:Int)<(M.length:Int))=true:=decide_eq_true q
 have d:i<M.length:=om
 obtain⟨b,ce,pv⟩:=c i d
 generalize wl.getD i V.undef=vx at ce pv
 have c4:Q.cell a1 (t+i)=some vx:=by rw[o.cell b];exact ce
 have hx:K (M.getD i []):=(D.mem _).1 (bC d)
 have mx:M[i]? =some (M.getD i []):=by rw[List.getD,dD d];rfl
 generalize M.getD i []=x at pv hx mx
 have fb:=(Fr.refl Q).bH (n:=Q.next+11) om
 simp(disch:=omega)only[go_sem,l,d1,a2.ixa,c4,aJ g4]
 refine (NM _ vx n O R G x _ (gc.mono (F4.trans fb)) (pv.si.mono (o.trans fb)) (le x hx)).mono ?_
 rintro _ h5 ⟨k,rfl,hk,f5⟩
 have p:=fb.trans f5
 obtain⟨h6,a6,y,f6,n6,_⟩:=Je (v:= .int .i64 (k:Int)) (ow.fr p) (o.trans p) (by rw[aP,aS];omega) (bytes:=8) om
 rw[aP,aS] at a6 y
 simp(disch:=omega)only[go_sem,Oy,show H.new h5 (.cells false (ints [(k:Int)]))=H.new h5 (.cells false [.int .i64 (k:Int)]) from rfl,a6]
 rw[show (i:Int)+1=((i+1:Nat):Int) from om]
 refine⟨M.length-(i+1),om,i+1,_,r++ [k],aB rfl,om,by rw[iV,hl];rfl,λj hj=>?_,?_,f6,rfl⟩
 ·by_cases e:j=i
  ·subst e;rw[List.getD,Jg om,hl,Nat.sub_self,mx,←eL];exact hk
  ·rw[List.getD,Dt om];exact hr j om
 ·rw[Mo,rP];exact y
theorem Nf (vg vb:V)(n:Nat)(gens a:LN)(h:H)(n0:1<=n)(n7:n<=7)(gP: ∀g∈gens,aY n g)(BP: ∀b∈a,aY n b)(gl:gens.length<100000)(Bl:a.length<=1000)(sg:SP h vg gens)(sB:SP h vb a):
  Ev T 152 [aC n,vg,vb] h (λv h'=> ∃O R,GC (λq=>q<h.next) h' v n O R (NC n (· ∈gens) (· ∈a))/\Fr h h'):=by
 refine dW mF rfl ?_
 obtain⟨B,hB⟩:=exI h.next
 obtain⟨h1,e1,n1,g1,o1,f1⟩:=dK hB [aC 0,.aD,.aD]
 have b1:=sB.lens
 rw[iA] at b1
 obtain⟨g2,d7,wB,c1,a0,g0,c4,a3⟩:=sB.open
 rw[iA] at c1 a0 g0 c4
 obtain⟨NG,U⟩:=exI (NC n (· ∈gens) (· ∈a))
 have a6:dO n NG:=U▸NC.cY gP BP
 simp(disch:=omega)only[go_sem,mF,aE,hB,e1]
 refine (Gk vg n gens h1 n0 n7 om (sg.mono f1) gP).mono ?_
 rintro _ Q ⟨O0,R0,d6,f2⟩
 obtain⟨vO,vR,rfl,oO,oR⟩:=d6.shape
 have n2:=f2.next
 obtain⟨C,hC⟩:=exI Q.next
 obtain⟨h3,e3,n3,g3,o3,f3⟩:=dK hC [aC 0,.aD,.aD]
 obtain⟨h4,e4,n4,g4,o4⟩:=mV h3 C [aC n,vO,vR]
 have c9:Fr Q h4:=⟨om,λq L=>by rw[o4 q om,o3 q om]⟩
 simp(disch:=omega)only[go_sem,hC,e3,cF h3 C 0 (v:= aC n) (u:=vO) (w:=vR) rfl oO oR,g3,cH,e4]
 refine aI (λo vs P=> ∃(vO vR:V) (O:LN) (R:jJ) (G:List Nat->Prop),(∃g:Nat->V,vs= [aC n,vg,vb,.ptr B 0,.ptr C 0,g 5,g 6,g 7,g 8,g 9,g 10,g 11,g 12,g 13])/\P.get C=some (.cells false [aC n,vO,vR])/\GC (λq=>q<B+1∨q=C) P (.agg [aC n,vO,vR]) n O R G/\(∀g∈gens,G g)/\(∀y,G y->NG y)/\Fr h1 P/\C<P.next/\5040-iW O n 0<=o) 5040
  ⟨vO,vR,O0,R0,_,aB rfl,g4,?_,λg A=>bM.of gP A,λy hy=>bM.le a6 (λg A=>U▸NC.of A) hy,⟨om,λq L=>by rw[c9.get q om];exact f2.get q L⟩,om,?_⟩ ?_
 ·refine (d6.kO (W':=λq=>q<B+1∨q=C) λq hn L=>?_).mono c9
  rcases L with h|h
  ·show q<h1.next;omega
  ·omega
 ·omega
 rintro o K P ⟨xO,xR,O,R,G,⟨g,rfl⟩,gC,J,c5,a8,F,nC,j3⟩
 have sz:=jE J
 simp(disch:=omega)only[go_sem,aJ gC]
 refine (Dd _ n O R G P P J (Fr.refl P)).mono ?_
 rintro v5 hs ⟨c6,b0,a5,f5⟩
 have lS:=Xz J
 have gS:=Jb J.cY J.isc
 have pS: ∀g∈R.flatten,G g:=λg A=>(gS g).1 (bM.of (λg A=>J.cY.bF (Jt J.isc g A)) A)
 generalize hS:R.flatten=S at a5 lS gS pS
 have l5:=aN.length a5
 rw[iA] at l5
 have d5:=b0.sv
 have b7:bL v5=some (aC (S.length:Int)):=by unfold bL;rw[SV.len d5 (n:=S.length) om om];rfl
 obtain⟨b,hb⟩:=exI hs.next
 have Fs:Fr h1 hs:=F.trans f5
 have c7:hs.get C=some (.cells false [aC n,xO,xR]):=by rw[f5.get C nC];exact gC
 have b9:C<hs.next:=jM nC f5.next
 have c2:=J.mono f5
 have PS: ∀i,i<S.length->aY n (S.getD i []):=λi hi=>J.cY.bF (pS _ (bC hi))
 have PB: ∀k,k<a.length->aY n (a.getD k []):=λk hk=>BP _ (bC hk)
 have nF:=F.next
 have j2:=f5.next
 simp(disch:=omega)only[go_sem]
 refine bQ (λvs hi=> ∃(s:V) (N:List V) (more:LN),(∃g:Nat->V,vs= [aC n,vg,vb,.ptr B 0,.ptr C 0,v5,s,g 7,g 8,g 9,g 10,g 11,g 12,g 13])/\dH hi s 1 N hs.next/\dZ (λq=>q<b∨bY s q) hi N more/\(∀g∈more,NG g/\ ¬G g)/\(∀i k,i<S.length->k<a.length->G (aT (S.getD i []) (a.getD k []))∨aT (S.getD i []) (a.getD k [])∈more)/\more.length<=49*1000/\Fr hs hi) ?_ ?_
 ·refine aI (λo vs hi=> ∃(i:Nat) (s:V) (N:List V) (more:LN),(∃g:Nat->V,vs= [aC n,vg,vb,.ptr B 0,.ptr C 0,v5,s,aC i,g 8,g 9,g 10,g 11,g 12,g 13])/\i<=S.length/\dH hi s 1 N hs.next/\dZ (λq=>q<b∨bY s q) hi N more/\(∀g∈more,NG g/\ ¬G g)/\(∀t k,t<i->k<a.length->G (aT (S.getD t []) (a.getD k []))∨aT (S.getD t []) (a.getD k [])∈more)/\more.length<=i*a.length/\Fr hs hi/\o=S.length-i) S.length
   ⟨0,.aD, [], [],aB rfl,iB _,dH.aD _ _ _,trivial,λg h=>(by cases h),λt k h=>absurd h (Nat.not_lt_zero _),by simp,Fr.refl _,rfl⟩ ?_
  rintro o K i8 ⟨i,s,N,more,⟨g,rfl⟩,hi,ow,pv,Z,hv,lm,Fi,rfl⟩
  by_cases b6:(i:Int)<(S.length:Int)
  case neg=>
   have d1:=bI b6;obtain rfl:i=S.length:=om
   simp(disch:=omega)only[go_sem,b7,d1];exact⟨s,N,more,aB rfl,ow,pv,Z,hv,mY lm (Nat.mul_le_mul lS Bl),Fi⟩
  have d1:=cI b6
  have a2:i<S.length:=om
  simp(disch:=omega)only[go_sem,b7,d1]
  refine aI (λo K P=> ∃(k:Nat) (s:V) (N:List V) (more:LN),(∃g:Nat->V,K= [aC n,vg,vb,.ptr B 0,.ptr C 0,v5,s,aC i,aC k,g 9,g 10,g 11,g 12,g 13])/\k<=a.length/\dH P s 1 N hs.next/\dZ (λq=>q<b∨bY s q) P N more/\(∀g∈more,NG g/\ ¬G g)/\(∀t o,t<i∨t=i/\o<k->o<a.length->G (aT (S.getD t []) (a.getD o []))∨aT (S.getD t []) (a.getD o [])∈more)/\more.length<=i*a.length+k/\Fr hs P/\o=a.length-k) a.length
   ⟨0,s,N,more,aB rfl,iB _,ow,pv,Z,λt o h=>hv t o om,lm,Fi,rfl⟩ ?_
  clear ow pv Z hv lm Fi
  rintro o K l ⟨k,s,N,more,⟨g,rfl⟩,hk,ow,pv,Z,hv,lm,Fk,rfl⟩
  by_cases c0:(k:Int)<(a.length:Int)
  case neg=>
   have d2:=bI c0;obtain rfl:k=a.length:=om
   simp(disch:=omega)only[go_sem,b1,d2];rw[fJ i];exact⟨S.length-(i+1),om,i+1,s,N,more,aB rfl,om,ow,pv,Z,λt k h Q=>hv t k om Q,by rw[Nat.succ_mul];exact lm,Fk,rfl⟩
  have d2:=cI c0
  have a7:k<a.length:=om
  have mm:i*a.length<=49*1000:=Nat.mul_le_mul om Bl
  have l6:=aN.length pv
  obtain⟨g6,d4,h6,i2,f7⟩:=(d5.mono Fk).shape S.length om om
  have cS:l.cell g6 (d4+i)=some (c6.getD i V.undef):=by rw[f7 i om,List.getD,dD om];rfl
  have c8:=xJ a5 a2
  have cB:l.cell g2 (d7+k)=some (wB.getD k V.undef):=by rw[((f1.trans Fs).trans Fk).cell (a0 om),c4 k om]
  have d9:=xJ a3 a7
  have P1:=PS i a2
  have Q1:=PB k a7
  have g7:=pS _ (bC (d:= []) a2)
  have bB:=bC (d:= []) a7
  obtain⟨x,hx⟩:=exI (aT (S.getD i []) (a.getD k []))
  have X:aY n x:=hx▸dC P1 Q1
  have xN:NG x:=by
   rw[←hx,←U];exact NC.cj (by rw[U];exact a8 _ g7) bB
  generalize c6.getD i V.undef=vs at cS c8
  generalize wB.getD k V.undef=vw at cB d9
  have fb:Fr l (H.mk l.tr (l.next+10)):=(Fr.refl l).bH om
  have j5:(H.mk l.tr (l.next+10)).next=l.next+10:=rfl
  simp(disch:=omega)only[go_sem,b1,d2,h6.ixa,cS,c1.ixa,cB]
  refine (FD vs vw n _ _ _ om P1 Q1 (c8.mono (f5.trans (Fk.trans fb))) (d9.mono (((f1.trans Fs).trans Fk).trans fb))).mono ?_
  rw[hx]
  rintro v9 b4 ⟨s9,f9,n9⟩
  have i1:=XJ s9 n9
  have F2:=fb.trans f9
  have b3:=Fk.trans F2
  have i4:=F2.next
  have f8:b4.get C=some (.cells false [aC n,xO,xR]):=by rw[b3.get C b9];exact c7
  simp(disch:=omega)only[go_sem,aJ f8]
  refine (BA _ v9 n O R _ x b4 n0 om J.cY J.isc (c2.ch.mono b3) s9 X).mono ?_
  rintro _ g8 ⟨bb,rfl,e6,e5⟩
  have F3:=F2.trans e5
  have e0:=Fk.trans F3
  cases bb with
  |true=>
   simp(disch:=omega)only[go_sem];rw[fJ k];refine⟨a.length-(k+1),om,k+1,s,N,more,aB rfl,om,ow.fr F3,dZ.fr pv F3,Z,λt o h1 Q=>?_,om,e0,rfl⟩
   by_cases e:t=i/\o=k
   ·rw[e.1,e.2,hx];exact .inl (e6.1 rfl)
   ·exact hv t o om Q
  |false=>
   have nx: ¬G x:=λh=>by have:=e6.2 h;cases this
   have wx:=SV.cT s9;obtain⟨i6,a4,h7,h8,f4,j1⟩:=agI (x:=x) (v:=v9) (ow.fr F3) e0 om (b:=b) om (dZ.fr pv F3) ⟨s9.mono e5,(PV.aiM ow (by have:=Fk.next;omega) (i1.kO λq _ (h:q<l.next)=>by show q<l.next+10;omega)).off⟩;simp(disch:=omega)only[go_sem,cK g8 (z:= .aD) wx.1 wx.2.1,a4];rw[fJ k];refine⟨a.length-(k+1),om,k+1,_,_,more++ [x],aB rfl,om,h7,h8,λg A=>?_,λt o h1 Q=>?_,by rw[iV,List.length_singleton];omega,f4,rfl⟩
   ·rcases oD.1 A with h|h
    ·exact Z g h
    ·rw[List.mem_singleton.1 h];exact⟨xN,nx⟩
   ·by_cases e:t=i/\o=k
    ·rw[e.1,e.2,hx];exact .inr (by simp)
    ·exact (hv t o om Q).imp id λh=>oD.2 (.inl h)
 rintro K hi ⟨s,N,more,⟨g,rfl⟩,ow,pv,Z,hv,lm,Fi⟩
 have l6:=aN.length pv
 have c3:bL s=some (aC (more.length:Int)):=by unfold bL;rw[SV.len ow.sv (n:=more.length) om om];rfl
 have j4:=Fi.next
 have f0:hi.get C=some (.cells false [aC n,xO,xR]):=by rw[Fi.get C b9];exact c7
 by_cases b2:more.length=0
 ·have d3:decide ((more.length:Int)=0)=true:=cI om
  have g5:more= []:=ON b2
  have h5:hi.get B=some (.cells false [aC 0,.aD,.aD]):=by rw[(Fs.trans Fi).get B om];exact g1
  obtain⟨_,qO,qR⟩:=J.one
  obtain⟨h9,e9,n9,g9,o9⟩:=mV hi B [aC n,xO,xR]
  simp(disch:=omega)only[go_sem,c3,d3,aJ f0,cF hi B 0 (v:= aC n) (u:=xO) (w:=xR) rfl qO qR,h5,cH,e9,aJ g9]
  have Fh:Fr h hi:=(f1.trans Fs).trans Fi
  have eG: ∀y,G y↔NG y:=λy=>by
   refine⟨a8 y,λhy=>?_⟩;rw[←U] at hy;refine hy.le J.cY c5 λz c hz hc=>?_
   obtain⟨k,hk,rfl⟩:=Ad.1 hc;have e7: ∀g∈S,aY n g:=λg A=>J.cY.bF (pS g A)
   have ek:a[k]=a.getD k []:=sD hk;rw[ek];refine (gS _).1 (GY e7 (PB k hk) (λz hz=>?_) ((gS z).2 hz));obtain⟨i,b8,rfl⟩:=Ad.1 hz;rw[sD (d:= []) b8];rcases hv i k b8 hk with h|h
   ·exact (gS _).2 h
   ·rw[g5] at h;cases h
  rw[U]
  refine⟨O,R,((c2.mono Fi).congr eG).go ⟨om,λq h1 Q=>o9 q λe=>Q (.inl om)⟩ λq _ (h:q<B)=> .inl om,⟨by have:=Fh.next;omega,λq L=>by rw[o9 q om];exact Fh.get q L⟩⟩
 ·have d3:decide ((more.length:Int)=0)=false:=bI om
  obtain⟨vq,L,aq,Ap⟩:=(b0.fr Fi).app (bytes:=24) om ow.sv (n:=S.length) (m:=more.length) om om om om
  have nq:=Ap.next
  have a9:Fr P L:=Ap.fr P (f5.trans Fi) (dT _)
  have b5:Fr h1 L:=F.trans a9
  have j0:Fr h L:=f1.trans b5
  have e8: ∀k,b<=k->dR v5 k:=λk hk i5 j6 m c e e2=>by have:=(b0.in _ _ _ _ e).1;omega
  have f6:Fx (λq=>q<b) hi L:=⟨om,λq h1 Q=>Ap.get q om (e8 q om)⟩
  have h0:SP L vq (S++more):=dZ.LO (W:=λ_=>False) Ap.own.sv (aN.append (aN.mono (λ_ _ p=>⟨p.mono a9,Ct _⟩) (sC a5)) (aN.mono (λ_ _ p=>(PV.go p (Fx.wide f6 λq h=> .inl h) λq _ h=>h.elim)) pv))
  simp(disch:=omega)only[go_sem,c3,d3,aq]
  have d0: ∀g∈S++more,aY n g:=λg A=>(oD.1 A).elim (λh=>J.cY.bF (pS g h)) λh=>a6.bF (Z g h).1
  refine (Gk vq n (S++more) L n0 n7 (by rw[iV];omega) h0 d0).mono ?_
  rintro _ hr ⟨O2,R2,Y,fr⟩
  obtain⟨yO,yR,rfl,pO,pR⟩:=Y.shape
  have d8:=b5.trans fr
  have i7:=fr.next
  have i0:hr.get C=some (.cells false [aC n,xO,xR]):=by rw[fr.get C om,a9.get C nC];exact gC
  obtain⟨h9,e9,n9,g9,o9⟩:=mV hr C [aC n,yO,yR]
  simp(disch:=omega)only[go_sem,cF hr C 0 (v:= aC n) (u:=yO) (w:=yR) rfl pO pR,i0,cH,e9]
  have a1: ∀y,G y->bM n (· ∈S++more) y:=λy hy=>bM.mono (λg A=>oD.2 (.inl A)) ((gS y).2 hy)
  obtain⟨z,hz⟩: ∃z,z∈more:=by
   cases more with
   |nil=>exact absurd rfl b2
   |cons z r=>exact⟨z,by simp⟩
  have j7:=jE Y
  have i9:2*iW O n 0<=iW O2 n 0:=by
   obtain⟨E,e⟩:=dB J.cY J.isc;obtain⟨F',f⟩:=dB Y.cY Y.isc;rw[←e,←f];exact dbl J.cY Y.cY E F' a1 (bM.of d0 (oD.2 (.inr hz))) (Z z hz).2
  have i3:=Mz n 0 λj _ Q=>(J.row (j:=j) om).1
  refine⟨_,?_,yO,yR,O2,R2,_,aB rfl,g9,?_,λg A=>a1 g (c5 g A),λy hy=>bM.le a6 (λg A=>(oD.1 A).elim (λh=>a8 g (pS g h)) λh=>(Z g h).1) hy,⟨by have:=d8.next;omega,λq L=>by rw[o9 q om];exact d8.get q L⟩,om,dT _⟩
  ·omega
  ·exact Y.go ⟨om,λq h1 Q=>o9 q λe=>Q (by show q<_;omega)⟩ λq _ h=>by
    show q<L.next;rcases h with h|h
    ·omega
    ·omega
set_option maxHeartbeats 32000000
theorem PG {W:Nat->Prop}(vc P:V)(n:Nat)(O:List (List Nat))(R:List (List (List Nat)))(G:List Nat->Prop)(gens:List (List Nat))(h:H)(d:GC W h vc n O R G)(gP: ∀g∈gens,aY n g)(gl:gens.length<=4096)(sg:SP h P gens):
  Ev T 113 [vc,P] h (λv h'=> ∃vd O' R',v= .tup [vd,.int .i64 0]/\GC (λq=>q<h.next) h' vd n O' R' (NC n (· ∈gens) (· ∈R.flatten))/\Fr h h'):=by
 obtain⟨p,o,rfl,A,F⟩:=d.shape
 have n0:=d.n0
 have n7:=d.n7
 have a1:=Xz d
 refine dW mP rfl ?_
 obtain⟨B,hB⟩: ∃B,h.next=B:=⟨_,rfl⟩
 obtain⟨h1,e1,n1,g1,o1,f1⟩:=dK hB [.int .i64 (n:Int),p,o]
 obtain⟨Q,e2,n2,g2,o2,f2⟩:=dK n1 [.int .i64 0,.aD,.aD]
 have bx:=bV h (v:= .int .i64 (n:Int)) (u:=p) (w:=o) rfl A F
 have F2:=f1.trans f2
 have x:Q.get B=some (.cells false [.int .i64 (n:Int),p,o]):=by rw[f2.get _ om];exact g1
 have d0:decide ((0:Int)≠0)=false:=rfl
 simp(disch:=omega)only[go_sem,mP,aE,bx,hB,e1,n1,e2,aJ x]
 refine ((d.mono F2).Jf).mono ?_
 rintro _ h3 ⟨rfl,N⟩
 have F3:=F2.trans N
 obtain⟨ls,es,s,b,wS,r,cS⟩:=Pf sg
 have dl:decide ((gens.length:Int)>4096)=false:=decide_eq_false om
 simp(disch:=omega)only[go_sem,d0,ls,dl]
 refine aI (λk' c hh=> ∃(k:Nat),(∃g:Nat->V,c= [g 0,P,.ptr B 0,.ptr (B+1) 0,g 4,g 5,.int .i64 (k:Int),g 7,g 8,g 9,g 10,g 11,g 12])/\k<=gens.length/\Fr h3 hh/\k'=gens.length-k) gens.length
  ⟨0,aB rfl,iB _,Fr.refl _,rfl⟩ ?_
 rintro k' c l ⟨k,⟨g,rfl⟩,hk,K,rfl⟩
 have l3:=N.next
 have l4:=K.next
 have m:=F3.trans K
 have L:l.get B=some (.cells false [.int .i64 (n:Int),p,o]):=by rw[K.get _ om,N.get _ om];exact x
 have u4:l.get (B+1)=some (.cells false [.int .i64 0,.aD,.aD]):=by rw[K.get _ om,N.get _ om];exact g2
 by_cases t:(k:Int)<(gens.length:Int)
 case neg=>
  have d1:decide ((k:Int)<(gens.length:Int))=false:=decide_eq_false t;have fb:=(Fr.refl l).bH (n:=l.next+8) om;simp(disch:=omega)only[go_sem,ls,d1,H.cell_of L,aJ L];refine (Gq _ n O R G _ (d.mono (m.trans fb))).mono ?_;rintro vs j ⟨sp,z⟩;have a:=fb.trans z;have u5:j.get (B+1)=some (.cells false [.int .i64 0,.aD,.aD]):=by rw[a.get _ om];exact u4
  simp(disch:=omega)only[go_sem];have g5:j.get B=some (.cells false [.int .i64 (n:Int),p,o]):=by rw[a.get _ om];exact L
  refine⟨by rw[H.cell_of g5];simp [SW,dI],?_⟩;refine (Nf P vs n gens R.flatten j n0 n7 gP (λg hg=>d.cY.bF (Jt d.isc g hg)) om om (sg.mono (m.trans a)) sp).mono ?_;rintro _ h6 ⟨O2,R2,y,Y⟩;obtain⟨xO,xR,rfl,a0,Z⟩:=y.shape;have l5:=a.next;have l6:=Y.next;have u6:h6.get (B+1)=some (.cells false [.int .i64 0,.aD,.aD]):=by rw[Y.get _ om];exact u5
  have F6:=m.trans (a.trans Y);obtain⟨hs,U,ns,gs,os⟩:=mV h6 (B+1) [.int .i64 (n:Int),xO,xR];simp(disch:=omega)only[go_sem,cF h6 (B+1) 0 (v:= .int .i64 (n:Int)) (u:=xO) (w:=xR) rfl a0 Z,u6,cH,U,aJ gs];refine⟨_,O2,R2,rfl,?_,⟨om,λq hq=>by rw[os q om];exact F6.get q hq⟩⟩;exact y.go ⟨om,λq h1 Q=>os q λe=>Q (by show q<_;omega)⟩ λq _ (h:q<B)=>by show q<j.next;omega
 have d1:decide ((k:Int)<(gens.length:Int))=true:=decide_eq_true t
 have J:k<gens.length:=om
 obtain⟨bS,i,f⟩:=cS k J
 generalize wS.getD k V.undef=vx at i f
 have c4:l.cell s (b+k)=some vx:=by rw[m.cell bS];exact i
 have X:aY n (gens.getD k []):=gP _ (bC J)
 simp(disch:=omega)only[go_sem,ls,d1,r.ixa,c4]
 refine (Hn vx (zi (gens.getD k [])) l (by rw[aS,X.len];omega) (f.mono m)).mono ?_
 rw[Wm X n0 om]
 rintro _ j ⟨rfl,z⟩
 have g5:j.get B=some (.cells false [.int .i64 (n:Int),p,o]):=by rw[z.get _ om];exact L
 have c5:j.cell s (b+k)=some vx:=by rw[(m.trans z).cell bS];exact i
 have lx:=f.lens
 rw[aS,X.len] at lx
 have dn:decide ((n:Int)≠(n:Int))=false:=decide_eq_false (λh=>h rfl)
 simp(disch:=omega)only[go_sem,d0,r.ixa,c5,lx,H.cell_of g5,dn]
 rw[show (k:Int)+1=((k+1:Nat):Int) from om]
 exact⟨gens.length-(k+1),om,k+1,aB rfl,om,K.trans (z.bH om),rfl⟩
section
variable {ks:List Cls.KE}
def Oz (a:Cls.KE):List V:= [a.rep,aC (a.ord:Int),aC (a.size:Int)]
theorem eP (a:Cls.KE)(r:List Cls.KE):sX (a::r)=Oz a++sX r:=rfl
theorem GJ (a b:List Cls.KE):sX (a++b)=sX a++sX b:=by unfold sX;rw[List.flatMap_append]
theorem DI: ∀{ks:List Cls.KE} {pre:List V} {i:Nat} (a:Cls.KE),i<ks.length->putAt (pre++sX ks) (pre.length+i*3) (Oz a)=some (pre++sX (ks.set i a))
 | [],_,_,_,hi=>by simp at hi
 |b::r,pre,0,a,_=>by
  have d:(Oz a).length=3:=rfl;have c:(Oz b).length=3:=rfl;unfold putAt;rw[eP,List.set_cons_zero,eP,bJ (by simp only[iV];omega),Nat.zero_mul,Nat.add_zero,List.take_left,d,←c,←iV,←Lz,List.drop_left,Lz]
 |b::r,pre,i+1,a,hi=>by
  have:=DI (ks:=r) (pre:=pre++Oz b) (i:=i) a (by simpa using hi);rw[iV,show (Oz b).length=3 from rfl] at this;rw[show pre.length+(i+1)*3=pre.length+3+i*3 by omega,List.set_cons_succ,eP,eP,←Lz,←Lz];exact this
theorem RO {i:Nat}(hi:i<ks.length)(h:H)(S:Nat)(a:Cls.KE):eU (some (.cells false (sX ks))) h S (0+i*3) [a.rep,aC (a.ord:Int),aC (a.size:Int)]=some (h.set S (some (.cells false (sX (ks.set i a))))):=by
 have:=DI (pre:= []) a hi;simp only[List.nil_append,List.length_nil] at this;show Option.map (λb=>h.set S (some (Ob.cells false b))) (putAt (sX ks) (0+i*3) (Oz a))=_;rw[this];rfl
def ZU:Cls.KE:=⟨.aD,0,0,.aD,0,⟨rfl,rfl,rfl⟩,⟨rfl,rfl,rfl⟩⟩
theorem Qu (n:Nat):dP [.aD,aC 0,aC 0] (n*3)=sX (List.replicate n ZU):=by
 induction n with
 |zero=>rfl
 |succ n ih=>
  rw[List.replicate_succ,eP,←ih];unfold dP;rw[show (n+1)*3=n*3+1+1+1 by omega,List.range_succ_eq_map,List.range_succ_eq_map,List.range_succ_eq_map];simp only[List.map_cons,List.map_map];refine congrArg (λl=>V.aD::aC 0::aC 0::l) (Xa λi _=>?_);show [V.aD,aC 0,aC 0].getD ((i+3)%3) V.undef= [V.aD,aC 0,aC 0].getD (i%3) V.undef;rw[Nat.add_mod_right]
theorem abM (h:H)(n:Nat)(a:n<=100000):Jz h 3 40 [.aD,aC 0,aC 0] (aC n) (aC n)=some (.sl h.next 0 n (.kn n),h.new (.cells false (sX (List.replicate n ZU)))):=by
 rw[uM om (Int.le_refl _) om om,DK,Qu]
def Sr (M K:List Nat)(ks:List Cls.KE)(w t:Nat):List Cls.KE:=(List.range w).map λq=>if M.idxOf (K.getD q 0)<t then ks.getD (M.idxOf (K.getD q 0)) ZU else ZU
theorem IZ (M K:List Nat)(ks:List Cls.KE)(w:Nat):Sr M K ks w 0=List.replicate w ZU:=by
 unfold Sr;refine List.ext_getElem (by simp) λi a b=>by simp
theorem BE (M K:List Nat)(ks:List Cls.KE)(w t:Nat):(Sr M K ks w t).length=w:=by simp [Sr]
theorem VP {M K:List Nat}{w t:Nat}(a:K.Perm M)(nd:M.Nodup)(o:M.length=w)(p:t<w):(Sr M K ks w t).set (K.idxOf (M.getD t 0)) (ks.getD t ZU)=Sr M K ks w (t+1):=by
 have r:=a.length_eq;have c:=a.nodup_iff.2 nd;have m:M.getD t 0∈K:=a.mem_iff.2 (bC om);have l:=XK.2 m;have i:M.idxOf (M.getD t 0)=t:=by rw[Pm.cW (show t<M.length by omega)];exact nd.idxOf_getElem _ _
 refine List.ext_getElem (by simp [Sr]) λq f n=>?_
 have k:q<w:=by simpa [Sr] using f
 rw[List.getElem_set];simp only[Sr,List.getElem_map,List.getElem_range]
 by_cases e:K.idxOf (M.getD t 0)=q
 ·rw[bJ e]
  have d:K.getD q 0=M.getD t 0:=by rw[←e,Pm.cW l,List.getElem_idxOf]
  rw[d,i,bJ om]
 ·rw[bU e]
  have d:M.idxOf (K.getD q 0)≠t:=λh=>by
   have b:K.getD q 0∈M:=a.mem_iff.1 (bC om);have g:=XK.2 b;have j:M.getD t 0=K.getD q 0:=by rw[←h,Pm.cW g,List.getElem_idxOf]
   rw[j,Pm.cW (show q<K.length by omega)] at e;exact e (c.idxOf_getElem _ _)
  by_cases h:M.idxOf (K.getD q 0)<t
  ·rw[bJ h,bJ om]
  ·rw[bU h,bU om]
theorem PI {M K:List Nat}{w:Nat}(b:K.Perm M)(h:M.length=w){P:Cls.KE->Nat->Prop}(al:aN P ks M):aN P (Sr M K ks w w) K:=by
 have i:=b.length_eq;have f:=aN.length al;refine aN.eM (by rw[BE];omega) λq g d=>?_
 have a:K.getD q 0∈M:=b.mem_iff.1 (bC om);have c:=XK.2 a;simp only[Sr,List.getElem_map,List.getElem_range];rw[bJ om,List.getD,dD om];have:=aN.get al (M.idxOf (K.getD q 0)) om c;rw[List.getElem_idxOf] at this;have e:K.getD q 0=K[q]:=Pm.cW d;have:P ks[M.idxOf (K.getD q 0)] K[q]:=by rw[←e];exact this
 exact this
theorem Yr (a b:Cls.KE)(n:Nat)(x y:List Nat)(h:H)(N:n<100000)(P:x.length=n)(Q:y.length=n)(L:SI h a.rep (zi x))(G:SI h b.rep (zi y))(c:Bool)(p:(a.ord<b.ord∨a.ord=b.ord/\(a.size<b.size∨a.size=b.size/\Lt x y))↔c=true):
  Ev T 201 [.agg [a.rep,aC (a.ord:Int),aC (a.size:Int)],.agg [b.rep,aC (b.ord:Int),aC (b.size:Int)]] h (λv h'=>v= .bool c/\Fr h h'):=by
 refine dW gU rfl ?_
 obtain⟨B,i⟩:=exI h.next
 obtain⟨z,o,g,J,Y,A⟩:=dK i [a.rep,aC (a.ord:Int),aC (a.size:Int)]
 obtain⟨r,l,U,O,W,t⟩:=dK g [b.rep,aC (b.ord:Int),aC (b.size:Int)]
 have m:=bV h (v:=a.rep) (u:= aC (a.ord:Int)) (w:= aC (a.size:Int)) a.hrep.2.1 rfl rfl
 have e:=bV z (v:=b.rep) (u:= aC (b.ord:Int)) (w:= aC (b.size:Int)) b.hrep.2.1 rfl rfl
 have k:r.get B=some (.cells false [a.rep,aC (a.ord:Int),aC (a.size:Int)]):=by rw[t.get _ om];exact J
 have F:=A.trans t
 have go:=H.cell_of k
 have d:=H.cell_of O
 by_cases q:a.ord=b.ord
 case neg=>
  have f:decide ((a.ord:Int)≠(b.ord:Int))=true:=cI om;simp(disch:=omega)only[go_sem,gU,aE,m,i,o,e,g,l,go,d,f];refine⟨?_,F⟩;congr 1;rw[DW,Ak,←p];exact⟨λh=> .inl om,by rintro (h|⟨h,_⟩);omega;exact absurd h q⟩
 have f:decide ((a.ord:Int)≠(b.ord:Int))=false:=bI om
 by_cases s:a.size=b.size
 case neg=>
  have j:decide ((a.size:Int)≠(b.size:Int))=true:=cI om;simp(disch:=omega)only[go_sem,gU,aE,m,i,o,e,g,l,go,d,f,j];refine⟨?_,F⟩;congr 1;rw[DW,Ak,←p];exact⟨λh=> .inr ⟨q,.inl om⟩,by rintro (h|⟨_,h|⟨h,_⟩⟩);omega;omega;exact absurd h s⟩
 have j:decide ((a.size:Int)≠(b.size:Int))=false:=bI om
 simp(disch:=omega)only[go_sem,gU,aE,m,i,o,e,g,l,go,d,f,j]
 refine (abJ a.rep b.rep n x y r N P Q (L.mono F) (G.mono F)).mono ?_
 rintro _ R ⟨rfl,K⟩
 simp(disch:=omega)only[go_sem]
 refine⟨?_,F.trans K⟩
 congr 1
 rw[DW,mQ om,←p]
 exact⟨λh=> .inr ⟨q,.inr ⟨s,h⟩⟩,by rintro (h|⟨_,h|⟨_,h⟩⟩);omega;omega;exact h⟩
end
end Go.Proofs.YtcdbmkidaecdiaaGreat
