/- Texts of the claim. -/
import Derived.Test.YtcdbmkidaecdiaaGreatDp2toP6a
import Derived.Test.YtcdbmkidaecdiaaGreatAy39
import Derived.Test.YtcdbmkidaecdiaaGreatC16code
import Derived.Sort.AssemblyPlain
import Derived.Test.YtcdbmkidaecdiaaGreatP5a
set_option maxHeartbeats 64000000
namespace Go.Proofs.YtcdbmkidaecdiaaGreat
open Go Go.Ay Go.Pm
set_option maxRecDepth 100000
theorem afB {h:H}{S k c:Nat}{vs:List V}{y w:V}(a:h.get S=some (.cells false vs))(l:vs.length=c)(j:k<c)(m:c<1000000)(b:SV h y 1 [w]):
  xQ h 1 8 (.sl S 0 k (.kn c)) y=some (.sl S 0 (k+1) (.kn c),h.set S (some (.cells false (vs.set k w)))):=by
 have d:xQ h 1 8 (.sl S 0 k (.kn c)) y=Ay.yB h 1 8 (.sl S 0 k (.kn c)) 1 [w]:=by
  simp only[xQ,b.len (n:=1) rfl om,b.slice]
 rw[d]
 have i:h.slice 1 (.sl S 0 k (.kn c))=some (vs.take k):=by
  simp only[H.slice,H.row,a,sub];rw[bF om];simp
 have f:h.put S (0+k*1) [w]=some (h.set S (some (.cells false (vs.set k w)))):=by
  rw[H.put_eq,a,Nat.zero_add,uW,bN om]
 unfold Ay.yB
 simp only[i,sW]
 rw[bI om,bF om,bF om,f]
theorem DF {l:List Int}{a:List Nat}(b:l.Perm (zi a))(c:l.Pairwise (· <= ·)):l=zi (wC a):=by
 refine AN ?_ c ?_
 ·exact b.trans ((Kj a).map _).symm
 ·unfold zi
  rw[List.pairwise_map];exact (Ry a).imp λh=>om
theorem Gx (O:LN)(x:List Nat)(i:Nat):(jP O x i).length=(O.getD i []).length:=by simp [jP]
theorem abR {O:LN}{x:List Nat}{i k:Nat}(a:k<(O.getD i []).length):(jP O x i).getD k 0=x.getD ((O.getD i []).getD k 0) 0:=by
 unfold jP;rw[nP (λq=>x.getD q 0) (d:=0) a]
theorem DG {W:Nat->Prop}(vc vx:V)(n i:Nat)(O:LN)(R:jI)(G:List Nat->Prop)(x:List Nat)(h:H)(A:GC W h vc n O R G)(hi:i<n)(hx:SI h vx (zi x))(X:bE n x):
  Ev T 180 [vc,vx,aC i] h (λv h'=>zD h h' v (zi (wC (jP O x i)))):=by
 obtain⟨vO,vR,e,sO,sR⟩:=A.ch
 subst e
 refine cV Bp rfl ?_
 have b:=A.isc
 have n7:=A.n7
 obtain⟨wO,tO,aO⟩:=sO
 have lO:=aO.length
 rw[jV,b.lo] at lO
 have Y:=tO.cK.2.1
 have L:vR.one=true:=oNt sR
 obtain⟨B,hB⟩:=exI h.next
 obtain⟨h1,e1,n1,g1,o1,f1⟩:=dF hB [aC n,vO,vR]
 have bx:=bM h (v:= aC n) (u:=vO) (w:=vR) rfl Y L
 have a:=iG aO (i:=i) (by rw[jV,b.lo];omega) .undef []
 rw[nP zi (d:= []) (by rw[b.lo];omega)] at a
 obtain⟨N,o,a9,a1,a8⟩:=(tO.mono f1).shape n om om
 have co:h1.cell N (o+i)=some (wO.getD i .undef):=by rw[a8 i om,List.getD,dD om];rfl
 generalize wO.getD i .undef=vo at a co
 have lo:=a.lens
 rw[aQ] at lo
 obtain⟨m,r⟩:=exI ((O.getD i []).length)
 rw[r] at lo
 have J:=A.row (j:=i) hi
 rw[r] at J
 have mk:Jo h1 1 8 [aC 0] (aC 0) (aC m)=some (.sl (B+1) 0 0 (.kn m),h1.new (.cells false (rc m λ_=> aC 0))):=by
  rw[tU om om om om,NK,uW,Jf,show ints (List.replicate m 0)=rc m λ_=> aC 0 from (Kq (by simp [fT]) λi hi=>by simp [ints,hi]).symm,n1]
  rfl
 obtain⟨h2,e2,n2,g2,o2,f2⟩:=dF n1 (rc m λ_=> aC 0)
 rw[e2] at mk
 have b0:h2.get B=some (.cells false [aC n,vO,vR]):=by rw[o2 _ om];exact g1
 have a6:h2.cell N (o+i)=some vo:=by rw[f2.cell (by have:=a1 om;omega)];exact co
 simp(disch:=omega)only[go_sem,Bp,aD,bx,hB,e1,H.aF g1,a9.ixa,co,lo,mk,H.aF b0,a6]
 obtain⟨a7,a2,t,c,a3⟩:=a.open
 rw[aQ,r] at t c a3
 obtain⟨idx,Z,P,l,K⟩:=hx.open
 rw[aQ,X.len] at P l K
 refine aH (λk' f hh=> ∃(k:Nat),(∃g:Nat->V,f= [g 0,vx,g 2,g 3,g 4,.sl (B+1) 0 k (.kn m),g 6,vo,aC m,aC k,g 10])/\k<=m/\hh.get (B+1)=some (.cells false (rc m λj=>if j<k then aC ((jP O x i).getD j 0:Nat) else aC 0))/\B+1<hh.next/\Fr h hh/\k'=m-k) m
  ⟨0,aB rfl,iJ _,by rw[g2];rfl,om,f1.trans f2,rfl⟩ ?_
 rintro k' f p ⟨k,⟨g,rfl⟩,hk,gS,nx,F,rfl⟩
 by_cases y:(k:Int)<(m:Int)
 ·have d1:=oQ y
  have Q:k<m:=om
  have cq:p.cell a7 (a2+k)=some (aC ((O.getD i []).getD k 0:Nat)):=by rw[F.cell (c om),a3 k Q];congr 2;rw[zi,nP _ (d:=0) om]
  have hq:=Im A.dN b hi (q:=(O.getD i []).getD k 0) (bD om)
  have U:=abR (O:=O) (x:=x) (i:=i) (k:=k) om
  generalize (O.getD i []).getD k 0=q at cq hq U
  have cx:p.cell idx (Z+q)=some (aC (x.getD q 0:Nat)):=by rw[F.cell (l om),K q hq];congr 2;simp [zi,X.len,hq]
  obtain⟨h5,e5,n5,g5,o5,s⟩:=dF (h:=p) rfl [aC (x.getD q 0:Nat)]
  have b1:h5.get (B+1)=some (.cells false (rc m λj=>if j<k then aC ((jP O x i).getD j 0:Nat) else aC 0)):=by rw[s.get _ nx];exact gS
  have ap:=afB b1 (Df _ _) Q om (SV.one (v:= aC (x.getD q 0:Nat)) (id:=p.next) om g5 (.kn 1))
  rw[mS] at ap
  simp(disch:=omega)only[go_sem,d1,t.ixa,cq,P.ixa,cx,cT p (z:= aC 0) (v:= aC (x.getD q 0:Nat)) rfl rfl,e5,ap]
  rw[eJ k]
  refine⟨m-(k+1),om,k+1,aB rfl,om,?_,om,(F.trans s).set om _,rfl⟩
  congr 2
  refine dB λj hj=>?_
  by_cases e:j=k
  ·subst e;rw[bF rfl,bF om,U]
  ·rw[bI e]
   by_cases e2:j<k
   ·rw[bF e2,bF om]
   ·rw[bI e2,bI om]
 have d1:=bH y
 obtain rfl:k=m:=om
 have a4:(zi (jP O x i)).length=k:=by rw[aQ,Gx,r]
 have b2:p.get (B+1)=some (.cells false (ints (zi (jP O x i)))):=by
  rw[gS,←Zu,Gx,r];congr 2;exact dB λj hj=>by rw[bF hj]
 have so:=Lm p (B+1) (zi (jP O x i)) (.kn k) om b2 nx
 rw[a4] at so
 simp(disch:=omega)only[go_sem,d1]
 refine so.mono ?_
 rintro _ h5 ⟨l',g5,p5,a5,s⟩
 have el:=DF p5 a5
 subst el
 have ls:(zi (wC (jP O x i))).length=k:=by rw[aQ,(Kj _).length_eq,Gx,r]
 simp(disch:=omega)only[go_sem]
 refine⟨⟨B+1,_,by rw[ls],om,iW nx s.next,g5,.inr (by rw[ls])⟩,⟨mT F.next s.next,λid a0=>?_⟩⟩
 rw[s.get id (iW a0 F.next) (λe=>by have:id=B+1:=e;omega)]
 exact F.get id a0
theorem VL: ∀{l:List Nat} {k im:Nat},l[k]? =some im->l.idxOf im<=k
 | [],k,im,h=>by simp at h
 |a::l,0,im,h=>by
  have:a=im:=by simpa using h
  subst this;simp [List.idxOf_cons]
 |a::l,k+1,im,h=>by
  rw[List.idxOf_cons]
  by_cases e:a=im
  ·subst e;simp
  ·have b:(a==im)=false:=by simpa using e
   rw[b];have:=VL (l:=l) (k:=k) (im:=im) (by simpa using h);simp only[cond_false];omega
theorem agD (G K:V)(a b:Nat)(o x:List Nat)(im:Nat)(h:H)(hn:o.length<1000000)(P:SI h G (zi o))(hx:SI h K (zi x))(W:h.get a=some (.cells false [K]))(hb:h.get b=some (.cells false [aC im]))(N:a<h.next)(B:b<h.next)(hr: ∀q∈o,q<x.length)(s:im∈o.map λq=>x.getD q 0):
  Ev T 222 [G,.fn 223 [] [.ptr a 0,.ptr b 0]] h (λv h'=>v= aC ((o.map λq=>x.getD q 0).idxOf im:Nat)/\Fr h h'):=by
 refine cV lJ rfl ?_
 have U:=P.lens
 rw[aQ] at U
 obtain⟨L,w,n,j,y⟩:=P.open
 rw[aQ] at n j y
 obtain⟨idx,t,p,i,u⟩:=hx.open
 rw[aQ] at p i u
 have A:=iLL.2 s
 rw[jV] at A
 simp(disch:=omega)only[go_sem,lJ,aD,U]
 refine aH (λR l f=> ∃(k:Nat),(∃g:Nat->V,l= [G,.fn 223 [] [.ptr a 0,.ptr b 0],g 2,g 3,aC (o.length:Int),aC k,g 6,g 7])/\k<=(o.map λq=>x.getD q 0).idxOf im/\Fr h f/\R=o.length-k) o.length
  ⟨0,aB rfl,iJ _,Fr.refl h,rfl⟩ ?_
 rintro R l f ⟨k,⟨g,rfl⟩,hk,F,rfl⟩
 have c:k<o.length:=om
 have d1:decide ((k:Int)<(o.length:Int))=true:=oQ om
 have O:f.cell L (w+k)=some (aC (o.getD k 0:Nat)):=by rw[F.cell (j om),y k c];congr 2;rw[zi,nP _ (d:=0) c]
 have z:=hr _ (bD (d:=0) c)
 have m:(o.map λq=>x.getD q 0)[k]'(by simpa using c)=x.getD (o.getD k 0) 0:=by simp [List.getD,c]
 generalize o.getD k 0=q at O z m
 have cx:f.cell idx (t+q)=some (aC (x.getD q 0:Nat)):=by rw[F.cell (i om),u q z];congr 2;simp [zi,z]
 have Z:f.cell a 0=some K:=by rw[H.aF (by rw[F.get _ N];exact W)];rfl
 have Y:f.cell b 0=some (aC im):=by rw[H.aF (by rw[F.get _ B];exact hb)];rfl
 have cl:Ev T 223 [aC q,.ptr a 0,.ptr b 0] f (λv h'=>v= .bool (decide (((x.getD q 0:Nat):Int)=(im:Int)))/\Fr f h'):=by
  refine cV De rfl ?_;simp(disch:=omega)only[go_sem,De,aD,Z,p.ixa,cx,Y];exact (Fr.refl f).bA om
 simp(disch:=omega)only[go_sem,d1,n.ixa,O]
 refine cl.mono ?_
 rintro _ h2 ⟨rfl,Q⟩
 by_cases r:((x.getD q 0:Nat):Int)=(im:Int)
 ·rw[oQ r]
  simp(disch:=omega)only[go_sem]
  have:(o.map λq=>x.getD q 0).idxOf im=k:=by
   have J:(o.map λq=>x.getD q 0).idxOf im<=k:=VL (by
    rw[dD (by simpa using c),m]
    congr 1;omega)
   omega
  rw[this]
  exact⟨rfl,F.trans Q⟩
 ·rw[bH r]
  simp(disch:=omega)only[go_sem]
  rw[eJ k]
  refine⟨o.length-(k+1),om,k+1,aB rfl,?_,F.trans Q,rfl⟩
  have:(o.map λq=>x.getD q 0).idxOf im≠k:=λe=>by
   have J:=List.getElem_idxOf (iLL.2 s);simp only[e] at J;rw[m] at J;omega
  omega
theorem aaJ {W:Nat->Prop}(vc m:V)(n i im:Nat)(O:LN)(R:jI)(G:List Nat->Prop)(x:List Nat)(h:H)(l:GC W h vc n O R G)(hi:i<n)(P:SI h m (zi x))(X:bE n x)(z:im∈jP O x i):
  Ev T 181 [vc,m,aC i,aC im] h (λv h'=>zD h h' v (zi (iY O R x i im))):=by
 obtain⟨Q,K,e,sO,sR⟩:=l.ch
 subst e
 refine cV ajT rfl ?_
 have a:=l.isc
 have n7:=l.n7
 obtain⟨wO,tO,aO⟩:=sO
 obtain⟨wR,tR,aR,kR⟩:=sR
 have lO:=aO.length
 have lR:=aR.length
 rw[jV,a.lo] at lO
 rw[jV,a.lr] at lR
 have A:=tO.cK.2.1
 have y:=tR.cK.2.1
 obtain⟨B,hB⟩:=exI h.next
 obtain⟨h1,e1,n1,g1,o1,f1⟩:=dF hB [aC n,Q,K]
 obtain⟨h2,e2,n2,g2,o2,f2⟩:=dF n1 [m]
 obtain⟨L,e3,n3,g3,o3,f3⟩:=dF n2 [aC im]
 have N:=(f1.trans f2).trans f3
 have bx:=bM h (v:= aC n) (u:=Q) (w:=K) rfl A y
 have a8:=mF P.cK.1 P.cK.2.1 h1
 have a3:=Oh h2 .i64 (im:Int)
 have s:L.get B=some (.cells false [aC n,Q,K]):=by rw[o3 _ om,o2 _ om];exact g1
 have t:L.get (B+1)=some (.cells false [m]):=by rw[o3 _ om];exact g2
 have c:=iG aO (i:=i) (by rw[jV,a.lo];omega) .undef []
 rw[nP zi (d:= []) (by rw[a.lo];omega)] at c
 obtain⟨a7,J,b1,b6,a6⟩:=(tO.mono N).shape n om om
 have co:L.cell a7 (J+i)=some (wO.getD i .undef):=by rw[a6 i om,List.getD,dD om];rfl
 generalize wO.getD i .undef=vo at c co
 simp(disch:=omega)only[go_sem,ajT,aD,bx,hB,e1,a8,n1,e2,a3,n2,e3,H.aF s,b1.ixa,co]
 have row:=l.row (j:=i) hi
 refine (agD vo m (B+1) (B+1+1) (O.getD i []) x im L om (c.mono N) (P.mono N) t g3 om om (λq hq=>by rw[X.len];exact Im l.dN a hi hq) z).mono ?_
 rintro _ f ⟨rfl,f4⟩
 obtain⟨k,hk,ek,_,a1,es,Y,_⟩:=wH l.dN a X hi z
 have b0:(List.map (λq=>x.getD q 0) (O.getD i [])).idxOf im=k:=ek
 rw[b0,es]
 have p:=N.trans f4
 have a9:f.get B=some (.cells false [aC n,Q,K]):=by rw[f4.get _ om];exact s
 have a5:f.get (B+1)=some (.cells false [m]):=by rw[f4.get _ om];exact t
 have b:=iG aR (i:=i) (by rw[jV,a.lr];omega) .undef []
 rw[nP (List.map zi) (d:= []) (by rw[a.lr];omega)] at b
 obtain⟨a2,o,b2,b5,b3⟩:=(tR.mono p).shape n om om
 have cr:f.cell a2 (o+i)=some (wR.getD i .undef):=by rw[b3 i om,List.getD,dD om];rfl
 generalize wR.getD i .undef=vr at b cr
 obtain⟨wr,tr,ar⟩:=b
 have lr:=ar.length
 rw[jV] at lr
 have r:k<(R.getD i []).length:=by rw[a.rl i hi];exact hk
 have sz:=iG ar (i:=k) (by rw[jV];exact r) .undef []
 rw[nP zi (d:= []) r] at sz
 obtain⟨U,F,a4,b4,a0⟩:=(tr.mono p).shape (R.getD i []).length om om
 have cz:f.cell U (F+k)=some (wr.getD k .undef):=by rw[a0 k om,List.getD,dD om];rfl
 generalize wr.getD k .undef=vz at sz cz
 have b7:(k:Int)<((R.getD i []).length:Int):=om
 have Z:=l.dN.cU a1.mem
 have fb:Fr f (H.mk f.tr (f.next+11)):=(Fr.refl f).bA om
 simp(disch:=omega)only[go_sem,H.aF a9,b2.ixa,cr,a4.ixa,cz,H.aF a5]
 refine (mY CN.ok vz m _ x (H.mk f.tr (f.next+11)) (by rw[Z.len];omega) (sz.mono (p.trans fb)) (P.mono (p.trans fb)) (λj hj=>by rw[X.len];exact Z.iN (by rw[←Z.len];exact hj))).mono ?_
 rintro v h5 nw
 simp(disch:=omega)only[go_sem]
 exact (Td nw).le (p.trans fb)
def Kept (b:Nat)(W:Nat->Prop)(hh h':H):Prop:=hh.next<=h'.next/\ ∀id,id<hh.next->(id<b∨W id)->h'.get id=hh.get id
theorem Kept.fr {b:Nat}{W:Nat->Prop}{a h':H}(f:Fr a h'):Kept b W a h':=⟨f.next,λid h _=>f.get id h⟩
structure Rdr (id b:Nat)(L:LN)(W0:Nat->Prop)(J:Nat->(Nat->Prop)->H->Prop)(D:(Nat->Prop)->H->Prop):Prop where
 kJ: ∀k W hh h',J k W hh->Kept b W hh h'->J k W h'
 kD: ∀W hh h',D W hh->Kept b W hh h'->D W h'
 y: ∀k W hh v,k<L.length->J k W hh->PV W hh v (L.getD k [])->(∀id,W id->id<hh.next)->b<=hh.next->(∀id,id<b->W id->W0 id)->
  Ey T id [v] hh (λv h'=> ∃W2,(∀id,id<hh.next->W2 id->W id)/\(∀id,W2 id->id<h'.next)/\Fx W hh h'/\(v= .bool true/\J (k+1) W2 h'∨v= .bool false/\D W2 h'))
def ElC (n:Nat)(vO vR:V)(O:LN)(R:jI)(G:List Nat->Prop)(d:Nat):Prop:=
 ∀(i:Nat) (x:List Nat) (vx:V) (id bi bc bx:Nat) (h:H) (W:Nat->Prop) (J:Nat->(Nat->Prop)->H->Prop) (D:(Nat->Prop)->H->Prop),i+d=n->bE n x->
  h.get bi=aZ [aC i]->h.get bc=aZ [aC n,vO,vR]->h.get bx=aZ [vx]->PV W h vx x->bi<h.next->bc<h.next->bx<h.next-> ¬W bi-> ¬W bc-> ¬W bx->
  GC W h (.agg [aC n,vO,vR]) n O R G->(∀id,W id->id<h.next)->J 0 W h->Rdr id h.next (cZ O R d i x) W J D->
  Ev T 179 [.yl id,.ptr bi 0,.ptr bc 0,.ptr bx 0] h (λ_ h'=> ∃W2,(∀id,id<h.next->W2 id->W id)/\(∀id,W2 id->id<h'.next)/\Fx W h h'/\(J (cZ O R d i x).length W2 h'∨D W2 h'))
theorem aaN (n:Nat)(Y r:V)(O:LN)(R:jI)(G:List Nat->Prop):ElC n Y r O R G 0:=by
 intro i x F id Q Z l h W J D hi X z w m K li lc lx wi wc wx g q P rd;refine cV lF rfl ?_;obtain rfl:i=n:=om
 obtain⟨B,k⟩:=exI h.next;obtain⟨a,t,n1,s,c,f⟩:=dF k [.yl id];have d:=mF (x:= .yl id) rfl rfl h;have ci:=H.aF (h:=a) (id:=Q) (by rw[c _ om];exact z);have u:=H.aF (h:=a) (id:=Z) (by rw[c _ om];exact w);have L:=H.aF (h:=a) (id:=l) (by rw[c _ om];exact m);have d1:decide ((i:Int)=(i:Int))=true:=oQ rfl;simp(disch:=omega)only[go_sem,lF,aD,d,k,t,ci,u];refine aW (λ_=>?_) (λA=>(A (by first|rfl|trivial)).elim);simp(disch:=omega)only[go_sem,H.aF s,L];refine (rd.y 0 W a F (by simp [cZ]) (rd.kJ 0 W h a P (Kept.fr f)) (K.mono f) (λid h=>by have:=q id h;omega) om (λid _ h=>h)).mono ?_;rintro v j ⟨U,p,o,N,b⟩;simp(disch:=omega)only[go_sem];refine⟨U,λid a j=>p id om j,o,(Fx.of f).trans N (λ_ _ h=>h),?_⟩;rcases b with ⟨_,b⟩|⟨_,b⟩
 ·exact .inl b
 ·exact .inr b
theorem OS (d:Int)(c b a:V)(i:Int)(G:c.one=true)(L:b.one=true)(f:a.cells= [a])(k:a.one=true)(h:H):Ev T 136 [.agg [aC d,c,b],a,aC i] h (λv h'=>v= .fn 179 [] [.ptr (h.next+1+1) 0,.ptr h.next 0,.ptr (h.next+1) 0]/\
  h'.get h.next=aZ [aC d,c,b]/\h'.get (h.next+1)=aZ [a]/\h'.get (h.next+1+1)=aZ [aC i]/\h'.next=h.next+3/\Fr h h'):=by
 refine cV yQ rfl ?_
 obtain⟨B,n⟩:=exI h.next
 obtain⟨P,K,p,J,Q,A⟩:=dF n [aC d,c,b]
 obtain⟨q,x,o,z,N,s⟩:=dF p [a]
 obtain⟨R,O,y,F,m,r⟩:=dF o [aC i]
 have t:=bM h (v:= aC d) (u:=c) (w:=b) rfl G L
 have l:=mF f k P
 have j:=Oh q .i64 i
 simp(disch:=omega)only[go_sem,yQ,aD,t,n,K,l,p,x,j,o,O]
 exact⟨by rw[m _ om,N _ om];exact J,by rw[m _ om];exact z,F,y,(A.trans s).trans r⟩
theorem UY {α β:Type}{l:List α}{f:α->List β}{m:Nat}(a:m<l.length)(d:α):((l.take (m+1)).flatMap f).length=((l.take m).flatMap f).length+(f (l.getD m d)).length:=by
 rw[cE d a,List.flatMap_append];simp
theorem FN {α β:Type}{f:α->List β}{e:β}(d:α): ∀{l:List α} {m k:Nat},m<l.length->k<(f (l.getD m d)).length->(l.flatMap f).getD (((l.take m).flatMap f).length+k) e=(f (l.getD m d)).getD k e/\((l.take m).flatMap f).length+k<(l.flatMap f).length
 | [],m,k,h,_=>by simp at h
 |a::l,0,k,_,b=>by
  have b:k<(f a).length:=b;constructor
  ·simp only[List.take_zero,List.flatMap_nil,List.length_nil,Nat.zero_add,List.flatMap_cons]
   rw[List.getD,List.getD,Dv b];rfl
  ·simp;omega
 |a::l,m+1,k,h,b=>by
  have i:m<l.length:=by simpa using h
  have c:k<(f (l.getD m d)).length:=by simpa using b
  obtain⟨j,n⟩:=FN (e:=e) d (l:=l) i c;constructor
  ·simp only[List.take_succ_cons,List.flatMap_cons,jZ]
   rw[Nat.add_assoc,List.getD,Sj om,Nat.add_sub_cancel_left];exact j
  ·simp only[List.take_succ_cons,List.flatMap_cons,jZ];omega
structure InJ (off id2 b4 id:Nat)(r:eH)(J:Nat->(Nat->Prop)->H->Prop)(W0:Nat->Prop)(k:Nat)(W:Nat->Prop)(hh:H):Prop where
 ex: ∃W3,(∀id,W id↔(W3 id∨id=id2))/\ ¬W3 id2/\ ¬W3 b4/\J (off+k) W3 hh/\(∀id,W3 id->id<hh.next)/\ ∀id,id<id2->W3 id->W0 id
 gr:hh.get id2=some (.loop r)
 g4:hh.get b4=aZ [.yl id]
 nx:id2<hh.next
structure InD (id2 b4:Nat)(r:eH)(D:(Nat->Prop)->H->Prop)(W0:Nat->Prop)(W:Nat->Prop)(hh:H):Prop where
 ex: ∃W3,(∀id,W id↔(W3 id∨id=id2))/\ ¬W3 id2/\D W3 hh/\(∀id,W3 id->id<hh.next)/\ ∀id,id<id2->W3 id->W0 id
 gr:hh.get id2=some (.loop (tX r .ret))
 nx:id2<hh.next
theorem acJ (n:Nat)(F K:V)(O:LN)(R:jI)(G:List Nat->Prop)(d:Nat)(ih:ElC n F K O R G d):ElC n F K O R G (d+1):=by
 intro i x vx id bi bc bx h W J D hi X gi gc gx px li lc lx wi wc wx gC hW hJ rd;refine cV lF rfl ?_;have a6:i<n:=om
 have n7:=gC.n7
 obtain⟨d3,d0⟩:F.one=true/\K.one=true:=by
  obtain⟨a,b,e,s1,s2⟩:=gC.ch;cases e;obtain⟨_,t1,_⟩:=s1;obtain⟨_,t2,_⟩:=s2;exact⟨t1.cK.2.1,t2.cK.2.1⟩
 obtain⟨B,hB⟩:=exI h.next;obtain⟨p,e1,n1,g1,o1,f1⟩:=dF hB [.yl id];have d9:=mF (x:= .yl id) rfl rfl h;have c7:p.get bi=aZ [aC i]:=by rw[o1 _ om];exact gi
 have b3:p.get bc=aZ [aC n,F,K]:=by rw[o1 _ om];exact gc
 have c4:p.get bx=aZ [vx]:=by rw[o1 _ om];exact gx
 have d1:decide ((i:Int)=(n:Int))=false:=bH om;have d6:=aI b3;simp(disch:=omega)only[go_sem,lF,aD,d9,hB,e1,H.aF c7,H.aF b3,d1,d6,H.aF c4];refine (DG (.agg [aC n,F,K]) vx n i O R G x p (gC.mono f1) a6 (px.mono f1).si X).mono ?_;rintro v8 c b6;obtain⟨u,a3⟩:=exI (wC (jP O x i));rw[a3] at b6;have f2:=b6.fr;have F2:=f1.trans f2
 have i2:u.length<=7:=by
  have:=(gC.row (j:=i) a6).2;rw[←a3,(Kj _).length_eq,Gx];omega
 have f7: ∀q,q∈u->q∈jP O x i:=λq h=>(Kj _).mem_iff.1 (by rw[a3];exact h)
 have hL:cZ O R (d+1) i x=u.flatMap λq=>cZ O R d (i+1) (iY O R x i q):=by rw[←a3];rfl
 obtain⟨P,cp,b8,i3,e4,gP,_⟩:=b6.ex;rw[aQ] at b8;have l8:bT v8=some (aC (u.length:Int)):=by rw[b8];rfl
 have e5:J 0 W c:=rd.kJ 0 W h c hJ (Kept.fr F2);have n2:=f2.next;simp(disch:=omega)only[go_sem,l8];refine aH (λk' a9 hh=> ∃(m:Nat) (s:Nat->Prop),(∃g:Nat->V,a9= [.yl id,.ptr bi 0,.ptr bc 0,.ptr bx 0,.ptr B 0,g 5,g 6,g 7,v8,aC (u.length:Int),aC m,g 11,g 12,g 13,g 14])/\m<=u.length/\J ((u.take m).flatMap λq=>cZ O R d (i+1) (iY O R x i q)).length s hh/\Fx W c hh/\(∀id,id<c.next->s id->W id)/\(∀id,s id->id<hh.next)/\k'=u.length-m) u.length
  ⟨0,W,aB rfl,iJ _,e5,Fx.refl _ _,λ_ _ h=>h,λid h=>by have:=hW id h;omega,rfl⟩ ?_
 rintro k' a9 w ⟨m,s,⟨g,rfl⟩,hm,a4,F3,w1,w2,rfl⟩
 by_cases c3:(m:Int)<(u.length:Int)
 case neg=>
  have d2:=bH c3;obtain rfl:m=u.length:=om
  simp(disch:=omega)only[go_sem,d2];rw[List.take_length,←hL] at a4;exact⟨s,λid p c=>w1 id om c,w2,(Fx.of F2).trans F3 (λ_ _ h=>h),.inl a4⟩
 have d2:=oQ c3;have a5:m<u.length:=om
 obtain⟨q,a0⟩:=exI (u.getD m 0);have b1:q∈jP O x i:=f7 q (by rw[←a0];exact bD a5);obtain⟨_,_,_,_,_,_,Y,_⟩:=wH gC.dN gC.isc X a6 b1;have n3:=F3.next;have zA: ∀k,k<c.next-> ¬W k->w.get k=c.get k:=λk p c=>F3.get k p c
 have wB: ¬W B:=λh=>by have:=hW B h;omega
 have wP: ¬W P:=λh=>by have:=hW P h;omega
 have c9:w.get bi=aZ [aC i]:=by rw[zA _ om wi,f2.get _ om];exact c7
 have b5:w.get bc=aZ [aC n,F,K]:=by rw[zA _ om wc,f2.get _ om];exact b3
 have d7:w.get bx=aZ [vx]:=by rw[zA _ om wx,f2.get _ om];exact c4
 have e7:w.get B=aZ [.yl id]:=by rw[zA _ om wB,f2.get _ om];exact g1
 have cP:w.cell P m=some (aC q):=by rw[H.aF (by rw[zA _ e4 wP];exact gP),Ip a5,a0]
 have g8:=aI b5
 have eO:dE F F=true:=by
  obtain⟨a,b,e,s1,s2⟩:=gC.ch;cases e;obtain⟨_,t1,_⟩:=s1;exact t1.dE
 have eR:dE K K=true:=by
  obtain⟨a,b,e,s1,s2⟩:=gC.ch;cases e;obtain⟨_,t2,_⟩:=s2;exact t2.dE
 have d5:GC W w (.agg [aC n,F,K]) n O R G:=(gC.mono F2).go F3 (λ_ _ h=>h);have g6:PV W w vx x:=(px.mono F2).fx F3;have fb:Fr w (H.mk w.tr (w.next+9)):=(Fr.refl w).bA om;rw[b8];have e9:(i:Int)+1=((i+1:Nat):Int):=om
 simp(disch:=omega)only[go_sem,d2,cP,g8,aI (h:=H.mk w.tr (w.next+9)) b5,H.aF d7,H.aF c9,e9];refine (aaJ (.agg [aC n,F,K]) vx n i q O R G x (H.mk w.tr (w.next+9)) (d5.mono fb) a6 (g6.mono fb).si X b1).mono ?_;rintro b4 h4 c6;have f4:=fb.trans c6.fr;have n4:=f4.next;have g2:h4.get bi=aZ [aC i]:=by rw[f4.get _ om];exact c9
 have f0:h4.get bc=aZ [aC n,F,K]:=by rw[f4.get _ om];exact b5
 have c0:PV s h4 b4 (iY O R x i q):=c6.pv λid h=>by have:=w2 id h;simp;omega
 simp(disch:=omega)only[go_sem,H.aF g2,aI f0,eO,eR];refine (OS (n:Int) F K b4 ((i+1:Nat):Int) d3 d0 c0.fG.1 c0.fG.2 h4).mono ?_;rintro _ h5 ⟨rfl,g7,e3,e0,n5,f5⟩;simp(disch:=omega)only[go_sem];refine⟨rfl,uJ λr hr=>?_⟩;obtain⟨o,b7⟩:=exI h5.next;rw[b7];have iP:r.st= .ready:=by rw[hr]
 have c5:r.pend=none:=by rw[hr]
 obtain⟨h6,a8⟩: ∃h6,h6=h5.new (.loop r):=⟨_,rfl⟩
 have e2:h6.get o=some (.loop r):=by rw[a8,←b7,H.aL]
 have n6:h6.next=o+1:=by rw[a8,H.aU,b7]
 have f6:Fr h5 h6:=by rw[a8];exact (Fr.refl h5).new _
 rw[←a8];have b9:=(f4.trans f5).trans f6;obtain⟨N,Z⟩:=exI (((u.take m).flatMap λq=>cZ O R d (i+1) (iY O R x i q)).length);rw[Z] at a4;have h8:=f5.next;have f3: ¬s o:=λh=>by have:=w2 o h;omega
 have d8: ¬s B:=λh=>wB (w1 B om h)
 have e8: ∀k,k<(cZ O R d (i+1) (iY O R x i q)).length->(cZ O R (d+1) i x).getD (N+k) []=(cZ O R d (i+1) (iY O R x i q)).getD k []/\N+k<(cZ O R (d+1) i x).length:=λk hk=>by
  rw[hL,←Z];have:=FN (f:=λq=>cZ O R d (i+1) (iY O R x i q)) (e:=([]:List Nat)) 0 (l:=u) (m:=m) (k:=k) a5 (by rw[a0];exact hk);rw[a0] at this;exact this
 have c8:Fx W h h6:=((Fx.of F2).trans F3 (λ_ _ h=>h)).trans (Fx.of b9) (λ_ _ h=>h)
 have g5:Rdr o h6.next (cZ O R d (i+1) (iY O R x i q)) (λk=>s k∨k=o) (InJ N o B id r J s) (InD o B r D s):=by
  refine⟨λk W2 hh h' j L=>?_,λW2 hh h' j L=>?_,λk W2 hh v hk j pv i1 h0 i0=>?_⟩
  ·obtain⟨W3,t,U,q3,q4,q5,q6⟩:=j.ex
   have nx:=j.nx;exact⟨⟨W3,t,U,q3,rd.kJ _ _ _ _ q4 ⟨L.1,λid p c=>L.2 id p (by rcases c with c|c;exact .inl om;exact .inr ((t id).2 (.inl c)))⟩,λid h=>iW (q5 id h) L.1,q6⟩,by rw[L.2 _ nx (.inl om)];exact j.gr,by rw[L.2 _ om (.inl om)];exact j.g4,iW nx L.1⟩
  ·obtain⟨W3,t,U,q4,q5,q6⟩:=j.ex
   have nx:=j.nx;exact⟨⟨W3,t,U,rd.kD _ _ _ q4 ⟨L.1,λid p c=>L.2 id p (by rcases c with c|c;exact .inl om;exact .inr ((t id).2 (.inl c)))⟩,λid h=>iW (q5 id h) L.1,q6⟩,by rw[L.2 _ nx (.inl om)];exact j.gr,iW nx L.1⟩
  ·obtain⟨W3,t,U,q3,q4,q5,q6⟩:=j.ex
   have nx:=j.nx;obtain⟨f8,g3⟩:=e8 k hk;refine sZ j.gr (by rw[hr];rfl) iP λh9 g9 n9 o9=>?_
   rw[congrArg eH.assign hr,congrArg eH.vars hr,congrArg eH.pars hr];simp(disch:=omega)only[go_sem,List.zip_cons_cons,List.zip_nil_left];rw[congrArg eH.body hr];have c2:h9.get B=aZ [.yl id]:=by rw[o9 _ om];exact j.g4
   have f9:Fx W2 hh h9:=⟨om,λk _ c=>o9 k λe=>c ((t k).2 (.inr e))⟩
   have k9:Kept h.next W3 hh h9:=⟨om,λk p c=>o9 k λe=>by
    subst e;rcases c with c|c
    ·omega
    ·exact U c⟩
   simp(disch:=omega)only[go_sem,H.aF c2];refine (rd.y (N+k) W3 h9 v g3 (rd.kJ _ _ _ _ q4 k9) (by rw[f8];exact PV.go pv f9 λid _ h=>(t id).2 (.inl h)) (λid h=>by rw[n9];exact q5 id h) om (λid p c=>w1 id om (q6 id om c))).mono ?_;rintro v' z ⟨W4,u1,u2,a7,hv⟩;have i4:=a7.next;have c1: ¬W4 o:=λh=>U (u1 o om h)
   have e6: ¬W4 B:=λh=>q3 (u1 B om h)
   have b0:z.get o=some (.loop (pW r)):=by rw[a7.get o om U];exact g9
   have d4:z.get B=aZ [.yl id]:=by rw[a7.get B om q3];exact c2
   have b2:Fx W2 hh z:=f9.trans a7 λid _ h=>(t id).2 (.inl h)
   have low: ∀k,k<o->W4 k->s k:=λk p c=>q6 k p (u1 k om c)
   have kk: ∀r2:eH,Kept h.next W4 z (z.set o (some (.loop r2))):=λr2=>⟨fM _,λk p c=>H.aG _ (λe=>by
    subst e;rcases c with c|c
    ·omega
    ·exact c1 c) _⟩
   rcases hv with ⟨rfl,hv⟩|⟨rfl,hv⟩
   ·simp(disch:=omega)only[go_sem]
    refine oX iP c5 b0 ⟨λk=>W4 k∨k=o,λk p c=>?_,λk c=>?_,b2.trans (Fx.set z ((t o).2 (.inr rfl)) _) (λ_ _ h=>h),.inl ⟨rfl,⟨W4,λk=>Iff.rfl,c1,e6,?_,u2,low⟩,by rw[H.aS],by rw[H.aG _ om];exact d4,by simp only[H.bY];omega⟩⟩
    ·rcases c with c|c
     ·exact (t k).2 (.inl (u1 k om c))
     ·exact (t k).2 (.inr c)
    ·rcases c with c|c
     ·exact u2 k c
     ·simp only[H.bY];omega
    ·exact rd.kJ _ _ _ _ hv (kk r)
   ·simp(disch:=omega)only[go_sem]
    refine Ta b0 ⟨λk=>W4 k∨k=o,λk p c=>?_,λk c=>?_,b2.trans (Fx.set z ((t o).2 (.inr rfl)) _) (λ_ _ h=>h),.inr ⟨rfl,⟨W4,λk=>Iff.rfl,c1,?_,u2,low⟩,by rw[H.aS],by simp only[H.bY];omega⟩⟩
    ·rcases c with c|c
     ·exact (t k).2 (.inl (u1 k om c))
     ·exact (t k).2 (.inr c)
    ·rcases c with c|c
     ·exact u2 k c
     ·simp only[H.bY];omega
    ·exact rd.kD _ _ _ hv (kk _)
 have A: ∀k,k<h5.next->h6.get k=h5.get k:=λk hk=>f6.get k hk
 have g0:GC (λk=>s k∨k=o) h6 (.agg [aC n,F,K]) n O R G:=gC.go c8 λk p c=>by
  rcases c with c|c
  ·exact w1 k om c
  ·omega
 refine (ih (i+1) (iY O R x i q) b4 o (h4.next+1+1) h4.next (h4.next+1) h6 (λk=>s k∨k=o) (InJ N o B id r J s) (InD o B r D s) om Y (by rw[A _ om];exact e0) (by rw[A _ om];exact g7) (by rw[A _ om];exact e3)
  (((c0.mono f5).Fo λk p c=>(by rcases c with c|c;exact c;omega)).mono f6) om om om (λh=>by rcases h with h|h;have:=w2 _ h;omega;omega) (λh=>by rcases h with h|h;have:=w2 _ h;omega;omega) (λh=>by rcases h with h|h;have:=w2 _ h;omega;omega) g0 (λk h=>by rcases h with h|h;have:=w2 _ h;omega;omega)
  ⟨⟨s,λk=>Iff.rfl,f3,d8,rd.kJ _ _ _ _ a4 (Kept.fr b9),λk h=>by have:=w2 _ h;omega,λ_ _ h=>h⟩,e2,by rw[A _ om,f5.get _ om,f4.get _ om];exact e7,om⟩ g5).mono ?_
 rintro _ h7 ⟨W7,a1,a2,F7,j|j⟩
 ·obtain⟨W3,t,U,q3,q4,q5,q6⟩:=j.ex
  have nx:=j.nx;refine⟨r,j.gr,by rw[iP];simp,?_⟩;have en:r.pend.getD .norm= .norm:=by rw[c5];rfl
  rw[en];simp(disch:=omega)only[go_sem];rw[eJ m]
  have Q:Fx W c h7:=F3.trans ((Fx.of (W:=λk=>s k∨k=o) b9).trans F7 (λ_ _ h=>h)) λk p c=>by
   rcases c with c|c
   ·exact w1 k p c
   ·omega
  refine⟨u.length-(m+1),om,m+1,W3,aB rfl,om,?_,⟨Q.next,λk p c=>by rw[H.aG _ om];exact Q.get k p c⟩,λk p c=>w1 k p (q6 k om c),q5,rfl⟩;rw[UY a5 0,a0,Z]
  refine rd.kJ _ _ _ _ q4 ⟨fM _,λk p c=>H.aG _ (λe=>by
   subst e;rcases c with c|c
   ·omega
   ·exact U c) _⟩
 ·obtain⟨W3,t,U,q4,q5,q6⟩:=j.ex
  have nx:=j.nx;refine⟨_,j.gr,by simp [tX],?_⟩;have en:(tX r .ret).pend.getD .norm= .ret:=rfl;rw[en];simp(disch:=omega)only[go_sem]
  have Q:Fx W h h7:=c8.trans F7 λk p c=>by
   rcases c with c|c
   ·exact w1 k om c
   ·omega
  refine⟨W3,λk p c=>w1 k om (q6 k om c),q5,⟨Q.next,λk p c=>by rw[H.aG _ om];exact Q.get k p c⟩,.inr ?_⟩
  refine rd.kD _ _ _ q4 ⟨fM _,λk p c=>H.aG _ (λe=>by
   subst e;rcases c with c|c
   ·omega
   ·exact U c) _⟩
theorem RZ (n:Nat)(b a:V)(O:LN)(R:jI)(G:List Nat->Prop): ∀d,ElC n b a O R G d
 |0=>aaN n b a O R G
 |d+1=>acJ n b a O R G d (RZ n b a O R G d)
def ahF (W M:Nat->Prop)(b:Nat)(hh:H)(w:V)(x:List Nat):Prop:= ∃id cap,w= .sl id 0 x.length cap/\W id/\ ¬M id/\b<=id/\id<hh.next/\hh.get id=aZ (ints (zi x))
structure LsJ (h:H)(b0 A B id2:Nat)(r:eH)(l:LN)(W:Nat->Prop)(hh:H):Prop where
 ex: ∃va ws M,hh.get A=aZ [va]/\cY hh va 1 ws (id2+1)/\aM (ahF W M (id2+1) hh) ws l/\Hq M va/\(∀id,M id->W id)/\(∀id,M id->id<hh.next)/\M A/\ ∀id off n c,va= .sl id off n c->id≠id2/\id≠A
 gr:hh.get id2=some (.loop r)
 wA:W A
 w2:W id2
 g1:hh.get (B+1)=aZ [.aE]
 g2:hh.get (B+1+1)=aZ [aC 0]
 nx:id2<hh.next
 nA:A<hh.next
 fr:Fr h hh
theorem LsJ.kept {h:H}{m b A B d:Nat}{r:eH}{l:LN}{W:Nat->Prop}{f h':H}(j:LsJ h m A B d r l W f)(k:Kept b W f h')(G:B+1+1<b)(J:h.next<=b)(y:b<=f.next):LsJ h m A B d r l W h':=by
 obtain⟨u,q,M,z,t,el,i,o,p,s,ne⟩:=j.ex
 refine⟨⟨u,q,M,by rw[k.2 A j.nA (.inr j.wA)];exact z,t.mono k.1 λid v n c e _ F=>k.2 id F (.inr (o _ (i _ _ _ _ e))),el.mono λw x ⟨id,cap,e,e1,e2,e3,e4,e5⟩=>⟨id,cap,e,e1,e2,e3,iW e4 k.1,by rw[k.2 id e4 (.inr e1)];exact e5⟩,i,o,λid h=>iW (p id h) k.1,s,ne⟩,
  by rw[k.2 _ j.nx (.inr j.w2)];exact j.gr,j.wA,j.w2,by rw[k.2 _ om (.inl om)];exact j.g1,by rw[k.2 _ om (.inl om)];exact j.g2,iW j.nx k.1,iW j.nA k.1,⟨mT j.fr.next k.1,λid a=>by rw[k.2 id (iW a j.fr.next) (.inl om)];exact j.fr.get id a⟩⟩
theorem jH {W:Nat->Prop}{h:H}{m:V}{n:Nat}{O:LN}{R:jI}{G:List Nat->Prop}(g:GC W h m n O R G):kI O n 0<=5040:=by
 have l: ∀i,i<n->(O.getD i []).length<=n-i:=λi hi=>uQ (λx j=>g.dN.cU j) hi (g.isc.asc i hi) (g.isc.mem i hi)
 have a: ∀d i,i+d=n->kI O d i<= [1,1,2,6,24,120,720,5040].getD d 0:=by
  intro d
  induction d with
  |zero=>intro i _;simp [kI]
  |succ d ih=>
   intro i hi;unfold kI;have k:=ih (i+1) om;have o:=l i om;have f:(O.getD i []).length<=d+1:=om
   have b:=g.n7;have c:=Nat.mul_le_mul f k;refine mT c ?_;have:d<=6:=om
   match d,this with
   |0,_=>decide
   |1,_=>decide
   |2,_=>decide
   |3,_=>decide
   |4,_=>decide
   |5,_=>decide
   |6,_=>decide
 have b:=g.n7;refine mT (a n 0 om) ?_
 match n,b with
 |0,_=>decide
 |1,_=>decide
 |2,_=>decide
 |3,_=>decide
 |4,_=>decide
 |5,_=>decide
 |6,_=>decide
 |7,_=>decide
theorem Wc {W0:Nat->Prop}(vc:V)(n:Nat)(O:LN)(R:jI)(G:List Nat->Prop)(h:H)(gc:GC W0 h vc n O R G):
  Ev T 98 [vc] h (λv h'=> ∃vl,v= .tup [vl,aC 0]/\JW h h' vl (cZ O R n 0 (bL n))):=by
 obtain⟨vO,vR,e,sO,sR⟩:=gc.ch
 subst e
 refine cV Kc rfl ?_
 have i3:=gc.isc
 have n0:=gc.n0
 have n7:=gc.n7
 have b4:vO.one=true:=oNs sO
 have b3:vR.one=true:=oNt sR
 have eO:dE vO vO=true:=by obtain⟨_,t,_⟩:=sO;exact t.dE
 have eR:dE vR vR=true:=by obtain⟨_,t,_⟩:=sR;exact t.dE
 obtain⟨L,hL⟩:=exI (cZ O R n 0 (bL n))
 obtain⟨c6,ll⟩:=dM gc.dN i3
 have j3:=jH gc
 rw[hL] at c6 ll
 have LP: ∀k,k<L.length->bE n (L.getD k []):=λk hk=>gc.dN.cU ((c6.mem _).1 (bD hk))
 obtain⟨B,hB⟩:=exI h.next
 obtain⟨h1,e1,n1,g1,o1,f1⟩:=dF hB [aC n,vO,vR]
 obtain⟨p,e2,n2,g2,o2,f2⟩:=dF n1 [.aE]
 obtain⟨h3,e3,n3,g3,o3,f3⟩:=dF n2 [aC 0]
 have F3:=(f1.trans f2).trans f3
 have bx:=bM h (v:= aC n) (u:=vO) (w:=vR) rfl b4 b3
 have c8:h3.get B=aZ [aC n,vO,vR]:=by rw[o3 _ om,o2 _ om];exact g1
 have i2:=aI c8
 simp(disch:=omega)only[go_sem,Kc,aD,bx,hB,e1,n1,e2,n2,e3,i2]
 refine ((gc.mono F3).check).mono ?_
 rintro _ h4 ⟨rfl,f4⟩
 have n4:=f4.next
 obtain⟨A,hA⟩:=exI h4.next
 obtain⟨h5,e5,n5,g5,o5,f5⟩:=dF hA [.aE]
 have a9:h5.get B=aZ [aC n,vO,vR]:=by rw[f5.get _ om,f4.get _ om];exact c8
 have e4:h5.get (B+1)=aZ [.aE]:=by rw[f5.get _ om,f4.get _ om,o3 _ om];exact g2
 have h0:h5.get (B+1+1)=aZ [aC 0]:=by rw[f5.get _ om,f4.get _ om];exact g3
 have F5:=(F3.trans f4).trans f5
 have g6:=aI a9
 have d3:=aI (h:=H.mk h5.tr (h5.next+5)) a9
 simp(disch:=omega)only[go_sem]
 refine aW (λhc=>(hc (by first|rfl|trivial)).elim) (λ_=>?_)
 simp(disch:=omega)only[go_sem,hA,e5,g6,d3,H.aF a9]
 refine (Vn BE.ok n (H.mk h5.tr (h5.next+5)) om).mono ?_
 rintro v6 h6 nw
 have fb:Fr h5 (H.mk h5.tr (h5.next+5)):=(Fr.refl h5).bA om
 have f6:=fb.trans nw.fr
 have n6:=f6.next
 have i8:h6.get B=aZ [aC n,vO,vR]:=by rw[f6.get _ om];exact a9
 have d1:=Td nw
 have d7:=d1.own
 simp(disch:=omega)only[go_sem,aI i8,eO,eR]
 refine (OS (n:Int) vO vR v6 0 b4 b3 d7.sv.cK.1 d7.sv.cK.2.1 h6).mono ?_
 rintro _ h7 ⟨rfl,e8,i6,i9,j1,f7⟩
 simp(disch:=omega)only[go_sem]
 refine⟨rfl,uJ λr hr=>?_⟩
 obtain⟨a,b8⟩:=exI h7.next
 rw[b8]
 have iP:r.st= .ready:=by rw[hr]
 have c4:r.pend=none:=by rw[hr]
 obtain⟨h8,b0⟩: ∃h8,h8=h7.new (.loop r):=⟨_,rfl⟩
 have g4:h8.get a=some (.loop r):=by rw[b0,←b8,H.aL]
 have n8:h8.next=a+1:=by rw[b0,H.aU,b8]
 have f8:Fr h7 h8:=by rw[b0];exact (Fr.refl h7).new _
 have U: ∀k,k<h7.next->h8.get k=h7.get k:=λk hk=>f8.get k hk
 rw[←b0]
 have c7:=(f6.trans f7).trans f8
 have F8:=F5.trans c7
 have b6: ∀k,k<h5.next->h8.get k=h5.get k:=λk hk=>c7.get k hk
 have J0:LsJ h B A B a r (L.take 0) (λk=>k=A∨k=a) h8:=
  ⟨⟨.aE, [],λk=>k=A,by rw[b6 _ om];exact g5,cY.aE _ _ _,trivial,λ_ _ _ _ e=>(by cases e),λk h=> .inl h,λk h=>by have:k=A:=h;omega,rfl,λ_ _ _ _ e=>(by cases e)⟩,g4,.inl rfl,.inr rfl,by rw[b6 _ om];exact e4,by rw[b6 _ om];exact h0,om,om,F8⟩
 have j0: ∀k,(k=A∨k=a)->k<h8.next:=λk h=>by rcases h with h|h<;>omega
 have f9:GC (λk=>k=A∨k=a) h8 (.agg [aC n,vO,vR]) n O R G:=gc.go (Fx.of F8) λk h1 p=>by rcases p with p|p<;>omega
 have p6:PV (λk=>k=A∨k=a) h8 v6 (bL n):=by
  obtain⟨i5,c5,ev,a1,a2,a3,a4⟩:=d1.ex;simp only at a1;rw[ev];exact⟨SV.all (by rw[fT,uW]) (by have:=(f7.trans f8).next;omega) (by rw[U _ (by have:=f7.next;omega),f7.get _ a2];exact a3) _,λh=>by have:i5=A∨i5=a:=h;have:=f7.next;omega⟩
 refine (RZ n vO vR O R G n 0 (bL n) v6 a (h6.next+1+1) h6.next (h6.next+1) h8 (λk=>k=A∨k=a) (λk W J=>LsJ h B A B a r (L.take k) W J) (λ_ _=>False) om (bE.one n)
  (by rw[U _ om];exact i9) (by rw[U _ om];exact e8) (by rw[U _ om];exact i6) p6 om om om (λh=>by rcases h with h|h<;>omega) (λh=>by rcases h with h|h<;>omega) (λh=>by rcases h with h|h<;>omega) f9 j0 J0 ?_).mono ?_
 ·rw[hL]
  refine⟨λk W J h' j kp=>j.kept kp om (by have:=F8.next;omega) (by have:=j.nx;omega),λ_ _ _ h=>h.elim,λk W J v hk j pv f0 j2 j4=>?_⟩
  obtain⟨va,ws,M,gA,ow,el,bl,mw,mn,mA,ne⟩:=j.ex
  have nx:=j.nx
  have nA:=j.nA
  have c2:=aM.length el
  rw[Fj,Nat.min_eq_left om] at c2
  refine sZ j.gr (by rw[hr];rfl) iP λF g9 n9 o9=>?_
  rw[congrArg eH.assign hr,congrArg eH.vars hr,congrArg eH.pars hr]
  simp(disch:=omega)only[go_sem,List.zip_cons_cons,List.zip_nil_left]
  rw[congrArg eH.body hr]
  have b5:F.get A=aZ [va]:=by rw[o9 _ om];exact gA
  have e6:Fx W J F:=⟨om,λk _ p=>o9 k λe=>p (e▸j.w2)⟩
  have c9:=pv.fx e6
  obtain⟨x,hx⟩:=exI (L.getD k [])
  rw[hx] at c9
  have X:bE n x:=by rw[←hx];exact LP k hk
  have b9:cY F va 1 ws (a+1):=ow.mono om λid i m c e _ _=>o9 id (ne _ _ _ _ e).1
  have e7:=cY.lens b9 c2
  have i1:=b9.sv.dE
  have d5:decide ((k:Int)=5040)=false:=bH om
  have d8:Fr F (H.mk F.tr (F.next+6)):=(Fr.refl F).bA om
  simp(disch:=omega)only[go_sem,H.aF b5,e7,d5]
  refine (Mz v (zi x) (H.mk F.tr (F.next+6)) (by rw[aQ,X.len];omega) (by rw[aQ,X.len];omega) (c9.mono d8).si).mono ?_
  rintro b7 d Q
  have a6:=d8.trans Q.fr
  obtain⟨i5,c5,ev,a1,a2,a3,a4⟩:=Q.ex
  simp only at a1
  have a5:d.get A=aZ [va]:=by rw[a6.get _ om];exact b5
  have b2:=Q.own
  simp(disch:=omega)only[go_sem,H.aF a5,i1,cT _ (z:= .aE) b2.sv.cK.1 b2.sv.cK.2.1]
  obtain⟨f,l⟩: ∃f:H,f=H.mk ((H.mk d.tr (F.next+3)).new (Ob.cells false [b7])).tr d.next:=⟨_,rfl⟩
  rw[←l]
  have i7:f.get (F.next+3)=aZ [b7]:=by rw[l];exact H.aL (H.mk d.tr (F.next+3)) _
  have g8:f.next=d.next:=by rw[l]
  have Y: ∀k,k≠F.next+3->f.get k=d.get k:=λk hk=>by rw[l];exact H.bG (H.mk d.tr (F.next+3)) (by simpa using hk) _
  have N:Fr F f:=⟨by have:=a6.next;omega,λk hk=>by rw[Y k om];exact a6.get k hk⟩
  obtain⟨a8,i0,s⟩:=(b9.fr N).push (bytes:=24) (SV.one (by have:=a6.next;have:=Q.fr.next;simp only at this;omega) i7 (.kn 1)) (n:=k) (m:=1) om rfl om om om
  have j6:=s.next
  have e9:dL va A:=λid i m c e e2=>(ne _ _ _ _ e).2 e2.symm
  have g7:dL va a:=λid i m c e e2=>(ne _ _ _ _ e).1 e2.symm
  have i4:=a6.next
  have d4:a8.get A=aZ [va]:=by rw[s.old A om e9,N.get A om];exact b5
  have d0:a8.get a=some (.loop (pW r)):=by rw[s.old a om g7,N.get a om];exact g9
  have g0: ∀(J:H) (y:V),dX (aZ [va]) J A 0 [y]=some (J.set A (aZ [y])):=λJ y=>bN (by simp) J _ _
  simp(disch:=omega)only[go_sem,i0,d4,g0]
  obtain⟨Z,K⟩: ∃Z,Z=(a8.set A (aZ [.sl f.next 0 (k+1) (.un 1)])).set a (some (.loop r)):=⟨_,rfl⟩
  have c1:A≠a:=om
  have P: ∀q,q≠A->q≠a->Z.get q=a8.get q:=λq h1 p=>by rw[K,H.aG _ p,H.aG _ h1]
  have j5:Z.next=a8.next:=by rw[K];rfl
  refine oX iP c4 (by rw[H.aG _ (Ne.symm c1)];exact d0) ?_
  rw[←K]
  have e0: ∀q,q<J.next-> ¬W q->Z.get q=J.get q:=λq h1 p=>by
   rw[P q (λe=>p (e▸j.wA)) (λe=>p (e▸j.w2)),s.old q om (λid i m c e e2=>p (e2▸mw _ (bl _ _ _ _ e))),N.get q om,o9 q (λe=>p (e▸j.w2))]
  refine⟨λq=>W q∨q=f.next∨q=i5,λq h1 p=>by rcases p with p|p|p;exact p;omega;omega,λq h=>by rcases h with h|h|h;have:=f0 q h;omega;omega;omega,⟨om,e0⟩,.inl ⟨rfl,?_⟩⟩
  refine⟨⟨.sl f.next 0 (k+1) (.un 1),ws++ [b7],λq=>M q∨q=f.next,by rw[K,H.aG _ c1,H.aS],?_,?_,λid i m c e=>by cases e;exact .inr rfl,λq h=>by rcases h with h|h;exact .inl (mw q h);exact .inr (.inl h),λq h=>by rcases h with h|h;have:=mn q h;omega;omega,.inl mA,λid i m c e=>by cases e;exact⟨om,om⟩⟩,
   by rw[K,H.aS],.inl j.wA,.inl j.w2,?_,?_,om,om,?_⟩
  ·exact (s.own (b:=a+1) om rfl om).mono om λid i m c e h1 p=>by cases e;exact P _ om om
  ·rw[cE [] hk,hx]
   have c0: ∀(q:Nat) (o:Option Ob),q<J.next-> ¬M q->q≠a->Z.get q=J.get q:=λq _ h1 p h3=>by
    rw[P q (λe=>p (e▸mA)) h3,s.old q om (λb1 i m c e e2=>p (e2▸bl _ _ _ _ e)),N.get q om,o9 q h3]
   have d6: ∀q z,J.get q=aZ z->q≠a:=λq z h e=>by rw[e,j.gr] at h;cases h
   refine (el.mono λw z ⟨id,c3,e,q1,q2,q3,q4,q5⟩=>⟨id,c3,e,.inl q1,(λh=>by rcases h with h|h;exact q2 h;omega),q3,om,(by rw[c0 id none q4 q2 (d6 _ _ q5)];exact q5)⟩).append ⟨⟨i5,c5,by rw[ev,aQ],.inr (.inr rfl),λh=>by rcases h with h|h;have:=mn i5 h;omega;omega,om,om,?_⟩,trivial⟩
   rw[P i5 om om,s.old i5 om (λb1 i m c e e2=>by have:=mn _ (bl _ _ _ _ e);omega),Y i5 om]
   exact a3
  ·rw[P _ om om,s.old _ om (λb1 i m c e e2=>by have:=(ow.in _ _ _ _ e).2.1;omega),N.get _ om,o9 _ om];exact j.g1
  ·rw[P _ om om,s.old _ om (λb1 i m c e e2=>by have:=(ow.in _ _ _ _ e).2.1;omega),N.get _ om,o9 _ om];exact j.g2
  ·refine⟨by have:=j.fr.next;omega,λq hq=>?_⟩
   have:=j.fr.next
   rw[P q om om,s.old q om (λb1 i m c e e2=>by have:=(ow.in _ _ _ _ e).2.1;omega),N.get q om,o9 q om]
   exact j.fr.get q hq
 ·rintro _ F ⟨W2,a1,a2,F9,j|hf⟩
  case inr=>exact hf.elim
  rw[hL,List.take_length] at j
  obtain⟨va,ws,M,gA,ow,el,bl,mw,mn,mA,ne⟩:=j.ex
  have nx:=j.nx
  have nA:=j.nA
  have pt: ∀(J:H) (id:Nat) (u w:V),dX (aZ [u]) J id 0 [w]=some (J.set id (aZ [w])):=λJ id u w=>bN (by simp) J _ _
  refine⟨r,j.gr,by rw[iP];simp,?_⟩
  have en:r.pend.getD .norm= .norm:=by rw[c4];rfl
  rw[en]
  obtain⟨d,a7⟩: ∃d,d=F.set a (some (.loop {r with st:= .out})):=⟨_,rfl⟩
  have a0: ∀q,q≠a->d.get q=F.get q:=λq hq=>by rw[a7,H.aG _ hq]
  have i4:d.next=F.next:=by rw[a7];rfl
  have a5:d.get A=aZ [va]:=by rw[a0 _ om];exact gA
  have d2:d.get (B+1)=aZ [.aE]:=by rw[a0 _ om];exact j.g1
  have d9:d.get (B+1+1)=aZ [aC 0]:=by rw[a0 _ om];exact j.g2
  rw[←a7]
  simp(disch:=omega)only[go_sem,H.aF a5,d2,d9,pt,Fw ow.sv.cK.1 ow.sv.cK.2.1]
  obtain⟨f,l⟩: ∃f,f=(d.set (B+1) (aZ [va])).set (B+1+1) (aZ [aC 0]):=⟨_,rfl⟩
  rw[←l]
  have Y: ∀q,q≠B+1->q≠B+1+1->f.get q=d.get q:=λq h1 p=>by rw[l,H.aG _ p,H.aG _ h1]
  have g8:f.next=d.next:=by rw[l];rfl
  have hn:=j.fr.next
  refine⟨va,rfl,⟨ws,λq=>M q∨q<h.next,?_,?_,λid i n c e=> .inl (bl _ _ _ _ e),λq h=> .inr h⟩,⟨om,λq hq=>?_⟩⟩
  ·refine (ow.mono om λid i m c e h1 _=>?_).le om
   rw[Y id om om,a0 id om]
  ·rw[hL]
   refine aM.mono (R:=ahF W2 M (a+1) F) (λw z hw=>?_) el
   obtain⟨id,c3,e,q1,q2,q3,q4,q5⟩:=hw
   rw[e]
   exact⟨SV.all (by rw[fT,aQ,uW]) om (by rw[Y id om om,a0 id om];exact q5) _,λh=>by rcases h with h|h;exact q2 h;omega⟩
  ·rw[Y q om om,a0 q om]
   exact j.fr.get q hq
end Go.Proofs.YtcdbmkidaecdiaaGreat
namespace Go.Pm
set_option maxRecDepth 100000
section
variable {i:Nat}
def it (a:List Nat):Nat->Nat->Nat
 |0,i=>i
 |t+1,i=>a.getD (it a t i) 0
section
variable {n:Nat} {a:List Nat}
theorem Ht (A:bE n a){i:Nat}(hi:i<n): ∀t,it a t i<n
 |0=>hi
 |t+1=>A.iN (Ht A hi t)
theorem vP (a:List Nat)(s i:Nat): ∀t,it a (s+t) i=it a t (it a s i)
 |0=>rfl
 |t+1=>by
  show a.getD (it a (s+t) i) 0=a.getD (it a t (it a s i)) 0;rw[vP a s i t]
theorem HT (A:bE n a){i:Nat}(hi:i<n): ∀t,it a t i=(pw n a t).getD i 0
 |0=>(fQ hi).symm
 |t+1=>by
  show a.getD (it a t i) 0=(aX (pw n a t) a).getD i 0;rw[cM (by rw[(rM A t).len];exact hi),HT A hi t]
theorem BG (A:bE n a){i j:Nat}(hi:i<n)(b:j<n): ∀t,it a t i=it a t j->i=j
 |0,h=>h
 |t+1,h=>BG A hi b t (A.inj (Ht A hi t) (Ht A b t) h)
noncomputable def xG (a:List Nat)(i:Nat):Nat:=by
 classical exact if h: ∃t,0<t/\it a t i=i/\ ∀s,0<s->s<t->it a s i≠i then h.choose else 1
theorem agB (A:bE n a)(hi:i<n): ∃t,0<t/\it a t i=i:=by
 obtain⟨k,c,_,b⟩:=Wi A;exact⟨k,c,by rw[HT A hi,b,fQ hi]⟩
theorem pD (A:bE n a)(hi:i<n):0<xG a i/\it a (xG a i) i=i/\ ∀t,0<t->t<xG a i->it a t i≠i:=by
 classical
 have h: ∃t,0<t/\it a t i=i/\ ∀s,0<s->s<t->it a s i≠i:=by
  obtain⟨t,j,k⟩:=agB A hi
  induction t using Nat.strongRecOn with
  |_ t ih=>
   by_cases f: ∃s,0<s/\s<t/\it a s i=i
   ·obtain⟨s,c,d,b⟩:=f
    exact ih s d c b
   ·exact⟨t,j,k,λs c d b=>f ⟨s,c,d,b⟩⟩
 have e:xG a i=h.choose:=by unfold xG;rw[dif_pos h]
 rw[e];exact h.choose_spec
theorem Tw (A:bE n a){i:Nat}(hi:i<n): ∀k,it a (xG a i*k) i=i
 |0=>rfl
 |k+1=>by rw[Nat.mul_succ,vP,Tw A hi k,(pD A hi).2.1]
theorem BR (A:bE n a)(hi:i<n)(t:Nat):it a t i=it a (t%xG a i) i:=by
 have:=vP a (xG a i*(t/xG a i)) i (t%xG a i);rw[Nat.div_add_mod,Tw A hi] at this;exact this
theorem Er (A:bE n a)(hi:i<n)(t:Nat):it a t i=i↔xG a i∣t:=by
 obtain⟨c,f,b⟩:=pD A hi;constructor
 ·intro h
  rw[BR A hi] at h;refine Nat.dvd_of_mod_eq_zero (Classical.byContradiction λd=>b _ oq (Nat.mod_lt _ c) h)
 ·rintro⟨k,rfl⟩;exact Tw A hi k
theorem acS (A:bE n a)(hi:i<n){s t:Nat}(j:s<xG a i)(d:t<xG a i)(h:it a s i=it a t i):s=t:=by
 have b: ∀s t,s<=t->t<xG a i->it a s i=it a t i->s=t:=λs t iP d h=>by
  have e:it a t i=it a s (it a (t-s) i):=by rw[←vP];congr 1;omega
  rw[e] at h;have:=BG A hi (Ht A hi (t-s)) s h;have f:=(Er A hi (t-s)).1 this.symm;have:=Nat.eq_zero_of_dvd_of_lt f oq;omega
 rcases Nat.le_total s t with c|c
 ·exact b s t c d h
 ·exact (b t s c j h.symm).symm
noncomputable def GK (a:List Nat)(i:Nat):List Nat:=(List.range (xG a i)).map λt=>it a t i
theorem Ca (a:List Nat)(i:Nat):(GK a i).length=xG a i:=by simp [GK]
theorem acG (A:bE n a)(hi:i<n){j:Nat}:j∈GK a i↔ ∃t,it a t i=j:=by
 unfold GK;rw[List.mem_map];constructor
 ·rintro⟨t,_,h⟩;exact⟨t,h⟩
 ·rintro⟨t,h⟩;exact⟨t%xG a i,List.mem_range.2 (Nat.mod_lt _ (pD A hi).1),by rw[←BR A hi];exact h⟩
theorem MP (A:bE n a)(hi:i<n):(GK a i).Nodup:=by
 unfold GK;rw[List.nodup_iff_pairwise_ne,List.pairwise_map,List.pairwise_iff_getElem];intro s t c b iP h;simp only[List.length_range] at c b;simp only[List.getElem_range] at h;have:=acS A hi c b h;omega
theorem BA (A:bE n a)(hi:i<n):xG a i<=n:=by
 rw[←Ca a i]
 have:=List.Nodup.length_le_of_subset (MP A hi) (l₂:=List.range n) λj b=>by
  obtain⟨t,rfl⟩:=(acG A hi).1 b;exact List.mem_range.2 (Ht A hi t)
 simpa using this
theorem Li (A:bE n a)(hi:i<n)(t:Nat): ∃s,it a s (it a t i)=i:=by
 obtain⟨b,_,_⟩:=pD A hi;refine⟨xG a i*(t/xG a i+1)-t,?_⟩;rw[←vP,show t+(xG a i*(t/xG a i+1)-t)=xG a i*(t/xG a i+1) from ?_,Tw A hi];have:=Nat.div_add_mod t (xG a i);have:=Nat.mod_lt t b;rw[Nat.mul_succ];omega
theorem PH (A:bE n a)(hi:i<n)(t:Nat):xG a (it a t i)=xG a i:=by
 have c:=Ht A hi t
 have b: ∀k,it a k (it a t i)=it a t i↔it a k i=i:=λk=>by
  rw[←vP,Nat.add_comm,vP];exact⟨λh=>BG A (Ht A hi k) hi t h,λh=>by rw[h]⟩
 refine Nat.dvd_antisymm ?_ ?_
 ·rw[←Er A c,b,Er A hi];exact Nat.dvd_refl _
 ·rw[←Er A hi,←b,Er A c];exact Nat.dvd_refl _
def oV (a:List Nat)(n i:Nat):Prop:= ∀t,i<=it a t i
open Classical in
noncomputable def Qh (a:List Nat)(n:Nat):List Nat:=(List.range n).filter λi=>decide (oV a n i)
noncomputable def vU (a:List Nat)(n:Nat):zI:=(Qh a n).map (GK a)
theorem aeA (A:bE n a)(hi:i<n): ∃j,j<n/\oV a n j/\ ∃t,it a t j=i:=by
 induction i using Nat.strongRecOn with
 |_ i ih=>
  by_cases h:oV a n i
  ·exact⟨i,hi,h,0,rfl⟩
  ·have: ∃t,it a t i<i:=Classical.byContradiction λk=>h λt=>Nat.le_of_not_lt λb=>k ⟨t,b⟩
   obtain⟨t,f⟩:=this;obtain⟨j,l,b,s,c⟩:=ih _ f (Ht A hi t);obtain⟨u,d⟩:=Li A hi t;exact⟨j,l,b,s+u,by rw[vP,c,d]⟩
theorem Il (A:bE n a)(hi:i<n):oV a n i↔ ∀j,j<i-> ∀t,it a t j≠i:=by
 constructor
 ·intro h j d t e
  obtain⟨s,b⟩:=Li A (show j<n by omega) t;rw[e] at b;have:=h s;omega
 ·intro h t
  refine Nat.le_of_not_lt λc=>?_
  obtain⟨s,b⟩:=Li A hi t;exact h _ c s b
def Ea (l:List Nat):Nat:=l.foldl (λm c=>m/Nat.gcd m c*c) 1
theorem UQ (m c:Nat):m/Nat.gcd m c*c=Nat.lcm m c:=by
 unfold Nat.lcm;rw[Nat.mul_comm,←Nat.mul_div_assoc _ (Nat.gcd_dvd_left m c),Nat.mul_comm]
theorem Wq: ∀(l:List Nat) (m k:Nat),l.foldl (λm c=>m/Nat.gcd m c*c) m∣k↔m∣k/\ ∀c∈l,c∣k
 | [],m,k=>by simp
 |c::l,m,k=>by
  rw[List.foldl_cons,Wq l,UQ,Nat.lcm_dvd_iff];simp only[List.mem_cons,forall_eq_or_imp,and_assoc]
theorem Hb (l:List Nat)(k:Nat):Ea l∣k↔ ∀c∈l,c∣k:=by
 unfold Ea;rw[Wq];simp
noncomputable def qF (a:List Nat)(n:Nat):Nat:=Ea ((vU a n).map List.length)
theorem Hu (A:bE n a)(k:Nat):qF a n∣k↔pw n a k=bL n:=by
 unfold qF;rw[Hb];constructor
 ·intro h
  refine yC (by rw[(rM A k).len,jG]) λi hi=>?_
  rw[(rM A k).len] at hi;rw[←HT A hi,fQ hi,Er A hi];obtain⟨j,d,o,t,f⟩:=aeA A hi;have:=h (xG a j) (List.mem_map.2 ⟨GK a j,List.mem_map.2 ⟨j,by unfold Qh;rw[List.mem_filter];exact⟨List.mem_range.2 d,by simpa using o⟩,rfl⟩,Ca a j⟩);rw[←PH A d t,f] at this;exact this
 ·rintro h c p
  obtain⟨l,m,rfl⟩:=List.mem_map.1 p;obtain⟨j,d,rfl⟩:=List.mem_map.1 m
  have b:j<n:=by
   unfold Qh at d;exact List.mem_range.1 (List.mem_filter.1 d).1
  rw[Ca,←Er A b,HT A b,h,fQ b]
theorem Ya (A:bE n a):0<qF a n:=by
 obtain⟨k,c,_,b⟩:=Wi A;have:=(Hu A k).2 b;refine Nat.pos_of_ne_zero λe=>?_
 rw[e] at this;have:=Nat.eq_zero_of_zero_dvd this;omega
theorem EG (A:bE n a):qF a n<=n^n:=by
 obtain⟨k,b,d,c⟩:=Wi A;exact Nat.le_trans (Nat.le_of_dvd b ((Hu A k).2 c)) d
end
end
end Go.Pm
namespace Go.Proofs.YtcdbmkidaecdiaaGreat
open Go Go.Ay Go.Pm
set_option maxRecDepth 100000
section
variable {a:List Nat} {i n:Nat}
theorem adG {g:Nat}(k:T g=some Ei.fn)(a b:Nat)(h:H)(u:a<1000000)(q:b<1000000):Ev T g [aC a,aC b] h (λv h'=>v= aC (Nat.gcd a b:Nat)/\Fr h h'):=by
 refine Ko k rfl ?_;simp(disch:=omega)only[go_sem,Ei,aD];refine aH (λc d o=> ∃(x y:Nat),(∃g:Nat->V,d= [aC x,aC y,g 2,g 3])/\x<1000000/\y<1000000/\Nat.gcd x y=Nat.gcd a b/\Fr h o/\c=y) b
  ⟨a,b,aB rfl,u,q,rfl,Fr.refl h,rfl⟩ ?_
 rintro c d o ⟨x,y,⟨g,rfl⟩,w,t,m,F,p⟩;subst p
 by_cases f:(0:Int)<(c:Int)
 ·have l:=oQ f
  have r:(c:Int)≠0:=om
  have s:(x:Int).tmod (c:Int)=((x%c:Nat):Int):=TZ x c;have j:=Nat.mod_lt x (show c>0 by omega);simp(disch:=omega)only[go_sem,l,r,s];exact⟨x%c,j,c,x%c,aB rfl,t,om,by rw[Nat.gcd_comm,←Nat.gcd_rec,Nat.gcd_comm];exact m,F.bA om,rfl⟩
 ·have l:=bH f
  obtain rfl:c=0:=om
  simp(disch:=omega)only[go_sem,l];rw[←m,Nat.gcd_zero_right];exact⟨rfl,F⟩
open Classical in
noncomputable def Px (a:List Nat)(i s j:Nat):Bool:=decide ((∃i0,i0<i/\ ∃t,it a t i0=j)∨ ∃t,t<s/\it a t i=j)
theorem Qg {s j:Nat}:Px a i s j=true↔(∃i0,i0<i/\ ∃t,it a t i0=j)∨ ∃t,t<s/\it a t i=j:=by classical unfold Px;simp only[decide_eq_true_eq]
theorem PR (a:List Nat)(j:Nat):Px a 0 0 j=false:=by
 rw[←Bool.not_eq_true,Qg];rintro (⟨b,h,_⟩|⟨t,h,_⟩)<;>omega
theorem QL (a:List Nat)(i s j:Nat):Px a i (s+1) j=if j=it a s i then true else Px a i s j:=by
 by_cases e:j=it a s i
 ·rw[bF e,Qg];exact .inr ⟨s,om,e.symm⟩
 ·rw[bI e,Py,Qg,Qg]
  constructor
  ·rintro (h|⟨t,d,b⟩)
   ·exact .inl h
   ·exact .inr ⟨t,by have:t≠s:=λc=>e (by rw[←c];exact b.symm);omega,b⟩
  ·rintro (h|⟨t,d,b⟩)
   ·exact .inl h
   ·exact .inr ⟨t,om,b⟩
theorem UJ (A:bE n a)(hi:i<n)(j:Nat):Px a i (xG a i) j=Px a (i+1) 0 j:=by
 rw[Py,Qg,Qg];constructor
 ·rintro (⟨c,d,b⟩|⟨t,d,b⟩)
  ·exact .inl ⟨c,om,b⟩
  ·exact .inl ⟨i,om,t,b⟩
 ·rintro (⟨c,d,t,b⟩|⟨t,d,_⟩)
  ·by_cases e:c=i
   ·subst e;exact .inr ⟨t%xG a c,Nat.mod_lt _ (pD A hi).1,by rw[←BR A hi];exact b⟩
   ·exact .inl ⟨c,om,t,b⟩
  ·omega
theorem NO (A:bE n a)(hi:i<n)(h: ¬oV a n i)(j:Nat):Px a i 0 j=Px a (i+1) 0 j:=by
 have b: ∃c,c<i/\ ∃t,it a t c=i:=Jg λp=>h ((Il A hi).2 λc m t e=>p ⟨c,m,t,e⟩)
 obtain⟨c,l,o,k⟩:=b;rw[Py,Qg,Qg];constructor
 ·rintro (⟨d,f,b⟩|⟨t,f,_⟩)
  ·exact .inl ⟨d,om,b⟩
  ·omega
 ·rintro (⟨d,f,t,b⟩|⟨t,f,_⟩)
  ·by_cases e:d=i
   ·subst e;exact .inl ⟨c,l,o+t,by rw[vP,k];exact b⟩
   ·exact .inl ⟨d,om,t,b⟩
  ·omega
theorem HE (A:bE n a){s:Nat}(hi:i<n)(k:oV a n i)(p:s<=xG a i):(Px a i s (it a s i)=false↔s<xG a i):=by
 obtain⟨d,l,m⟩:=pD A hi;constructor
 ·intro h
  refine Jg λo=>?_
  have e:s=xG a i:=om
  subst e;rw[l] at h;have:Px a i (xG a i) i=true:=Qg.2 (.inr ⟨0,d,rfl⟩);rw[h] at this;cases this
 ·intro h
  rw[←Bool.not_eq_true,Qg];rintro (⟨j,c,t,b⟩|⟨t,c,b⟩)
  ·obtain⟨u,f⟩:=Li A hi s
   have:=(Il A hi).1 k j c (t+u);rw[vP,b,f] at this;exact this rfl
  ·have:=acS A hi (show t<xG a i by omega) h b
   omega
theorem acM (A:bE n a)(hi:i<n)(f: ¬oV a n i):Px a i 0 i=true:=by
 have c: ∃b,b<i/\ ∃t,it a t b=i:=Jg λd=>f ((Il A hi).2 λb h t e=>d ⟨b,h,t,e⟩)
 exact Qg.2 (.inl c)
theorem Rc (hi:i<=n):((Qh a n).filter λj=>decide (j<i))=(open Classical in (List.range i).filter λj=>decide (oV a n j)):=by
 classical
 unfold Qh;have:List.range n=List.range i++(List.range (n-i)).map (i+ ·):=by rw[←List.range_add];congr 1;omega
 rw[this,List.filter_append,List.filter_append]
 have c:(((List.range (n-i)).map (i+ ·)).filter λj=>decide (oV a n j)).filter (λj=>decide (j<i))= []:=by
  rw[List.filter_eq_nil_iff];intro x b;obtain⟨y,_,rfl⟩:=uF.1 (CH.1 b).1;simp
 rw[c,vF];rw[List.filter_eq_self];intro x b;simpa using Gu.1 (CH.1 b).1
noncomputable def GW (a:List Nat)(n i:Nat):LN:=((Qh a n).filter λj=>decide (j<i)).map (GK a)
theorem FU (a:List Nat)(n:Nat):GW a n n=vU a n:=by
 classical
 unfold GW vU;congr 1;rw[List.filter_eq_self];intro x b;unfold Qh at b;simpa using Gu.1 (CH.1 b).1
theorem Fq (hi:i<n):(oV a n i->GW a n (i+1)=GW a n i++ [GK a i])/\(¬oV a n i->GW a n (i+1)=GW a n i):=by
 classical
 unfold GW;rw[Rc (show i+1<=n by omega),Rc (show i<=n by omega),List.range_succ,List.filter_append];constructor
 ·intro h
  rw[show ([i]:List Nat).filter (λj=>decide (oV a n j))= [i] by simp [h],List.map_append];rfl
 ·intro h
  rw[show ([i]:List Nat).filter (λj=>decide (oV a n j))= [] by simp [h],vF]
theorem aaU: ∀i,i<=n->GW a n i<+:vU a n:=by
 intro i hi
 obtain⟨d,f⟩: ∃d,i+d=n:=⟨n-i,om⟩
 induction d generalizing i with
 |zero=>
      have:i=n:=om
      subst this;rw[FU];exact List.prefix_rfl
 |succ d ih=>
  have b:=ih (i+1) om om
  by_cases c:oV a n i
  ·rw[(Fq om).1 c] at b
   exact (List.prefix_append _ _).trans b
  ·rw[(Fq om).2 c] at b
   exact b
theorem anS (a:List Nat)(n:Nat):GW a n 0= []:=by
 unfold GW;rw[show (Qh a n).filter (λj=>decide (j<0))= [] by rw[List.filter_eq_nil_iff];intro x _;simp];rfl
theorem QA {α:Type}{l m:List α}(h:l<+:m)(hi:i<l.length)(d:α):m.getD i d=l.getD i d:=by
 obtain⟨t,rfl⟩:=h;rw[List.getD,Dv hi];rfl
theorem BM (id b:Nat)(va:V)(n:Nat)(a:List Nat)(h:H)(a9:1<=n)(hn:n<=64)(A:bE n a)(F:Nat)(b1:F<=h.next)(b2:b<F)(hb:h.get b=some (.cells false [va]))(a8:b<h.next)(hv:SI h va (zi a))(J:Nat->H->Prop)(h0:J 0 h)
  (kJ: ∀k hh h',J k hh->hh.next<=h'.next->(∀q,q<F->h'.get q=hh.get q)->J k h') (jb: ∀k hh,J k hh->hh.get b=some (.cells false [va])/\SI hh va (zi a))
  (hy: ∀k hh v,k<(vU a n).length->J k hh->SI hh v (zi ((vU a n).getD k []))->F<=hh.next->Ey T id [v] hh (λv h'=>v= .bool true/\J (k+1) h'/\Fx (λq=>q<F) hh h')):
  Ev T 246 [.yl id,.ptr b 0] h (λ_ h'=>J (vU a n).length h'):=by
 refine cV yP rfl ?_
 obtain⟨S,hS⟩:=exI h.next
 obtain⟨h1,e1,n1,g1,o1,f1⟩:=dF hS (rc 64 λ_=>V.bool false)
 have a2:=H.aF (h:=h1) (id:=b) (by rw[o1 _ om];exact hb)
 have N:=hv.lens
 rw[aQ,A.len] at N
 simp(disch:=omega)only[go_sem,yP,aD,ES,hS,e1,a2,N]
 have a0:h1.get S=some (.cells false (rc 64 λj=> .bool (Px a 0 0 j))):=by
  rw[g1,show (λj=>V.bool (Px a 0 0 j))=λ_=>V.bool false from funext λj=>by rw[PR]]
 refine aH (λP o hh=> ∃(i:Nat),(∃g:Nat->V,o= [.yl id,.ptr b 0,.ptr S 0,g 3,g 4,g 5,aC n,aC i,g 8,g 9,g 10])/\i<=n/\J (GW a n i).length hh/\hh.get S=some (.cells false (rc 64 λj=> .bool (Px a i 0 j)))/\S<hh.next/\P=n-i) n
  ⟨0,aB rfl,iJ _,by rw[anS];exact kJ _ _ _ h0 f1.next (λq hq=>o1 q om),a0,om,rfl⟩ ?_
 rintro P o h2 ⟨i,⟨g,rfl⟩,hi,p,w,x,rfl⟩
 by_cases L:(i:Int)<(n:Int)
 case neg=>
  have d1:=bH L;obtain rfl:i=n:=om
  simp(disch:=omega)only[go_sem,d1];rw[FU] at p;exact p
 have d1:=oQ L
 have l:i<n:=om
 simp(disch:=omega)only[go_sem,d1]
 obtain⟨p0,p1,p2⟩:=pD A l
 have b3:=BA A l
 refine bJ (λvs hh=> ∃(r:V) (c:List Nat),(∃g:Nat->V,vs= [.yl id,.ptr b 0,.ptr S 0,g 3,r,g 5,aC n,aC i,g 8,g 9,g 10])/\cY hh r 1 (ints (zi c)) (S+1)/\(oV a n i/\c=GK a i∨ ¬oV a n i/\c= [])/\
   J (GW a n i).length hh/\hh.get S=some (.cells false (rc 64 λj=> .bool (Px a (i+1) 0 j)))/\S<hh.next) ?_ ?_
 ·refine aH (λP vs hh=> ∃(s:Nat) (r:V),(∃g:Nat->V,vs= [.yl id,.ptr b 0,.ptr S 0,g 3,r,aC (it a s i:Nat),aC n,aC i,g 8,g 9,g 10])/\s<=xG a i/\(0<s->oV a n i)/\cY hh r 1 (ints (zi ((List.range s).map λt=>it a t i))) (S+1)/\
    J (GW a n i).length hh/\hh.get S=some (.cells false (rc 64 λj=> .bool (Px a i s j)))/\S<hh.next/\P=xG a i-s) (xG a i)
   ⟨0,.aE,aB rfl,iJ _,λh=>om,cY.aE _ _ _,p,w,x,rfl⟩ ?_
  clear p w x
  rintro P o G ⟨s,r,⟨g,rfl⟩,hs,hf,B,p,w,x,rfl⟩
  have hp:=Ht A l s
  have Z:=Bw w (i:=it a s i) om
  cases hsn:Px a i s (it a s i) with
  |true=>
   rw[hsn] at Z;simp(disch:=omega)only[go_sem,Z]
   by_cases f:oV a n i
   ·have e:s=xG a i:=Jg λW=>by
     have:=(HE A l f hs).2 om;rw[hsn] at this;cases this
    refine⟨r,GK a i,aB rfl,by rw[e] at B;exact B,.inl ⟨f,rfl⟩,p,?_,x⟩;rw[w,e];congr 2;exact dB λj _=>by rw[UJ A l]
   ·have e:s=0:=Jg λW=>f (hf om)
    subst e;refine⟨r, [],aB rfl,B,.inr ⟨f,rfl⟩,p,?_,x⟩;rw[w];congr 2;exact dB λj _=>by rw[NO A l f]
  |false=>
   rw[hsn] at Z
   have f:oV a n i:=Jg λf=>by
    have e:s=0:=Jg λW=>f (hf om)
    subst e;have:=acM A l f;have h2:Px a i 0 i=false:=hsn;rw[h2] at this;cases this
   have a7:=(HE A l f hs).1 hsn;have pt:=bN (vs:=rc 64 λj=> .bool (Px a i s j)) (off:=it a s i) (by rw[Df];omega);obtain⟨h4,e4,n4,g4,o4⟩:=pJ G S ((rc 64 λj=> .bool (Px a i s j)).set (it a s i) (.bool true));obtain⟨h5,e5,n5,g5,o5,f5⟩:=dF (h:=h4) (ID:=G.next) n4 [aC (it a s i:Nat)];have a3:cY h5 r 1 (ints (zi ((List.range s).map λt=>it a t i))) (S+1):=B.mono om λk off m c e h1 h2=>by rw[o5 k om,o4 k om]
   obtain⟨h6,a6,p6⟩:=a3.push (bytes:=8) (SV.one (v:= aC (it a s i:Nat)) (id:=G.next) om g5 (.kn 1)) (n:=s) (m:=1) (by rw[fT,aQ];simp) rfl om om om;have n6:=p6.next;have ap: ∀q,q<=S->dL r q:=λq hq k off m c e e2=>by have:=(B.in _ _ _ _ e).2.1;omega
   have o6: ∀q,q<F->h6.get q=G.get q:=λq hq=>by rw[p6.old q om (ap q om),o5 q om,o4 q om]
   have J6:=kJ _ _ h6 p om o6;obtain⟨a4,a1⟩:=jb _ _ J6;obtain⟨idx,U,R,Q,O⟩:=a1.open;rw[aQ,A.len] at R Q O
   have cx:h6.cell idx (U+it a s i)=some (aC (it a (s+1) i:Nat)):=by
    rw[O _ hp];congr 2;rw[zi,nP _ (d:=0) (by rw[A.len];exact hp)];rfl
   simp(disch:=omega)only[go_sem,Z,w,pt,e4,cT h4 (z:= aC 0) (v:= aC (it a s i:Nat)) rfl rfl,n4,e5,a6,H.aF a4,R.ixa,cx]
   have a5:h6.get S=some (.cells false (rc 64 λj=> .bool (Px a i (s+1) j))):=by
    rw[p6.old S om (ap S (fM _)),o5 S om,g4,mS];congr 2
    exact dB λj _=>by
     rw[QL]
     by_cases e:j=it a s i
     ·rw[bF e,bF e]
     ·rw[bI e,bI e]
   have el:ints (zi ((List.range (s+1)).map λt=>it a t i))=ints (zi ((List.range s).map λt=>it a t i))++ [aC (it a s i:Nat)]:=by
    rw[List.range_succ,List.map_append];simp [zi,ints]
   refine⟨xG a i-(s+1),om,s+1,_,aB rfl,om,λ_=>f,by rw[el];exact p6.own (by rw[fT,aQ];simp) rfl om,J6,a5,om,rfl⟩
 clear p w x
 rintro o G ⟨r,c,⟨g,rfl⟩,B,hc,p,w,x⟩
 have K:=cY.lens B (n:=c.length) (by rw[fT,aQ])
 rcases hc with ⟨f,rfl⟩|⟨f,rfl⟩
 ·have d2:decide ((0:Int)<((GK a i).length:Int))=true:=oQ (by rw[Ca];omega)
  have u:=aaU (a:=a) (n:=n) (i+1) om
  have Y:=(Fq l).1 f
  rw[Y] at u
  have hg:(vU a n).getD (GW a n i).length []=GK a i:=by rw[QA u (by simp)];exact kG
  have y:=u.length_le
  rw[jZ] at y
  simp(disch:=omega)only[go_sem,K,d2]
  refine (hy _ G r (by simp at y;omega) p (by rw[hg];exact B.sv) om).mono ?_
  rintro _ h4 ⟨rfl,J4,f4⟩
  simp(disch:=omega)only[go_sem]
  rw[eJ i]
  refine⟨n-(i+1),om,i+1,aB rfl,om,by rw[Y,jZ];exact J4,by rw[f4.get S x (λh=>by have:S<F:=h;omega)];exact w,iW x f4.next,rfl⟩
 ·have d2:decide ((0:Int)<((0:Nat):Int))=false:=rfl
  simp(disch:=omega)only[go_sem,K,d2]
  rw[eJ i]
  exact⟨n-(i+1),om,i+1,aB rfl,om,by rw[(Fq l).2 f];exact p,w,x,rfl⟩
end
theorem Aq (u:V)(ws:List V)(n:Nat)(h:H)(P:1<=n)(R:n<=64)(U:ws.length<1000000)(B:SV h u 1 ws)(z: ∀i,i<ws.length-> ∃a,bE n a/\SI h (ws.getD i .undef) (zi a)):Ev T 158 [u] h (λv h'=>v= aC 0/\Fr h h'):=by
 refine cV Gz rfl ?_;have K:bT u=some (aC (ws.length:Int)):=by unfold bT;rw[SV.len B (n:=ws.length) om om];rfl
 obtain⟨id,d,y,m,x⟩:=SV.shape B ws.length om om;have o: ∀i:Nat,i<ws.length->h.cell id (d+i)=some (ws.getD i .undef):=λi hi=>by rw[x i om];simp [List.getD,hi]
 simp(disch:=omega)only[go_sem,Gz,aD,K];refine bJ (λk l=>(∃g:Nat->V,k= [u,aC 0,g 2,g 3,g 4,g 5,g 6,g 7,g 8,g 9,g 10,g 11,g 12,g 13,g 14])/\Fr h l) ?_ ?_
 ·refine aH (λw k l=> ∃(i:Nat),(∃g:Nat->V,k= [u,aC 0,g 2,g 3,g 4,u,aC (ws.length:Int),aC i,g 8,g 9,g 10,g 11,g 12,g 13,g 14])/\i<=ws.length/\Fr h l/\w=ws.length-i) ws.length
   ⟨0,aB rfl,iJ _,Fr.refl h,rfl⟩ ?_
  rintro w c r ⟨i,⟨g,rfl⟩,hi,f,rfl⟩
  by_cases b:(i:Int)<(ws.length:Int)
  ·have p:=oQ b
   have q:i<ws.length:=om
   have ci:r.cell id (d+i)=some (ws.getD i .undef):=by rw[f.cell (m om),o i om]
   obtain⟨a,X,t⟩:=z i q;generalize ws.getD i .undef=G at ci t;simp(disch:=omega)only[go_sem,p,y.ixa,ci];refine (aiM G _ r (by rw[aQ,X.len];omega) (t.mono f)).mono ?_;rw[EE X om om];rintro _ N ⟨rfl,O⟩;simp(disch:=omega)only[go_sem];refine aW (λo=>(o rfl).elim) (λ_=>?_);simp(disch:=omega)only[go_sem];rw[eJ i];exact⟨ws.length-(i+1),om,i+1,aB rfl,om,f.trans O,rfl⟩
  ·have p:=bH b
   simp(disch:=omega)only[go_sem,p];exact⟨aB rfl,f⟩
 rintro c r ⟨⟨g,rfl⟩,f⟩;simp(disch:=omega)only[go_sem,K];refine bJ (λk l=>(∃g:Nat->V,k= [u,aC 0,g 2,g 3,g 4,g 5,g 6,g 7,g 8,g 9,g 10,g 11,g 12,g 13,g 14])/\Fr h l) ?_ ?_
 ·refine aH (λw k l=> ∃(i:Nat),(∃g:Nat->V,k= [u,aC 0,g 2,g 3,g 4,g 5,g 6,g 7,g 8,g 9,u,aC (ws.length:Int),aC i,g 13,g 14])/\i<=ws.length/\Fr h l/\w=ws.length-i) ws.length
   ⟨0,aB rfl,iJ _,f,rfl⟩ ?_
  clear f;rintro w c r ⟨i,⟨g,rfl⟩,hi,f,rfl⟩
  by_cases b:(i:Int)<(ws.length:Int)
  ·have p:=oQ b
   have q:i<ws.length:=om
   have ci:r.cell id (d+i)=some (ws.getD i .undef):=by rw[f.cell (m om),o i om]
   have A:r.cell id (d+0)=some (ws.getD 0 .undef):=by rw[f.cell (m om),o 0 om]
   obtain⟨a,X,t⟩:=z i q;obtain⟨W,L,s⟩:=z 0 om;generalize ws.getD i .undef=G at ci t;generalize ws.getD 0 .undef=Q at A s;have J:=t.lens;have F:=s.lens;rw[aQ,X.len] at J;rw[aQ,L.len] at F;have j:Dz 1 u (aC 0)=some (.ptr id (d+0)):=y.ixa .i64 0 om om;rw[Nat.add_zero] at j A;simp(disch:=omega)only[go_sem,p,y.ixa,ci,j,A,J,F];refine aW (λo=>(o rfl).elim) (λ_=>?_);simp(disch:=omega)only[go_sem];rw[eJ i];exact⟨ws.length-(i+1),om,i+1,aB rfl,om,f,rfl⟩
  ·have p:=bH b
   simp(disch:=omega)only[go_sem,p];exact⟨aB rfl,f⟩
 rintro c N ⟨⟨g,rfl⟩,f⟩;simp(disch:=omega)only[go_sem];exact f
theorem Gy (l:List Nat)(k:Nat):Ea (l.take k)∣Ea l:=(Hb _ _).2 λc a=>(Hb l _).1 (Nat.dvd_refl _) c (List.mem_of_mem_take a)
theorem Qc (l:List Nat)(k:Nat)(a:k<l.length):Ea (l.take (k+1))=Ea (l.take k)/Nat.gcd (Ea (l.take k)) (l.getD k 0)*l.getD k 0:=by
 unfold Ea;rw[cE 0 a,List.foldl_append];rfl
theorem Sw {n:Nat}(a:n<=7):n^n<=823543:=by
 have: ∀m,m<8->m^m<=823543:=by decide
 exact this n om
structure OrJ (h:H)(A b id2:Nat)(va:V)(a:List Nat)(r:eH)(m:Nat)(hh:H):Prop where
 gr:hh.get id2=some (.loop r)
 gA:hh.get A=aZ [aC m]
 gb:hh.get b=aZ [va]
 si:SI hh va (zi a)
 nx:id2<hh.next
 fr:Fr h hh
theorem MV (a:V)(h:H)(k:a.cells= [a])(c:a.one=true):Ev T 225 [a] h (λv h'=> ∃b,v= .fn 246 [] [.ptr b 0]/\b=h.next/\h'.get b=aZ [a]/\h'.next=h.next+1/\Fr h h'):=by
 refine cV Dg rfl ?_;obtain⟨m,f,j,d,l,i⟩:=dF (h:=h) rfl [a];simp(disch:=omega)only[go_sem,Dg,aD,mF k c h,f];exact⟨h.next,rfl,rfl,d,j,i⟩
theorem SH (x:V)(n:Nat)(a:List Nat)(h:H)(a2:1<=n)(hn:n<=7)(A:bE n a)(P:SI h x (zi a)):
  Ev T 185 [x] h (λv h'=>v= .tup [aC (qF a n:Nat),aC 0]/\Fr h h'):=by
 refine cV Hd rfl ?_
 obtain⟨S,hS⟩:=exI h.next
 obtain⟨h1,e1,n1,g1,o1,f1⟩:=dF hS [x]
 have on:=(SV.cK P).2.1
 simp(disch:=omega)only[go_sem,Hd,aD,cT h (z:= .aE) (v:=x) (SV.cK P).1 on,hS,e1]
 have c0: ∀i,i< [x].length-> ∃a,bE n a/\SI h1 ([x].getD i .undef) (zi a):=λi hi=>by
  obtain rfl:i=0:=by simp at hi;omega
  exact⟨a,A,P.mono f1⟩
 refine (Aq (.sl S 0 1 (.kn 1)) [x] n h1 a2 om (by simp) (SV.one om g1 _) c0).mono ?_
 rintro _ Q ⟨rfl,f2⟩
 simp(disch:=omega)only[go_sem]
 refine aW (λhc=>(hc rfl).elim) (λ_=>?_)
 obtain⟨B,hB⟩:=exI Q.next
 obtain⟨h3,e3,n3,g3,o3,f3⟩:=dF hB [aC 0]
 obtain⟨h4,e4,n4,g4,o4⟩:=pJ h3 B [aC 1]
 have b4: ∀(w:H) (y:V),dX (aZ [aC 0]) w B 0 [y]=some (w.set B (aZ [y])):=λw y=>bN (by simp) w _ _
 simp(disch:=omega)only[go_sem,hB,e3,g3,b4,e4]
 refine (MV x h4 (SV.cK P).1 on).mono ?_
 rintro _ h5 ⟨b,rfl,hb,g5,n5,f5⟩
 simp(disch:=omega)only[go_sem]
 refine⟨rfl,uJ λr Y=>?_⟩
 obtain⟨o,Z⟩:=exI h5.next
 rw[Z]
 have iP:r.st= .ready:=by rw[Y]
 have a4:r.pend=none:=by rw[Y]
 obtain⟨N,O⟩: ∃N,N=h5.new (.loop r):=⟨_,rfl⟩
 have b8:N.get o=some (.loop r):=by rw[O,←Z,H.aL]
 have n6:N.next=o+1:=by rw[O,H.aU,Z]
 have f6:Fr h5 N:=by rw[O];exact (Fr.refl h5).new _
 rw[←O]
 have F2:=f1.trans f2
 have F3:=F2.trans f3
 have hs:=F2.next
 have F4:Fr h h4:=⟨by rw[n4];exact F3.next,λq t=>by rw[o4 q om];exact F3.get q t⟩
 have F6:=(F4.trans f5).trans f6
 have c3:o=b+1:=om
 have c2:N.get B=aZ [aC 1]:=by rw[f6.get _ om,f5.get _ om];exact g4
 have b0:N.get b=aZ [x]:=by rw[f6.get _ om];exact g5
 have J0:OrJ h B b o x a r (Ea (((vU a n).map List.length).take 0)) N:=⟨b8,c2,b0,P.mono F6,om,F6⟩
 refine (BM o b x n a N a2 om A (o+1) om om b0 om (P.mono F6) (λk w=>OrJ h B b o x a r (Ea (((vU a n).map List.length).take k)) w) J0
  (λk w h' j hx t=>⟨by rw[t _ om];exact j.gr,by rw[t _ om];exact j.gA,by rw[t _ om];exact j.gb,P.mono ⟨mT j.fr.next hx,λq U=>by rw[t _ om];exact j.fr.get q U⟩,iW j.nx hx,⟨mT j.fr.next hx,λq U=>by rw[t _ om];exact j.fr.get q U⟩⟩)
  (λk w j=>⟨j.gb,j.si⟩) ?_).mono ?_
 ·intro k w v hk j a1 c6
  obtain⟨m,hm⟩:=exI (Ea (((vU a n).map List.length).take k))
  obtain⟨c,a0⟩:=exI ((vU a n).getD k [])
  have a7:((vU a n).map List.length).getD k 0=c.length:=by rw[nP _ (d:= []) hk,a0]
  have b5:k<((vU a n).map List.length).length:=by rw[jV];exact hk
  have J:=Qc ((vU a n).map List.length) k b5
  rw[hm,a7] at J
  have hp:=Ya A
  have a5:=mT (EG A) (Sw hn)
  have c5:m<=823543:=mT (by rw[←hm];exact Nat.le_of_dvd hp (Gy _ k)) a5
  have a6:Ea (((vU a n).map List.length).take (k+1))<=823543:=mT (Nat.le_of_dvd hp (Gy _ (k+1))) a5
  have c8:1<=c.length/\c.length<=7:=by
   have:=bD (l:=vU a n) (d:= []) hk;rw[a0] at this;obtain⟨i,hi,rfl⟩:=uF.1 this;have a8:i<n:=by unfold Qh at hi;exact Gu.1 (CH.1 hi).1
   rw[Ca];have:=(pD A a8).1;have:=BA A a8;omega
  rw[a0] at a1
  have lv:=a1.lens
  rw[aQ] at lv
  rw[hm] at j
  refine sZ j.gr (by rw[Y];rfl) iP λL g9 n9 o9=>?_
  rw[congrArg eH.assign Y,congrArg eH.vars Y,congrArg eH.pars Y]
  simp(disch:=omega)only[go_sem,List.zip_cons_cons,List.zip_nil_left]
  rw[congrArg eH.body Y]
  have nx:=j.nx
  have a3:L.get B=aZ [aC m]:=by rw[o9 _ om];exact j.gA
  simp(disch:=omega)only[go_sem,H.aF a3,lv]
  refine (adG Ei.ok m c.length _ om om).mono ?_
  rintro _ f ⟨rfl,a9⟩
  have b9:L.next+10<=f.next:=a9.next
  have p: ∀q,q<L.next->f.get q=L.get q:=λq t=>a9.get q (by show q<L.next+10;omega)
  have u:f.get B=aZ [aC m]:=by rw[p _ om];exact a3
  obtain⟨G,hG⟩:=exI (Nat.gcd m c.length)
  rw[hG] at J
  rw[hG]
  have c7:0<G:=by rw[←hG];exact Nat.gcd_pos_of_pos_right _ om
  have c1:(G:Int)≠0:=om
  have b1:(m:Int).tdiv (G:Int)=((m/G:Nat):Int):=by rw[Int.tdiv_eq_ediv_of_nonneg om];rfl
  have b6:m/G<=m:=Nat.div_le_self _ _
  have R:((m/G:Nat):Int)*(c.length:Int)=((Ea (((vU a n).map List.length).take (k+1)):Nat):Int):=by rw[J,Int.natCast_mul]
  generalize Ea (((vU a n).map List.length).take (k+1))=m2 at R a6 J
  generalize m/G=q at b1 b6 R J
  have pt: ∀(w:H) (y:V),dX (aZ [aC m]) w B 0 [y]=some (w.set B (aZ [y])):=λw y=>bN (by simp) w _ _
  simp(disch:=omega)only[go_sem,c1,b1,R,lv,H.aF u,u,pt]
  refine oX iP a4 (by rw[H.aG _ om];rw[p _ om];exact g9) ?_
  obtain⟨K,s⟩: ∃K,K=(f.set B (aZ [aC m2])).set o (some (.loop r)):=⟨_,rfl⟩
  rw[←s]
  have c4:K.next=f.next:=by rw[s];rfl
  have W: ∀q,q≠B->q≠o->K.get q=f.get q:=λq h1 Q=>by rw[s,H.aG _ Q,H.aG _ h1]
  have b3:=j.fr.next
  have b2:Fr h K:=⟨om,λq t=>by rw[W q om om,p q om,o9 q om];exact j.fr.get q t⟩
  exact⟨rfl,⟨by rw[s,H.aS],by rw[s,H.aG _ om,H.aS],by rw[W b om om,p b om,o9 b om];exact j.gb,P.mono b2,om,b2⟩,⟨om,λq h1 Q=>by rw[W q (λe=>Q om) (λe=>Q om),p q om,o9 q (λe=>Q om)]⟩⟩
 ·rintro _ L j
  rw[show (vU a n).length=((vU a n).map List.length).length from (jV _).symm,List.take_length] at j
  have a6:qF a n<=823543:=mT (EG A) (Sw hn)
  have j':OrJ h B b o x a r (qF a n) L:=j
  refine⟨r,j'.gr,by rw[iP];simp,?_⟩
  have en:r.pend.getD .norm= .norm:=by rw[a4];rfl
  rw[en]
  obtain⟨f,F⟩: ∃f,f=L.set o (some (.loop {r with st:= .out})):=⟨_,rfl⟩
  have p: ∀q,q≠o->f.get q=L.get q:=λq t=>by rw[F,H.aG _ t]
  have b9:f.next=L.next:=by rw[F];rfl
  have u:f.get B=aZ [aC (qF a n:Nat)]:=by rw[p _ om];exact j'.gA
  have b3:=j'.fr.next
  have b7:Fr h f:=⟨om,λq t=>by rw[p q om];exact j'.fr.get q t⟩
  rw[←F]
  simp(disch:=omega)only[go_sem,H.aF u]
  exact b7
theorem Qp (h:H)(n:Nat)(a:n<=100000):Jo h 1 1 [.int .u8 0] (aC n) (aC n)=some (.sl h.next 0 n (.kn n),h.new (.cells false (rc n λ_=> .int .u8 0))):=by
 rw[tU om (Int.le_refl _) om om,NK,uW]
 have e:cX [V.int .u8 0] n=rc n λ_=> .int .u8 0:=by
  symm;refine Kq ?_ λi hi=>?_
  ·simp [cX]
  ·simp [cX,hi,Nat.mod_one]
 rw[e]
theorem Ee: ∀l:List Nat,(∀x∈l,x<256)->qH (l.map λ(x:Nat)=>V.int .u8 (x:Int))=some l
 | [],_=>rfl
 |x::r,h=>by
  have b:=h x (by simp);show (if 0<=(x:Int)/\(x:Int)<256 then (qH (r.map λ(x:Nat)=>V.int .u8 (x:Int))).map ((x:Int).toNat:: ·) else none)=_;rw[bF ⟨om,om⟩,Ee r λy a=>h y (by simp [a])]
  rfl
theorem FV (u:V)(a:List Nat)(h:H)(U:a.length<=1000)(K: ∀x∈a,x<256)(z:SI h u (zi a)):
  Ev T 182 [u] h (λv h'=>v= .str a/\Fr h h'):=by
 refine cV oY rfl ?_
 obtain⟨n,s⟩:=exI a.length
 have N:=z.lens
 rw[aQ,s] at N
 obtain⟨id,off,y,p,B⟩:=z.open
 rw[aQ,s] at y p B
 simp(disch:=omega)only[go_sem,oY,aD,N,Qp h n om]
 have o:Fr h (h.new (.cells false (rc n λ_=> .int .u8 0))):=(Fr.refl h).new _
 have d:(h.new (.cells false (rc n λ_=> .int .u8 0))).get h.next=some (.cells false (rc n λ_=> .int .u8 0)):=H.aL ..
 have c:(h.new (.cells false (rc n λ_=> .int .u8 0))).next=h.next+1:=H.aU ..
 generalize h.new (.cells false (rc n λ_=> .int .u8 0))=W at*
 obtain⟨S,G⟩:=exI h.next
 rw[G] at d c
 rw[G]
 refine aH (λO b w=> ∃(i:Nat),(∃j:Nat->V,b= [u,j 1,.sl S 0 n (.kn n),j 3,j 4,u,aC n,aC i,j 8])/\i<=n/\
   w.get S=some (.cells false (rc n λj=>if j<i then .int .u8 ((a.getD j 0:Nat):Int) else .int .u8 0))/\w.next=S+1/\Fr h w/\O=n-i) n
  ⟨0,aB rfl,iJ _,by rw[d];rfl,c,o,rfl⟩ ?_
 clear d o c
 rintro O b l ⟨i,⟨Y,rfl⟩,hi,P,R,F,rfl⟩
 simp(disch:=omega)only[go_sem]
 by_cases m:(i:Int)<(n:Int)
 ·rw[oQ m]
  have f:i<n:=om
  have ci:l.cell id (off+i)=some (aC (a.getD i 0:Nat)):=by rw[F.cell (p om),B i f];congr 2;simp [zi,s,f]
  have r:=K (a.getD i 0) (bD om)
  generalize Q:a.getD i 0=k at ci r
  have A:=bN (vs:=rc n λj=>if j<i then .int .u8 ((a.getD j 0:Nat):Int) else .int .u8 0) (off:=i) (by rw[Df];exact f) l S (.int .u8 (k:Int))
  rw[mS] at A
  simp(disch:=omega)only[go_sem,y.ixa,ci,P,yH,A]
  rw[eJ i]
  refine⟨n-(i+1),om,i+1,aB rfl,om,?_,R,F.set om _,rfl⟩
  congr 2
  refine dB λj L=>?_
  by_cases e:j=i
  ·rw[bF e,bF om,e,Q]
  ·rw[bI e]
   by_cases J:j<i
   ·rw[bF J,bF om]
   ·rw[bI J,bI om]
 rw[bH m]
 obtain rfl:i=n:=om
 have q:l.row S 0 i=some (a.map λ(x:Nat)=>V.int .u8 (x:Int)):=by
  have e:(rc i λj=>if j<i then V.int .u8 ((a.getD j 0:Nat):Int) else .int .u8 0)=a.map λ(x:Nat)=>V.int .u8 (x:Int):=Kq (by rw[jV,s]) λj L=>by
   rw[bF L,Ol,dD om,List.getD,dD om];rfl
  unfold H.row;rw[P,e];simp only[sub];rw[bF (by rw[jV];omega)];rw[List.drop_zero,Tn (by rw[jV];omega)]
 have t:JA l (.sl S 0 i (.kn i))=some (.str a):=by
  show (match l.row S 0 i with|some ys=>(qH ys).map V.str|none=>none)=_;rw[q];show (qH (a.map λ(x:Nat)=>V.int .u8 (x:Int))).map V.str=_;rw[Ee a K];rfl
 simp(disch:=omega)only[go_sem,GH,t]
 exact F
section
variable {y x g:List Nat}
section
variable {n:Nat} {G:List Nat->Prop} {O:LN} {R:jI}
theorem one_le (Y:bE n y):Le (bL n) y:=by
 by_cases h: ∃k,k<n/\y.getD k 0≠k
 ·obtain⟨k,⟨b,m⟩,d⟩: ∃k,(k<n/\y.getD k 0≠k)/\ ∀j,j<k-> ¬(j<n/\y.getD j 0≠j):=by
   obtain⟨k,b⟩:=h
   induction k using Nat.strongRecOn with
   |_ k ih=>
    by_cases l: ∃j,j<k/\(j<n/\y.getD j 0≠j)
    ·obtain⟨j,p,o⟩:=l;exact ih j p o
    ·exact⟨k,b,λj c q=>l ⟨j,c,q⟩⟩
  have a: ∀j,j<k->y.getD j 0=j:=λj c=>Jg λi=>d j c ⟨om,i⟩
  refine .inr ⟨k,by rw[jG];exact b,λj c=>by rw[fQ om,a j c],?_⟩;rw[fQ b];refine Jg λr=>?_
  have f:y.getD k 0<k:=om
  have:=Y.inj om b (a _ f);omega
 ·exact .inl ((Fix.all Y λk b=>Jg λi=>h ⟨k,b,i⟩).symm)
theorem KS (f:iX n G)(c:bC n G O R){i:Nat}(hi:i<n):0<(R.getD i []).length/\(R.getD i []).getD 0 []=bL n:=by
 have o:i∈O.getD i []:=(c.mem i hi i).2 ⟨bL n,f.one,Fix.one n i om,fQ hi⟩;have d:0<(O.getD i []).length:=HJ o;have a:=c.rep i hi 0 d
 have q:(O.getD i []).getD 0 0=i:=by
  have b:(O.getD i []).getD 0 0∈O.getD i []:=bD d;obtain⟨x,s,fx,e⟩:=(c.mem i hi _).1 b
  have t: ¬(O.getD i []).getD 0 0<i:=λm=>by
   have X:=f.cU s;have:=X.inj (i:=(O.getD i []).getD 0 0) (j:=i) om hi (by rw[fx _ m,e]);omega
  obtain⟨k,p,u⟩:=zF.1 o;have h:=JX.1 (c.asc i hi);have v:(O.getD i []).getD 0 0=(O.getD i [])[0]:=Pm.cJ d
  by_cases l:k=0
  ·subst l;omega
  ·have:=h 0 k d p om
   omega
 rw[q] at a;refine⟨by rw[c.rl i hi];exact d,a.uniq ⟨f.one,Fix.one n i om,fQ hi,λy r _ _=>one_le (f.cU r)⟩⟩
theorem bV (c:bC n G O R)(a:x∈bQ R):G x:=by
 unfold bQ at a;obtain⟨r,b,d⟩:=List.mem_flatMap.1 a;exact Ji c x (List.mem_flatten.2 ⟨r,b,List.mem_of_mem_drop d⟩)
theorem nJ (b:iX n G)(c:bC n G O R)(o:G x):bX n (λg=>g∈bQ R) x:=by
 have h:=(Ti b c x).2 o;have s: ∀g,g∈bQ R->bE n g:=λg a=>b.cU (bV c a)
 clear o
 induction h with
 |one=>exact .one
 | @mul y g _ a ih=>
  obtain⟨r,p,q⟩:=List.mem_flatten.1 a;obtain⟨i,hi,u⟩:=zF.1 p;have d:i<n:=by have:=c.lr;omega
  have j:R.getD i []=r:=by rw[List.getD,dD hi,←u];rfl
  obtain⟨v,l⟩:=KS b c d;rw[j] at v l;obtain⟨k,t,m⟩:=zF.1 q
  by_cases f:k=0
  ·subst f
   have:g=bL n:=by rw[←l,List.getD,dD t,←m];rfl
   rw[this,bZ (ih.cU s)];exact ih
  ·refine ih.mul ?_
   unfold bQ;refine List.mem_flatMap.2 ⟨r,p,zF.2 ⟨k- 1,by rw[AQ];omega,?_⟩⟩;rw[List.getElem_drop];simp only[show 1+(k- 1)=k by omega,m]
def cW (x g:List Nat):List Nat:=aX (aX (dA g) x) g
theorem qG (X:bE n x)(g':bE n g):bE n (cW x g):=(g'.inv.mul X).mul g'
theorem mG (X:bE n x):cW x (bL n)=x:=by
 unfold cW;rw[oJ,mN X,bZ X]
theorem nX {k:List Nat}(X:bE n x)(A:bE n g)(B:bE n k):cW x (aX g k)=cW (cW x g) k:=by
 unfold cW;rw[Nr A B];have a:=A.inv;have b:=B.inv;rw[aV b a X,←aV (b.mul (a.mul X)) A B,←aV b (a.mul X) A|>.symm]
theorem MO (X:bE n x)(A:bE n g):cW (cW x g) (dA g)=x:=by
 rw[←nX X A A.inv,fC A,mG X]
def cj (G:List Nat->Prop)(x y:List Nat):Prop:= ∃g,G g/\cW x g=y
theorem XO (a:iX n G)(X:bE n x):cj G x x:=⟨bL n,a.one,mG X⟩
theorem XN (b:iX n G)(X:bE n x)(h:cj G x y):cj G y x:=by
 obtain⟨g,a,rfl⟩:=h;exact⟨dA g,b.inv a,MO X (b.cU a)⟩
theorem UT (a:iX n G){z:List Nat}(X:bE n x)(h:cj G x y)(h2:cj G y z):cj G x z:=by
 obtain⟨g,b,rfl⟩:=h;obtain⟨k,c,rfl⟩:=h2;exact⟨aX g k,a.mul b c,nX X (a.cU b) (a.cU c)⟩
theorem adZ {S:List Nat->Prop}(b: ∀g,S g->bE n g)(a: ∀x,G x->bX n S x){P:List Nat->Prop}(X:bE n x)(d:P x)(f: ∀y g,bE n y->P y->S g->P (cW y g))(h:cj G x y):P y:=by
 obtain⟨g,c,rfl⟩:=h;have:=a g c;clear c
 induction this with
 |one=>rw[mG X];exact d
 | @mul z k hz hk ih=>
  rw[nX X (hz.cU b) (b k hk)];exact f _ _ (qG X (hz.cU b)) ih hk
end
end
end Go.Proofs.YtcdbmkidaecdiaaGreat
namespace Go.Proofs.YtcdbmkidaecdiaaGreat.Cls
open Go Go.Ay Go.Sort
set_option maxRecDepth 100000
section
variable {h:H} {S N i j a:Nat}
def apK (ρ:Nat->Nat):dR->dR
 | .op i=> .op i
 | .call f xs=> .call (ρ f) xs
 | .callv x xs=> .callv x xs
 | .callp f xs=> .callp f xs
 | .calli f t x xs=> .calli f t x xs
def apF (ρ:Nat->Nat)(i:It):It:=⟨i.d,i.g,apK ρ i.a⟩
def apI (ρ:Nat->Nat)(i:AI):AI:=⟨i.i,apF ρ i.it,i.al,i.cks⟩
def aiT (ρ:Nat->Nat):C->C
 | .skip=> .skip
 | .reg l=> .reg (l.map (apF ρ))
 | .any k n l=> .any k n (l.map (apI ρ))
 | .regd l x xs=> .regd l x xs
 | .seq a b=> .seq (aiT ρ a) (aiT ρ b)
 | .ite x a b=> .ite x (aiT ρ a) (aiT ρ b)
 | .block i c=> .block i (aiT ρ c)
 | .loop c=> .loop (aiT ρ c)
 | .exit i=> .exit i
 | .ret=> .ret
 | .scope c=> .scope c
 | .range f p a b=> .range f p a b
 | .fail=> .fail
def apE (ρ:Nat->Nat)(f:Ay.Fn):Ay.Fn:=⟨f.nargs,f.init,f.results,aiT ρ f.body⟩
attribute [go_sem] apE aiT apI apF apK List.map_cons List.map_nil
def sK:List Nat:= [247,260,248,227,254,253,252,249,250,264,262,261,251,186]
class aN (α:Type)[Inhabited α] where
 lt:α->α->Bool
 enc:α->List V
 P:α->Prop
 B:H->Prop
 f:Nat
 b0:Nat
 S:Nat
 swo:SWO lt
 len: ∀a,(enc a).length=4
 one: ∀a,(enc a).all V.one=true
 eqv: ∀a,dE (.agg (enc a)) (.agg (enc a))=true
 cmp: ∀h a b,B h->P a->P b->Ev T f [.agg (enc a),.agg (enc b)] h (λv h'=> ∃z,v= aC z/\decide (z<0)=lt a b/\Fr h h')
 bfr: ∀h h',B h->Fr h h'->B h'
 bS: ∀h h',B h->Fx (· =S) h h'->B h'
 bR: ∀h h' R,B h->b0<=R->Fx (· =R) h h'->B h'
 bn: ∀h,B h->b0<=h.next
 ρ:Nat->Nat
 hT: ∀k,k∈sK->T (ρ k)=(T k).map (apE ρ)
 s1:ρ 128=128
 s2:ρ 212=212
 s3:ρ 213=213
@[go_sem] theorem apN {α:Type}[Inhabited α][O:aN α]:O.ρ 128=128:=O.s1
@[go_sem] theorem apO {α:Type}[Inhabited α][O:aN α]:O.ρ 212=212:=O.s2
@[go_sem] theorem apL {α:Type}[Inhabited α][O:aN α]:O.ρ 213=213:=O.s3
theorem aoX {α:Type}[Inhabited α][O:aN α]{k:Nat}{c:Ay.Fn}(h:T k=some c)(m:k∈sK):T (O.ρ k)=some (apE O.ρ c):=by
 rw[O.hT k m,h]
 rfl
def flat {α:Type}[Inhabited α][aN α](l:List α):List V:=l.flatMap aN.enc
structure fD {α:Type}[Inhabited α][O:aN α](h:H)(S N:Nat)(d:Array α):Prop where
 get:h.get S=aZ (flat d.toList)
 size:d.size=N
 lt:S<h.next
 eqS:S=O.S
 base:O.B h
 all: ∀i,i<d.size->O.P d[i]!
section
variable {α:Type} [Inhabited α] [O:aN α]
theorem tY: ∀l:List α,(flat l).length=l.length*4
 | []=>rfl
 |x::r=>by
  show (aN.enc x++flat r).length=_;rw[jZ,aN.len,tY r,List.length_cons];omega
theorem Ic: ∀(l:List α) (i:Nat),(flat l).drop (i*4)=flat (l.drop i)
 |l,0=>by simp
 | [],i+1=>by simp [flat]
 |x::r,i+1=>by
  show (aN.enc x++flat r).drop ((i+1)*4)=_;rw[List.drop_append,List.drop_eq_nil_of_le (by rw[aN.len];omega),aN.len,List.nil_append,show (i+1)*4- 4=i*4 by omega,Ic r i,List.drop_succ_cons]
theorem Sn: ∀(l:List α) (i:Nat),(flat l).take (i*4)=flat (l.take i)
 |l,0=>by simp [flat]
 | [],i+1=>by simp [flat]
 |x::r,i+1=>by
  show (aN.enc x++flat r).take ((i+1)*4)=_;rw[List.take_append,Tn (by rw[aN.len];omega),aN.len,show (i+1)*4- 4=i*4 by omega,Sn r i,List.take_succ_cons];rfl
theorem ZN (h:H)(id off:Nat)(a:α):Wj h 4 (.ptr id off) (.agg (aN.enc a))=dX (h.get id) h id off (aN.enc a):=Cd h id off 4 _ (aN.len a) (aN.one a)
theorem acP (a:α):dE (.agg (aN.enc a)) (.agg (aN.enc a))=true:=aN.eqv a
theorem fD.rd {d:Array α}(A:fD h S N d)(hi:i<N):h.row S (i*4) 4=some (aN.enc d[i]!):=by
 have b:i<d.size:=by rw[A.size];exact hi
 have c:i<d.toList.length:=by simpa using b
 unfold H.row;rw[A.get];simp only[sub];rw[bF (by rw[tY];omega),Ic,AR c];show some ((aN.enc d.toList[i]++flat _).take 4)=_;rw[List.take_append,Tn (by rw[aN.len];exact fM _),aN.len];simp [b]
theorem fD.fr {h':H}{d:Array α}(A:fD h S N d)(f:Fr h h'):fD h' S N d:=⟨by rw[f.get _ A.lt];exact A.get,A.size,iW A.lt f.next,A.eqS,O.bfr _ _ A.base f,A.all⟩
theorem bB {d:Array α}(hi:i<d.size)(b:H)(S:Nat)(x:α):dX (aZ (flat d.toList)) b S (i*4) (aN.enc x)=some (b.set S (aZ (flat (d.setIfInBounds i x).toList))):=by
 have c:i<d.toList.length:=by simpa using hi
 have e:(flat d.toList).take (i*4)++aN.enc x++(flat d.toList).drop (i*4+4)=flat (d.setIfInBounds i x).toList:=by
  rw[Array.toList_setIfInBounds,List.set_eq_take_append_cons_drop,bF c,Sn,show i*4+4=(i+1)*4 by omega,Ic];simp [flat]
 simp only[dX,putAt,aN.len];rw[bF (by rw[tY];omega),e];rfl
theorem aY {d:Array α}{y:α}(hi:i<d.size)(b:H)(S:Nat)(x:α):dX (aZ (flat (d.setIfInBounds j y).toList)) b S (i*4) (aN.enc x)=some (b.set S (aZ (flat ((d.setIfInBounds j y).setIfInBounds i x).toList))):=
 bB (by simpa using hi) b S x
theorem fD.swap {h2:H}{d:Array α}(A:fD h S N d){nx:Nat}(f:h.next<=nx)(e:h2=((H.mk h.tr nx).set S (aZ (flat (d.setIfInBounds i d[j]!).toList))).set S (aZ (flat ((d.setIfInBounds i d[j]!).setIfInBounds j d[i]!).toList)))(hi:i<N:=by omega)(q:j<N:=by omega):fD h2 S N (swp d i j)/\Fx (· =S) h h2:=by
 subst e
 have fx:Fx (· =S) h (((H.mk h.tr nx).set S (aZ (flat (d.setIfInBounds i d[j]!).toList))).set S (aZ (flat ((d.setIfInBounds i d[j]!).setIfInBounds j d[i]!).toList))):=⟨f,λid _ o=>by rw[H.aG _ o,H.aG _ o];rfl⟩
 have sz:=A.size;refine⟨⟨?_,?_,iW A.lt f,A.eqS,O.bS _ _ A.base (by have:=A.eqS;subst this;exact fx),?_⟩,fx⟩
 ·rw[H.aS];rfl
 ·simp [swp,sz]
 ·intro k p
  have b:k<d.size:=by simpa [swp] using p
  unfold swp
  have c: ∀(x:Array α) (u:Nat) (y:α),k<x.size->(x.setIfInBounds u y)[k]! =if u=k then y else x[k]! :=λx u y n=>by
   rw[getElem!_pos (x.setIfInBounds u y) k (by simpa using n),getElem!_pos x k n,Array.getElem_setIfInBounds]
  rw[c _ _ _ (by simpa using b),c _ _ _ b]
  by_cases m:j=k
  ·rw[bF m];exact A.all i om
  ·rw[bI m]
   by_cases l:i=k
   ·rw[bF l];exact A.all j om
   ·rw[bI l];exact A.all k b
theorem dG {d:Array α}(A:fD h S N d)(hi:i<N)(b:j<N)(nx:Nat)(c:h.next<=nx):Ev T (aN.f α) [.agg (aN.enc d[i]!),.agg (aN.enc d[j]!)] (H.mk h.tr nx) (λv h'=> ∃z,v= aC z/\decide (z<0)=aN.lt d[i]! d[j]! /\Fr (H.mk h.tr nx) h'):=
 O.cmp _ _ _ (O.bfr _ _ A.base ((Fr.refl h).bA c)) (A.all i (by rw[A.size];exact hi)) (A.all j (by rw[A.size];exact b))
end
attribute [go_sem] ZN acP H.Ym
theorem dC {a b c:H}(x:Fx (· =S) a b)(y:Fx (· =S) b c):Fx (· =S) a c:=x.trans y λ_ _ h=>h
theorem Vb {α:Type}[Inhabited α]{lt:α->α->Bool}{d:Array α}(b:a<j+1)(h2:lt d[j+1]! d[j]! =true):insInner lt a (j+1) d=insInner lt a j (swp d (j+1) j):=by
 rw[insInner,bF (by simp [b,h2])]
theorem Ud {α:Type}[Inhabited α]{lt:α->α->Bool}{d:Array α}(h2:lt d[j+1]! d[j]! =false):insInner lt a (j+1) d=d:=by
 rw[insInner,bI (by simp [h2])]
theorem Uf {α:Type}[Inhabited α]{lt:α->α->Bool}{d:Array α}(h:j<=a):insInner lt a j d=d:=by
 cases j with
 |zero=>rfl
 |succ j=>rw[insInner,bI (by simp;omega)]
theorem oW {α:Type}[Inhabited α][O:aN α](h:H)(S N a b:Nat)(d:Array α)(w:Kh)(hN:N<1000000)(A:fD h S N d)(hb:b<=N)(L:a<=b):
  Ev T (aN.ρ α 247) [.sl S 0 N w,aC a,aC b,.fn (aN.f α) [] []] h (λ_ h'=>fD h' S N (insertionSort aN.lt d a b)/\Fx (· =S) h h'):=by
 refine Ko (aoX (α:=α) fK.ok (by decide)) rfl ?_
 simp(disch:=omega)only[go_sem,fK,aD]
 rw[eJ a]
 refine aH (λu c s=> ∃(i:Nat) (e:Array α),(∃g:Nat->V,c= [.sl S 0 N w,aC a,aC b,.fn (aN.f α) [] [],aC i,g 5,g 6,g 7])/\a<i/\i<=b+1/\fD s S N e/\insOuter aN.lt a b i e=insertionSort aN.lt d a b/\Fx (· =S) h s/\u=b+1-i) (b+1-(a+1))
  ⟨a+1,d,aB rfl,om,om,A,rfl,Fx.refl _ h,rfl⟩ ?_
 clear A
 rintro u c h1 ⟨i,e,⟨g,rfl⟩,U,R,A,n,F,rfl⟩
 simp(disch:=omega)only[go_sem]
 by_cases r:(i:Int)<(b:Int)
 case neg=>
  rw[bH r];simp(disch:=omega)only[go_sem];rw[insOuter,bI om] at n;rw[←n];exact⟨A,F⟩
 rw[oQ r]
 rw[insOuter,bF om] at n
 simp(disch:=omega)only[go_sem]
 refine aH (λu c s=> ∃(j:Nat) (k:Array α),(∃g:Nat->V,c= [.sl S 0 N w,aC a,aC b,.fn (aN.f α) [] [],aC i,aC j,g 6,g 7])/\a<=j/\j<=i/\fD s S N k/\insInner aN.lt a j k=insInner aN.lt a i e/\Fx (· =S) h s/\u=j) i
  ⟨i,e,aB rfl,om,om,A,rfl,F,rfl⟩ ?_
 clear A F
 rintro u c o ⟨j,k,⟨g2,rfl⟩,Z,P,A,p,F,hk⟩
 have sz:=A.size
 by_cases t:(a:Int)<(j:Int)
 ·obtain⟨m,rfl⟩: ∃m,j=m+1:=⟨j- 1,om⟩
  have Y:=A.rd (i:=m+1) om
  have K:=A.rd (i:=m) om
  have v:=oQ t
  have J:((m+1:Nat):Int)- 1=(m:Int):=om
  simp(disch:=omega)only[go_sem,v,J,Y,K]
  refine (dG A (i:=m+1) (j:=m) om om _ om).mono ?_
  rintro _ B ⟨z,rfl,y,x⟩
  have l:Fr o B:=Fr.trans ((Fr.refl o).bA om) x
  have q:=A.fr l
  have Q:=q.rd (i:=m+1) om
  have c4:=q.rd (i:=m) om
  cases hl:aN.lt k[m+1]! k[m]! with
  |false=>
   rw[Ud hl] at p;simp(disch:=omega)only[go_sem,y,hl];rw[eJ i];rw[←p] at n;exact⟨b+1-(i+1),om,i+1,k,aB rfl,om,om,q,n,dC F (Fx.of l),rfl⟩
  |true=>
   rw[Vb om hl] at p;simp(disch:=omega)only[go_sem,y,hl,J,Q,c4,q.get,bB,aY];have W:=q.swap (i:=m+1) (j:=m) (nx:=B.next+18) om rfl;exact⟨m,om,m,_,aB rfl,om,om,W.1,p,dC (dC F (Fx.of l)) W.2,rfl⟩
 ·have v:=bH t
  rw[Uf om] at p
  simp(disch:=omega)only[go_sem,v]
  rw[eJ i]
  rw[←p] at n
  have G:Fr o (H.mk o.tr (o.next+17)):=(Fr.refl o).bA om
  exact⟨b+1-(i+1),om,i+1,k,aB rfl,om,om,A.fr G,n,dC F (Fx.of G),rfl⟩
end
def Wm {α:Type}[Inhabited α](lt:α->α->Bool)(hi first root:Nat)(d:Array α):Nat:=if 2*root+1+1<hi/\lt d[first+(2*root+1)]! d[first+(2*root+1)+1]! =true then 2*root+2 else 2*root+1
theorem xP {α:Type}[Inhabited α]{lt:α->α->Bool}(hi first a:Nat)(d:Array α):siftDown lt hi first a d=if 2*a+1≥hi then d else
  if lt d[first+a]! d[first+Wm lt hi first a d]! =true then siftDown lt hi first (Wm lt hi first a d) (swp d (first+a) (first+Wm lt hi first a d)) else d:=by
 rw[siftDown]
 unfold Wm
 by_cases c:2*a+1≥hi
 ·rw[dif_pos c,bF c]
 ·rw[dif_neg c,bI c]
  by_cases b:2*a+1+1<hi/\lt d[first+(2*a+1)]! d[first+(2*a+1)+1]! =true
  ·rw[bF (by simpa using b),bF b]
   cases h3:lt d[first+a]! d[first+(2*a+2)]!
   ·simp
   ·simp [show 2*a+2<hi by omega]
  ·rw[bI (by simpa using b),bI b]
   cases h3:lt d[first+a]! d[first+(2*a+1)]! <;>simp
theorem kA  {α:Type}[Inhabited α][O:aN α](h:H)(S N x hi first:Nat)(d:Array α)(cp:Kh)(hN:N<1000000)(A:fD h S N d)(hb:first+hi<=N)(Y:x<=hi):
  Ev T (aN.ρ α 260) [.sl S 0 N cp,aC x,aC hi,aC first,.fn (aN.f α) [] []] h (λ_ h'=>fD h' S N (siftDown aN.lt hi first x d)/\Fx (· =S) h h'):=by
 refine Ko (aoX (α:=α) gJ.ok (by decide)) rfl ?_
 simp(disch:=omega)only[go_sem,gJ,aD]
 refine aH (λk' t hh=> ∃(r:Nat) (e:Array α),(∃g:Nat->V,t= [.sl S 0 N cp,aC x,aC hi,aC first,.fn (aN.f α) [] [],aC r,g 6,g 7,g 8,g 9])/\r<=hi/\fD hh S N e/\siftDown aN.lt hi first r e=siftDown aN.lt hi first x d/\Fx (· =S) h hh/\k'=hi-r) (hi-x)
  ⟨x,d,aB rfl,Y,A,rfl,Fx.refl _ h,rfl⟩ ?_
 clear A
 rintro k' t u ⟨r,e,⟨g,rfl⟩,hr,A,a,F,rfl⟩
 have U:2*(r:Int)+1=((2*r+1:Nat):Int):=om
 by_cases L:(hi:Int)<=((2*r+1:Nat):Int)
 ·have P:=oQ L
  simp(disch:=omega)only[go_sem,U,P]
  rw[xP,bF om] at a
  rw[←a]
  exact⟨A,F⟩
 have P:=bH L
 rw[xP,bI om] at a
 have R:((2*r+1:Nat):Int)+1=((2*r+2:Nat):Int):=om
 have c:(first:Int)+(r:Int)=((first+r:Nat):Int):=om
 have n:(first:Int)+((2*r+1:Nat):Int)=((first+(2*r+1):Nat):Int):=om
 have K:(first:Int)+((2*r+2:Nat):Int)=((first+(2*r+2):Nat):Int):=om
 have Z:((first+(2*r+1):Nat):Int)+1=((first+(2*r+1)+1:Nat):Int):=om
 have sz:=A.size
 by_cases G:((2*r+2:Nat):Int)<(hi:Int)
 ·have Q:=oQ G
  have p:=A.rd (i:=first+(2*r+1)) om
  have B:=A.rd (i:=first+(2*r+1)+1) om
  simp(disch:=omega)only[go_sem,U,P,R,Q,n,Z,p,B]
  refine (dG A (i:=first+(2*r+1)) (j:=first+(2*r+1)+1) om om _ om).mono ?_
  rintro _ y ⟨z,rfl,k,a0⟩
  have J:Fr u y:=Fr.trans ((Fr.refl u).bA om) a0
  have w:=A.fr J
  have o:=w.rd (i:=first+r) om
  have p:=w.rd (i:=first+(2*r+1)) om
  have B:=w.rd (i:=first+(2*r+2)) om
  cases hl:aN.lt e[first+(2*r+1)]! e[first+(2*r+1)+1]! with
  |false=>
   have l:Wm aN.lt hi first r e=2*r+1:=bI (by rw[hl];simp)
   rw[l] at a;simp(disch:=omega)only[go_sem,k,hl,c,n,o,p];refine (dG w (i:=first+r) (j:=first+(2*r+1)) om om _ om).mono ?_;rintro _ q ⟨z,rfl,k,m⟩;have v:Fr y q:=Fr.trans ((Fr.refl y).bA om) m;have b:=w.fr v;have o:=b.rd (i:=first+r) om;have p:=b.rd (i:=first+(2*r+1)) om;have s:=dC (dC F (Fx.of J)) (Fx.of v)
   cases hl2:aN.lt e[first+r]! e[first+(2*r+1)]! with
   |false=>
    rw[bI (by rw[hl2];simp)] at a;simp(disch:=omega)only[go_sem,k,hl2];rw[←a];exact⟨b,s⟩
   |true=>
    rw[bF hl2] at a;simp(disch:=omega)only[go_sem,k,hl2,c,n,o,p,b.get,bB,aY];have W:=b.swap (i:=first+r) (j:=first+(2*r+1)) (nx:=q.next+24) om rfl;exact⟨hi-(2*r+1),om,2*r+1,_,aB rfl,om,W.1,a,dC s W.2,rfl⟩
  |true=>
   have l:Wm aN.lt hi first r e=2*r+2:=bF ⟨om,hl⟩
   rw[l] at a;simp(disch:=omega)only[go_sem,k,hl,R,c,K,o,B];refine (dG w (i:=first+r) (j:=first+(2*r+2)) om om _ om).mono ?_;rintro _ q ⟨z,rfl,k,m⟩;have v:Fr y q:=Fr.trans ((Fr.refl y).bA om) m;have b:=w.fr v;have o:=b.rd (i:=first+r) om;have B:=b.rd (i:=first+(2*r+2)) om;have s:=dC (dC F (Fx.of J)) (Fx.of v)
   cases hl2:aN.lt e[first+r]! e[first+(2*r+2)]! with
   |false=>
    rw[bI (by rw[hl2];simp)] at a;simp(disch:=omega)only[go_sem,k,hl2];rw[←a];exact⟨b,s⟩
   |true=>
    rw[bF hl2] at a;simp(disch:=omega)only[go_sem,k,hl2,c,K,o,B,b.get,bB,aY];have W:=b.swap (i:=first+r) (j:=first+(2*r+2)) (nx:=q.next+24) om rfl;exact⟨hi-(2*r+2),om,2*r+2,_,aB rfl,om,W.1,a,dC s W.2,rfl⟩
 ·have Q:=bH G
  have l:Wm aN.lt hi first r e=2*r+1:=bI om
  rw[l] at a
  have J:Fr u (H.mk u.tr (u.next+20)):=(Fr.refl u).bA om
  have w:=A.fr J
  have o:=A.rd (i:=first+r) om
  have p:=A.rd (i:=first+(2*r+1)) om
  simp(disch:=omega)only[go_sem,U,P,R,Q,c,n,o,p]
  refine (dG A (i:=first+r) (j:=first+(2*r+1)) om om _ om).mono ?_
  rintro _ q ⟨z,rfl,k,m⟩
  have v:Fr u q:=Fr.trans ((Fr.refl u).bA om) m
  have b:=A.fr v
  have o:=b.rd (i:=first+r) om
  have p:=b.rd (i:=first+(2*r+1)) om
  have s:=dC F (Fx.of v)
  cases hl2:aN.lt e[first+r]! e[first+(2*r+1)]! with
  |false=>
   rw[bI (by rw[hl2];simp)] at a;simp(disch:=omega)only[go_sem,k,hl2];rw[←a];exact⟨b,s⟩
  |true=>
   rw[bF hl2] at a;simp(disch:=omega)only[go_sem,k,hl2,c,n,o,p,b.get,bB,aY];have W:=b.swap (i:=first+r) (j:=first+(2*r+1)) (nx:=q.next+24) om rfl;exact⟨hi-(2*r+1),om,2*r+1,_,aB rfl,om,W.1,a,dC s W.2,rfl⟩
theorem qZ  {α:Type}[Inhabited α][O:aN α](h:H)(S N a b:Nat)(d:Array α)(r:Kh)(B:N<1000000)(A:fD h S N d)(hb:b<=N)(K:a<=b):
  Ev T (aN.ρ α 248) [.sl S 0 N r,aC a,aC b,.fn (aN.f α) [] []] h (λ_ h'=>fD h' S N (heapSort aN.lt d a b)/\Fx (· =S) h h'):=by
 refine Ko (aoX (α:=α) gX.ok (by decide)) rfl ?_
 obtain⟨n,Q⟩:=exI (b-a)
 have en:(b:Int)-(a:Int)=(n:Int):=om
 have L:((n:Int)- 1).tdiv 2=(((n- 1)/2+1:Nat):Int)- 1:=by
  by_cases Y:n=0
  ·subst Y;decide
  ·rw[Int.tdiv_eq_ediv_of_nonneg om];omega
 simp(disch:=omega)only[go_sem,gX,aD,en,L]
 refine aH (λo c s=> ∃(k:Nat) (e:Array α),(∃g:Nat->V,c= [.sl S 0 N r,aC a,aC b,.fn (aN.f α) [] [],aC a,aC 0,aC n,aC ((k:Int)- 1),g 8,g 9,g 10])/\k<=n+1/\(k=1∨k<=n)/\fD s S N e/\heapBuild aN.lt n a k e=heapBuild aN.lt n a ((n- 1)/2+1) d/\Fx (· =S) h s/\o=k) ((n- 1)/2+1)
  ⟨(n- 1)/2+1,d,aB rfl,om,om,A,rfl,Fx.refl _ h,rfl⟩ ?_
 clear A
 rintro o c U ⟨k,e,⟨g,rfl⟩,u,y,A,w,F,x⟩
 subst x
 by_cases l:(0:Int)<=(o:Int)- 1
 ·have p:=oQ l
  obtain⟨m,rfl⟩: ∃m,o=m+1:=⟨o- 1,om⟩
  have t:((m+1:Nat):Int)- 1=(m:Int):=om
  rw[t] at p
  rw[t]
  simp(disch:=omega)only[go_sem,p]
  refine (kA U S N m n a e r B A om om).mono ?_
  rintro _ z ⟨Z,F2⟩
  simp(disch:=omega)only[go_sem]
  exact⟨m,om,m,_,aB rfl,om,om,Z,w,dC F F2,rfl⟩
 have p:=bH l
 obtain rfl:o=0:=om
 have w:e=heapBuild aN.lt n a ((n- 1)/2+1) d:=w
 simp(disch:=omega)only[go_sem,p]
 refine aH (λo c s=> ∃(k:Nat) (q:Array α),(∃g:Nat->V,c= [.sl S 0 N r,aC a,aC b,.fn (aN.f α) [] [],aC a,aC 0,aC n,g 7,aC ((k:Int)- 1),g 9,g 10])/\k<=n/\fD s S N q/\heapPop aN.lt a k q=heapPop aN.lt a n e/\Fx (· =S) h s/\o=k) n
  ⟨n,e,aB rfl,om,A,rfl,F,rfl⟩ ?_
 clear A F l p u y
 rintro o c z ⟨k,q,⟨g,rfl⟩,u,A,v,F,x⟩
 subst x
 have sz:=A.size
 by_cases l:(0:Int)<=(o:Int)- 1
 ·have p:=oQ l
  obtain⟨m,rfl⟩: ∃m,o=m+1:=⟨o- 1,om⟩
  have t:((m+1:Nat):Int)- 1=(m:Int):=om
  rw[t] at p
  rw[t]
  have R:(a:Int)+(m:Int)=((a+m:Nat):Int):=om
  have c1:=A.rd (i:=a+m) om
  have G:=A.rd (i:=a) om
  simp(disch:=omega)only[go_sem,p,R,c1,G,A.get,bB,aY]
  have W:=A.swap (i:=a) (j:=a+m) (nx:=z.next+20) om rfl
  have s0:=kA _ S N 0 m a _ r B W.1 om om
  refine s0.mono ?_
  rintro _ h3 ⟨J,P⟩
  simp(disch:=omega)only[go_sem]
  exact⟨m,om,m,_,aB rfl,om,J,v,dC (dC F W.2) P,rfl⟩
 have p:=bH l
 obtain rfl:o=0:=om
 simp(disch:=omega)only[go_sem,p]
 have v:q=heapPop aN.lt a n e:=v
 have:heapSort aN.lt d a b=q:=by unfold heapSort;rw[Q,v,w]
 rw[this]
 exact⟨A,F⟩
theorem fD.Uc  {α:Type}[Inhabited α][O:aN α]{h h':H}{S N R:Nat}{d:Array α}(A:fD h S N d)(f:Fx (· =R) h h')(b:R≠S)(a:aN.b0 α<=R):fD h' S N d:=⟨by rw[f.get S A.lt (λe=>b e.symm)];exact A.get,A.size,iW A.lt f.next,A.eqS,O.bR _ _ _ A.base a f,A.all⟩
theorem tZ  {α:Type}[Inhabited α][O:aN α](h:H)(S N a b:Nat)(d:Array α)(o:Kh)(y:N<1000000)(A:fD h S N d)(w:b<=N)(u:a<b):
  Ev T (aN.ρ α 251) [.sl S 0 N o,aC a,aC b,.fn (aN.f α) [] []] h (λ_ h'=>fD h' S N (reverseRange d a b)/\Fx (· =S) h h'):=by
 refine Ko (aoX (α:=α) fP.ok (by decide)) rfl ?_
 have q:(b:Int)- 1=((b- 1:Nat):Int):=om
 simp(disch:=omega)only[go_sem,fP,aD,q]
 refine aH (λc k p=> ∃(i j:Nat) (e:Array α),(∃g:Nat->V,k= [.sl S 0 N o,aC a,aC b,aC i,aC j,g 5])/\j<b/\i<=b/\fD p S N e/\reverseLoop i j e=reverseLoop a (b- 1) d/\Fx (· =S) h p/\c=j) (b- 1)
  ⟨a,b- 1,d,aB rfl,om,om,A,rfl,Fx.refl _ h,rfl⟩ ?_
 clear A
 rintro c k v ⟨i,j,e,⟨g,rfl⟩,x,hi,A,m,F,s⟩
 subst s
 have sz:=A.size
 rw[reverseLoop] at m
 by_cases l:(i:Int)<(c:Int)
 ·have n:=oQ l
  rw[bF om] at m
  have t:=A.rd (i:=i) om
  have r:=A.rd (i:=c) om
  simp(disch:=omega)only[go_sem,n,t,r,A.get,bB,aY]
  have W:=A.swap (i:=i) (j:=c) (nx:=v.next+16) om rfl
  rw[show (i:Int)+1=((i+1:Nat):Int) from om,show (c:Int)- 1=((c- 1:Nat):Int) from om]
  exact⟨c- 1,om,i+1,c- 1,_,aB rfl,om,om,W.1,m,dC F W.2,rfl⟩
 have n:=bH l
 rw[bI om] at m
 simp(disch:=omega)only[go_sem,n]
 unfold reverseRange
 rw[←m]
 exact⟨A,F⟩
theorem Dh (n:Nat){k:Int}{m:Nat}(a:k=(m:Int)):(n:Int).tdiv k=((n/m:Nat):Int):=by
 rw[a,Int.tdiv_eq_ediv_of_nonneg om];rfl
theorem Ba  {α:Type}[Inhabited α][O:aN α](h:H)(S N a b:Nat)(d:Array α)(cp:Kh)(hN:N<60000)(A:fD h S N d)(hb:b<=N)(a3:a<=b):
  Ev T (aN.ρ α 249) [.sl S 0 N cp,aC a,aC b,.fn (aN.f α) [] []] h (λ_ h'=> ∃e,fD h' S N e/\PermIn a b d e/\Fx (· =S) h h'):=by
 refine Ko (aoX (α:=α) dI.ok (by decide)) rfl ?_
 obtain⟨n,hn⟩:=exI (b-a)
 have en:(b:Int)-(a:Int)=(n:Int):=om
 by_cases h8:(8:Int)<=(n:Int)
 case neg=>
  have Z:=bH h8;simp(disch:=omega)only[go_sem,dI,aD,en,Z];exact⟨d,A,permIn_refl d a b,Fx.refl _ h⟩
 have Z:=oQ h8
 have K:=Dh n (k:=4) (m:=4) rfl
 obtain⟨q,hq⟩:=exI (n/4)
 rw[hq] at K
 have ei:(a:Int)+(q:Int)*2- 1=((a+q*2- 1:Nat):Int):=om
 have ej:(a:Int)+(q:Int)*2+1=((a+q*2+1:Nat):Int):=om
 have hp:=two_pow_bitsLen_le (show 0<n by omega)
 have a2:=lt_two_pow_bitsLen n
 obtain⟨m,hm⟩:=exI (2^bitsLen n)
 rw[hm] at hp a2
 obtain⟨R,hR⟩:=exI h.next
 have P:R≠S:=by have:=A.lt;omega
 have a1:aN.b0 α<=R:=by have:=O.bn _ A.base;omega
 have a0: ∀c:H,dX (aZ [.int .u64 0]) c R 0 [.int .u64 (n:Int)]=some (c.set R (aZ [.int .u64 (n:Int)])):=λc=>bN (by simp) c R _
 have G:(h.new (.cells false [.int .u64 0])).get R=aZ [.int .u64 0]:=by rw[←hR,H.aL]
 simp(disch:=omega)only[go_sem,dI,aD,en,Z,hR,dK (n:=(n:Int)) om om,G,a0]
 obtain⟨o,l⟩: ∃o,o=(h.new (.cells false [.int .u64 0])).set R (aZ [.int .u64 (n:Int)]):=⟨_,rfl⟩
 rw[←l]
 have g1:o.get R=aZ [.int .u64 (n:Int)]:=by rw[l,H.aS]
 have n1:o.next=R+1:=by rw[l,H.bY,H.aU,hR]
 have f1:Fr h o:=by rw[l];exact ((Fr.refl h).new _).set om _
 clear l
 refine (Wg n o om).mono ?_
 rintro _ a6 ⟨rfl,c⟩
 rw[c,hm]
 simp(disch:=omega)only[go_sem,K,ei]
 refine aH (λk' r c=> ∃(i:Nat) (e:Array α) (x:Int),(∃g:Nat->V,r= [.sl S 0 N cp,aC a,aC b,aC n,.ptr R 0,.int .u64 (m:Int),aC i,g 7,g 8,g 9,g 10])/\a<=i/\i<=a+q*2+2/\fD c S N e/\PermIn a b d e/\c.get R=aZ [.int .u64 x]/\R<c.next/\Fx (· =S) h c/\k'=a+q*2+2-i) (a+q*2+2-(a+q*2- 1))
  ⟨a+q*2- 1,d,_,aB rfl,om,om,A.fr f1,permIn_refl d a b,g1,om,Fx.of f1,rfl⟩ ?_
 clear A g1 n1 f1 c o
 rintro k' r o ⟨i,e,x,⟨g,rfl⟩,B,a5,A,L,gR,nR,F,rfl⟩
 by_cases s:(i:Int)<=((a+q*2+1:Nat):Int)
 case neg=>
  have Y:=bH s;simp(disch:=omega)only[go_sem,K,ej,Y];exact⟨e,A,L,F⟩
 have Y:=oQ s
 simp(disch:=omega)only[go_sem,K,ej,Y]
 refine (Wd R x o gR nR).mono ?_
 rintro _ J ⟨y,rfl,t,F2⟩
 have p:=A.Uc F2 P a1
 obtain⟨w,hw,a4⟩:=Uo y (m- 1) om
 have em:(m:Int)- 1=((m- 1:Nat):Int):=om
 have sz:=p.size
 have z:Fx (· =S) h J:=⟨mT F.next F2.next,λid h3 h4=>(F2.get id (iW h3 F.next) (λe=>by have:id=R:=e;omega)).trans (F.get id h3 h4)⟩
 have v:R<J.next:=iW nR F2.next
 by_cases u:(n:Int)<=(w:Int)
 ·have e2:=oQ u
  have e3:(w:Int)-(n:Int)=((w-n:Nat):Int):=om
  have U:(a:Int)+((w-n:Nat):Int)=((a+(w-n):Nat):Int):=om
  have c1:=p.rd (i:=i) om
  have Q:=p.rd (i:=a+(w-n)) om
  simp(disch:=omega)only[go_sem,em,dK (n:=((m- 1:Nat):Int)) om om,hw,e2,e3,U,c1,Q,p.get,bB,aY]
  have W:=p.swap (i:=i) (j:=a+(w-n)) (nx:=J.next+20) om rfl
  rw[eJ i]
  refine⟨a+q*2+2-(i+1),om,i+1,_,y,aB rfl,om,om,W.1,permIn_trans _ _ _ a b L (swp_permIn e a b i (a+(w-n)) B om om om om),?_,iW v W.2.next,dC z W.2,rfl⟩
  exact t
 ·have e2:=bH u
  have U:(a:Int)+(w:Int)=((a+w:Nat):Int):=om
  have c1:=p.rd (i:=i) om
  have Q:=p.rd (i:=a+w) om
  simp(disch:=omega)only[go_sem,em,dK (n:=((m- 1:Nat):Int)) om om,hw,e2,U,c1,Q,p.get,bB,aY]
  have W:=p.swap (i:=i) (j:=a+w) (nx:=J.next+20) om rfl
  rw[eJ i]
  refine⟨a+q*2+2-(i+1),om,i+1,_,y,aB rfl,om,om,W.1,permIn_trans _ _ _ a b L (swp_permIn e a b i (a+w) B om om om om),?_,iW v W.2.next,dC z W.2,rfl⟩
  exact t
structure Wn (h h':H)(R:Nat):Prop where
 get: ∃s,h'.get R=aZ [aC s]
 fx:Fx (· =R) h h'
theorem Wn.trans {a b c:H}{R:Nat}(x:Wn a b R)(y:Wn b c R):Wn a c R:=⟨y.get,x.fx.trans y.fx λ_ _ h=>h⟩
theorem jU  {α:Type}[Inhabited α][O:aN α](h:H)(S N a b R:Nat)(d:Array α)(x:Kh)(J:N<1000000)(A:fD h S N d)(F:a<N)(B:b<N)(G:R≠S)(n:R<h.next)(r:aN.b0 α<=R)(s:Int)(q:h.get R=aZ [aC s]):
  Ev T (aN.ρ α 264) [.sl S 0 N x,aC a,aC b,.ptr R 0,.fn (aN.f α) [] []] h (λv h'=>(v= .tup [aC a,aC b]∨v= .tup [aC b,aC a])/\Wn h h' R):=by
 refine Ko (aoX (α:=α) iD.ok (by decide)) rfl ?_
 have u:=A.rd (i:=a) om
 have t:=A.rd (i:=b) om
 simp(disch:=omega)only[go_sem,iD,aD,u,t]
 refine (dG A (i:=b) (j:=a) om om _ om).mono ?_
 rintro _ k ⟨z,rfl,p,o⟩
 have m:Fr h k:=Fr.trans ((Fr.refl h).bA om) o
 have c:k.get R=aZ [aC s]:=by rw[m.get R n];exact q
 cases hl:aN.lt d[b]! d[a]! with
 |false=>
  simp(disch:=omega)only[go_sem,p,hl];exact⟨.inl trivial,⟨s,c⟩,Fx.of m⟩
 |true=>
  have cR:k.cell R 0=some (aC s):=by rw[H.aF c];rfl
  have y: ∀(w:Int) (l:H),dX (aZ [aC s]) l R 0 [aC w]=some (l.set R (aZ [aC w])):=λw l=>bN (by simp) l R _
  simp(disch:=omega)only[go_sem,p,hl,cR,c,y];exact⟨.inr trivial,⟨_,by rw[H.aS]⟩,(Fx.of (W:=(· =R)) m).trans (Fx.set k (W:=(· =R)) rfl _) (λ_ _ h=>h)⟩
theorem oD  {α:Type}[Inhabited α][O:aN α](h:H)(S N a b c R:Nat)(d:Array α)(p:Kh)(w:N<1000000)(A:fD h S N d)(t:a<N)(B:b<N)(P:c<N)(l:R≠S)(j:R<h.next)(i:aN.b0 α<=R)(s:Int)(gR:h.get R=aZ [aC s]):
  Ev T (aN.ρ α 262) [.sl S 0 N p,aC a,aC b,aC c,.ptr R 0,.fn (aN.f α) [] []] h (λv h'=>(∃m,v= aC (m:Nat)/\(m=a∨m=b∨m=c))/\Wn h h' R):=by
 refine Ko (aoX (α:=α) iF.ok (by decide)) rfl ?_
 simp(disch:=omega)only[go_sem,iF,aD]
 refine (jU h S N a b R d p w A t B l j i s gR).mono ?_
 rintro v1 h1 ⟨u,o⟩
 obtain⟨J,n,rfl,r,k,L⟩: ∃x y,v1= .tup [aC (x:Nat),aC (y:Nat)]/\x<N/\y<N/\((x=a∨x=b)/\(y=a∨y=b)):=by
  rcases u with rfl|rfl
  ·exact⟨a,b,rfl,t,B,.inl rfl,.inr rfl⟩
  ·exact⟨b,a,rfl,B,t,.inr rfl,.inl rfl⟩
 have U:=A.Uc o.fx l i
 obtain⟨s1,g1⟩:=o.get
 have K:=iW j o.fx.next
 simp(disch:=omega)only[go_sem]
 refine (jU h1 S N n c R d p w U k P l K i s1 g1).mono ?_
 rintro Z Y ⟨z,q⟩
 obtain⟨Q,y2,rfl,F,W⟩: ∃x y,Z= .tup [aC (x:Nat),aC (y:Nat)]/\x<N/\(x=n∨x=c):=by
  rcases z with rfl|rfl
  ·exact⟨n,c,rfl,k,.inl rfl⟩
  ·exact⟨c,n,rfl,P,.inr rfl⟩
 have A2:=U.Uc q.fx l i
 obtain⟨s2,g2⟩:=q.get
 have n2:=iW K q.fx.next
 simp(disch:=omega)only[go_sem]
 refine (jU Y S N J Q R d p w A2 r F l n2 i s2 g2).mono ?_
 rintro v3 h3 ⟨G,C3⟩
 have C:=(o.trans q).trans C3
 rcases G with rfl|rfl
 ·simp(disch:=omega)only[go_sem]
  exact⟨⟨Q,rfl,om⟩,C⟩
 ·simp(disch:=omega)only[go_sem]
  exact⟨⟨J,rfl,om⟩,C⟩
theorem iT  {α:Type}[Inhabited α][O:aN α](h:H)(S N a R:Nat)(d:Array α)(i:Kh)(p:N<1000000)(A:fD h S N d)(t:0<a)(r:a+1<N)(n:R≠S)(c:R<h.next)(b:aN.b0 α<=R)(s:Int)(j:h.get R=aZ [aC s]):
  Ev T (aN.ρ α 261) [.sl S 0 N i,aC a,.ptr R 0,.fn (aN.f α) [] []] h (λv h'=>(∃m,v= aC (m:Nat)/\(m=a- 1∨m=a∨m=a+1))/\Wn h h' R):=by
 refine Ko (aoX (α:=α) fF.ok (by decide)) rfl ?_
 have l:(a:Int)- 1=((a- 1:Nat):Int):=om
 have k:(a:Int)+1=((a+1:Nat):Int):=om
 simp(disch:=omega)only[go_sem,fF,aD,l,k]
 refine (oD h S N (a- 1) a (a+1) R d i p A om om om n c b s j).mono ?_
 rintro _ q ⟨⟨m,rfl,o⟩,C⟩
 simp(disch:=omega)only[go_sem]
 exact⟨⟨m,rfl,o⟩,C⟩
theorem Ar  {α:Type}[Inhabited α][O:aN α](h:H)(S N a b:Nat)(d:Array α)(J:Kh)(Z:N<1000000)(A:fD h S N d)(hb:b<=N)(a1:a<b):
  Ev T (aN.ρ α 250) [.sl S 0 N J,aC a,aC b,.fn (aN.f α) [] []] h (λv h'=> ∃(p:Nat) (t:Int),v= .tup [aC p,aC t]/\a<=p/\p<b/\Fr h h'):=by
 refine Ko (aoX (α:=α) sH.ok (by decide)) rfl ?_
 obtain⟨n,hn⟩:=exI (b-a)
 have en:(b:Int)-(a:Int)=(n:Int):=om
 have W:=Dh n (k:=4) (m:=4) rfl
 obtain⟨q,hq⟩:=exI (n/4)
 rw[hq] at W
 have ei:(a:Int)+(q:Int)*1=((a+q:Nat):Int):=om
 have ej:(a:Int)+(q:Int)*2=((a+q*2:Nat):Int):=om
 have ek:(a:Int)+(q:Int)*3=((a+q*3:Nat):Int):=om
 obtain⟨R,U⟩:=exI h.next
 have c:R≠S:=by have:=A.lt;omega
 have l:aN.b0 α<=R:=by have:=O.bn _ A.base;omega
 obtain⟨s,r⟩: ∃s,s=h.new (.cells false [aC 0]):=⟨_,rfl⟩
 have g1:s.get R=aZ [aC 0]:=by rw[r,←U,H.aL]
 have n1:s.next=R+1:=by rw[r,H.aU,U]
 have f1:Fr h s:=by rw[r];exact (Fr.refl h).new _
 have A1:=A.fr f1
 have Q: ∀(p:Nat) (o:H),a<=p->p<b->Fx (· =R) s o->a<=p/\p<b/\Fr h o:=λp o x1 x2 x3=>⟨x1,x2,mT f1.next x3.next,λid a0=>(x3.get id om (λe=>by have:id=R:=e;omega)).trans (f1.get id a0)⟩
 by_cases h8:(8:Int)<=(n:Int)
 case neg=>
  have Y:=bH h8;simp(disch:=omega)only[go_sem,sH,aD,en,W,ei,ej,ek,Y];rw[←r];have cR:s.cell R 0=some (aC 0):=by rw[H.aF g1];rfl
  simp(disch:=omega)only[go_sem,U,cR];refine aW (λ_=>?_) (λhc=>(hc (by trivial)).elim);simp(disch:=omega)only[go_sem];exact⟨a+q*2,1,rfl,Q _ _ om om (Fx.refl _ _)⟩
 have Y:=oQ h8
 have w: ∀(i j k:Nat) (o:H) (L:Int),a<=i->i<b->a<=j->j<b->a<=k->k<b->fD o S N d->o.get R=aZ [aC L]->R<o.next->Fx (· =R) s o->
   Ev T (aN.ρ α 262) [.sl S 0 N J,aC i,aC j,aC k,.ptr R 0,.fn (aN.f α) [] []] o (λv h'=> ∃p u,v= aC (p:Nat)/\a<=p/\p<b/\h'.get R=aZ [aC u]/\Fr h h'):=by
  intro i j k o L i1 i2 j1 j2 k1 k2 A2 g2 n2 F2
  refine (oD o S N i j k R d J Z A2 om om om c n2 l L g2).mono ?_
  rintro _ G ⟨⟨p,rfl,hp⟩,⟨u,F⟩,P⟩
  exact⟨p,u,rfl,om,om,F,(Q p G om om (F2.trans P λ_ _ h=>h)).2.2⟩
 by_cases K:(50:Int)<=(n:Int)
 case neg=>
  have z:=bH K;simp(disch:=omega)only[go_sem,sH,aD,en,W,ei,ej,ek,Y,z];rw[←r];simp(disch:=omega)only[go_sem,U];refine (w (a+q) (a+q*2) (a+q*3) s 0 om om om om om om A1 g1 om (Fx.refl _ _)).mono ?_;rintro _ G ⟨p,u,rfl,x,B,F,y⟩;have cR:G.cell R 0=some (aC u):=by rw[H.aF F];rfl
  simp(disch:=omega)only[go_sem,cR];refine aW (λ_=>?_) (λ_=>?_)
  ·simp(disch:=omega)only[go_sem]
   exact⟨p,1,rfl,x,B,y⟩
  ·simp(disch:=omega)only[go_sem]
   refine aW (λ_=>?_) (λ_=>?_)
   ·simp(disch:=omega)only[go_sem]
    exact⟨p,2,rfl,x,B,y⟩
   ·simp(disch:=omega)only[go_sem]
    exact⟨p,0,rfl,x,B,y⟩
 have z:=oQ K
 simp(disch:=omega)only[go_sem,sH,aD,en,W,ei,ej,ek,Y,z]
 rw[←r]
 simp(disch:=omega)only[go_sem,U]
 refine (iT s S N (a+q) R d J Z A1 om om c om l 0 g1).mono ?_
 rintro _ o ⟨⟨i,rfl,hi⟩,⟨L,g2⟩,F2⟩
 have A2:=A1.Uc F2 c l
 have n2:=F2.next
 simp(disch:=omega)only[go_sem]
 refine (iT o S N (a+q*2) R d J Z A2 om om c om l L g2).mono ?_
 rintro _ G ⟨⟨j,rfl,hj⟩,⟨u,F⟩,P⟩
 have A3:=A2.Uc P c l
 have n3:=P.next
 simp(disch:=omega)only[go_sem]
 refine (iT G S N (a+q*3) R d J Z A3 om om c om l u F).mono ?_
 rintro _ h4 ⟨⟨k,rfl,hk⟩,⟨s4,g4⟩,F4⟩
 have A4:=A3.Uc F4 c l
 have n4:=F4.next
 simp(disch:=omega)only[go_sem]
 refine (w i j k h4 s4 om om om om om om A4 g4 om ((F2.trans P λ_ _ h=>h).trans F4 λ_ _ h=>h)).mono ?_
 rintro _ G ⟨p,u,rfl,x,B,F,y⟩
 have cR:G.cell R 0=some (aC u):=by rw[H.aF F];rfl
 simp(disch:=omega)only[go_sem,cR]
 refine aW (λ_=>?_) (λ_=>?_)
 ·simp(disch:=omega)only[go_sem]
  exact⟨p,1,rfl,x,B,y⟩
 ·simp(disch:=omega)only[go_sem]
  refine aW (λ_=>?_) (λ_=>?_)
  ·simp(disch:=omega)only[go_sem]
   exact⟨p,2,rfl,x,B,y⟩
  ·simp(disch:=omega)only[go_sem]
   exact⟨p,0,rfl,x,B,y⟩
section
variable {j b:Nat}
theorem GU {α:Type}[Inhabited α]{lt:α->α->Bool}{d:Array α}(h:lt d[j+1]! d[j]! =true):shiftDown lt (j+1) d=shiftDown lt j (swp d (j+1) j):=by rw[shiftDown,bI (by simp [h])]
theorem aoK {α:Type}[Inhabited α]{lt:α->α->Bool}{d:Array α}(h:lt d[j+1]! d[j]! =false):shiftDown lt (j+1) d=d:=by rw[shiftDown,bF (by simp [h])]
theorem EY {α:Type}[Inhabited α]{lt:α->α->Bool}{d:Array α}(a:j<b)(h:lt d[j]! d[j- 1]! =true):shiftUp lt b j d=shiftUp lt b (j+1) (swp d j (j- 1)):=by rw[shiftUp,bF a,bI (by simp [h])]
theorem FZ {α:Type}[Inhabited α]{lt:α->α->Bool}{d:Array α}(a:j<b)(h:lt d[j]! d[j- 1]! =false):shiftUp lt b j d=d:=by rw[shiftUp,bF a,bF (by simp [h])]
theorem aoH {α:Type}[Inhabited α]{lt:α->α->Bool}{i:Nat}{d:Array α}(hi:i<b)(h:lt d[i]! d[i- 1]! =false):scanSorted lt d b i=scanSorted lt d b (i+1):=by rw[scanSorted,bF (by simp [h,hi])]
theorem Nn {α:Type}[Inhabited α]{lt:α->α->Bool}{i:Nat}{d:Array α}(h: ¬(i<b/\lt d[i]! d[i- 1]! =false)):scanSorted lt d b i=i:=by rw[scanSorted,bI (by simpa using h)]
theorem Lq {α:Type}[Inhabited α](lt:α->α->Bool)(a b s i:Nat)(d:Array α):partialIns lt a b (s+1) i d=if scanSorted lt d b i=b then (d,true) else if b-a<50 then (d,false) else
  partialIns lt a b s (scanSorted lt d b i) (if b-scanSorted lt d b i≥2 then shiftUp lt b (scanSorted lt d b i+1) (if scanSorted lt d b i-a≥2 then shiftDown lt (scanSorted lt d b i- 1) (swp d (scanSorted lt d b i) (scanSorted lt d b i- 1)) else swp d (scanSorted lt d b i) (scanSorted lt d b i- 1)) else
   (if scanSorted lt d b i-a≥2 then shiftDown lt (scanSorted lt d b i- 1) (swp d (scanSorted lt d b i) (scanSorted lt d b i- 1)) else swp d (scanSorted lt d b i) (scanSorted lt d b i- 1))):=by rw[partialIns]
theorem tB {α:Type}[Inhabited α][O:aN α](h:H)(S N a b:Nat)(d:Array α)(Z:Kh)(hN:N<1000000)(A:fD h S N d)(hb:b<=N)(b4:a<b):
  Ev T (aN.ρ α 252) [.sl S 0 N Z,aC a,aC b,.fn (aN.f α) [] []] h (λv h'=>v= .bool (partialInsertionSort aN.lt d a b).2/\fD h' S N (partialInsertionSort aN.lt d a b).1/\Fx (· =S) h h'):=by
 refine Ko (aoX (α:=α) dU.ok (by decide)) rfl ?_
 simp(disch:=omega)only[go_sem,dU,aD]
 rw[eJ a]
 refine aH (λk c r=> ∃(s i:Nat) (e:Array α),(∃g:Nat->V,c= [.sl S 0 N Z,aC a,aC b,.fn (aN.f α) [] [],g 4,aC i,aC (5-(s:Int)),g 7,g 8,g 9,g 10,g 11,g 12,g 13,g 14,g 15,g 16,g 17,g 18])/\s<=5/\a<i/\i<=b/\fD r S N e/\partialIns aN.lt a b s i e=partialInsertionSort aN.lt d a b/\Fx (· =S) h r/\k=s) 5
  ⟨5,a+1,d,aB rfl,om,om,om,A,rfl,Fx.refl _ h,rfl⟩ ?_
 clear A
 rintro k c h1 ⟨s,i,e,⟨g,rfl⟩,hs,b3,b2,A,l,F,hk⟩
 subst hk
 by_cases B:(5:Int)-(k:Int)<5
 case neg=>
  have n:=bH B;obtain rfl:k=0:=om
  simp(disch:=omega)only[go_sem,n];have l:(e,false)=partialInsertionSort aN.lt d a b:=l;rw[←l];exact⟨rfl,A,F⟩
 have n:=oQ B
 obtain⟨s,rfl⟩: ∃s,k=s+1:=⟨k- 1,om⟩
 simp(disch:=omega)only[go_sem,n]
 rw[Lq] at l
 refine aH (λk c r=> ∃(m:Nat),(∃g:Nat->V,c= [.sl S 0 N Z,aC a,aC b,.fn (aN.f α) [] [],g 4,aC m,aC (5-((s+1:Nat):Int)),g 7,g 8,g 9,g 10,g 11,g 12,g 13,g 14,g 15,g 16,g 17,g 18])/\a<m/\m<=b/\fD r S N e/\scanSorted aN.lt e b m=scanSorted aN.lt e b i/\Fx (· =S) h r/\k=b-m) (b-i)
  ⟨i,aB rfl,b3,b2,A,rfl,F,rfl⟩ ?_
 clear A F B n
 rintro k c w ⟨m,⟨g,rfl⟩,b5,b6,A,hS,F,rfl⟩
 have sz:=A.size
 have G:(m:Int)- 1=((m- 1:Nat):Int):=om
 have a5:(m:Int)+1=((m+1:Nat):Int):=om
 by_cases a8:(m:Int)<(b:Int)
 case neg=>
  have n:=bH a8;have em:m=b:=om
  rw[Nn om] at hS;rw[←hS,bF em] at l;have e2:decide ((m:Int)=(b:Int))=true:=oQ om;simp(disch:=omega)only[go_sem,n,e2];rw[←l];exact⟨rfl,A.fr ((Fr.refl w).bA om),dC F (Fx.of ((Fr.refl w).bA om))⟩
 have n:=oQ a8
 have p:=A.rd (i:=m) om
 have o:=A.rd (i:=m- 1) om
 simp(disch:=omega)only[go_sem,n,G,p,o]
 refine (dG A (i:=m) (j:=m- 1) om om _ om).mono ?_
 rintro _ h3 ⟨z,rfl,t,a6⟩
 have P:Fr w h3:=Fr.trans ((Fr.refl w).bA om) a6
 have L:=A.fr P
 have F3:=dC F (Fx.of P)
 cases hl:aN.lt e[m]! e[m- 1]! with
 |false=>
  rw[aoH om hl] at hS;simp(disch:=omega)only[go_sem,t,hl,a5];exact⟨b-(m+1),om,m+1,aB rfl,om,om,L,hS,F3,rfl⟩
 |true=>
  rw[Nn (by rw[hl];simp)] at hS;rw[←hS,bI om] at l;have e2:decide ((m:Int)=(b:Int))=false:=bH om
  by_cases a4:(b:Int)-(a:Int)<50
  ·have J:=oQ a4
   rw[bF om] at l;simp(disch:=omega)only[go_sem,t,hl,e2,J];rw[←l];exact⟨rfl,L,F3⟩
  have J:=bH a4;rw[bI om] at l;have p:=L.rd (i:=m) om;have o:=L.rd (i:=m- 1) om;simp(disch:=omega)only[go_sem,t,hl,e2,J,G,p,o,L.get,bB,aY];have W:=L.swap (i:=m) (j:=m- 1) (nx:=h3.next+18) om rfl
  obtain⟨h4,a0⟩: ∃h4,h4=((H.mk h3.tr (h3.next+18)).set S (aZ (flat (e.setIfInBounds m e[m- 1]!).toList))).set S (aZ (flat ((e.setIfInBounds m e[m- 1]!).setIfInBounds (m- 1) e[m]!).toList)):=⟨_,rfl⟩
  rw[←a0] at W ⊢;obtain⟨A4,F4⟩:=W;have y:=dC F3 F4;clear a0 F4 L F3 P a6 p o;obtain⟨R,a1⟩:=exI (swp e m (m- 1));rw[a1] at A4 l;refine jT (λvs h5=> ∃U,(∃g:Nat->V,vs= [.sl S 0 N Z,aC a,aC b,.fn (aN.f α) [] [],g 4,aC m,aC (5-((s+1:Nat):Int)),g 7,g 8,g 9,g 10,g 11,g 12,g 13,g 14,g 15,g 16,g 17,g 18])/\fD h5 S N U/\U=(if m-a≥2 then shiftDown aN.lt (m- 1) R else R)/\Fx (· =S) h h5) ?_ ?_
  ·refine aW (λw=>?_) (λw=>?_)
   ·simp(disch:=omega)only[go_sem,G]
    refine aH (λk c r=> ∃(j:Nat) (x:Array α),(∃g:Nat->V,c= [.sl S 0 N Z,aC a,aC b,.fn (aN.f α) [] [],g 4,aC m,aC (5-((s+1:Nat):Int)),aC j,g 8,g 9,g 10,g 11,g 12,g 13,g 14,g 15,g 16,g 17,g 18])/\j<b/\fD r S N x/\shiftDown aN.lt j x=shiftDown aN.lt (m- 1) R/\Fx (· =S) h r/\k=j) (m- 1)
     ⟨m- 1,R,aB rfl,om,A4,rfl,y,rfl⟩ ?_
    rintro k c h5 ⟨j,x,⟨g,rfl⟩,hj,u,K,F5,hk⟩;subst hk;have b7:=u.size
    by_cases h1:(1:Int)<=(k:Int)
    ·have n:=oQ h1
     obtain⟨q,rfl⟩: ∃q,k=q+1:=⟨k- 1,om⟩
     have a7:((q+1:Nat):Int)- 1=(q:Int):=om
     have p:=u.rd (i:=q+1) om;have o:=u.rd (i:=q) om;simp(disch:=omega)only[go_sem,n,a7,p,o];refine (dG u (i:=q+1) (j:=q) om om _ om).mono ?_;rintro _ h6 ⟨z,rfl,t,a9⟩;have f6:Fr h5 h6:=Fr.trans ((Fr.refl h5).bA om) a9;have A6:=u.fr f6;have F6:=dC F5 (Fx.of f6)
     cases hl:aN.lt x[q+1]! x[q]! with
     |false=>
      rw[aoK hl] at K;simp(disch:=omega)only[go_sem,t,hl];exact .inl ⟨x,aB rfl,A6,by rw[bF om,←K],F6⟩
     |true=>
      rw[GU hl] at K;have p:=A6.rd (i:=q+1) om;have o:=A6.rd (i:=q) om;simp(disch:=omega)only[go_sem,t,hl,a7,p,o,A6.get,bB,aY];have W:=A6.swap (i:=q+1) (j:=q) (nx:=h6.next+18) om rfl;exact⟨q,om,q,_,aB rfl,om,W.1,K,dC F6 W.2,rfl⟩
    ·have n:=bH h1
     obtain rfl:k=0:=om
     simp(disch:=omega)only[go_sem,n];have K:x=shiftDown aN.lt (m- 1) R:=K;exact .inl ⟨x,aB rfl,u,by rw[bF om,←K],F5⟩
   ·simp(disch:=omega)only[go_sem]
    exact .inl ⟨R,aB rfl,A4,by rw[bI om],y⟩
  ·rintro c h5 ⟨U,⟨g,rfl⟩,u,a2,F5⟩
   rw[←a2] at l;clear A4 y a2 a1;simp(disch:=omega)only[go_sem];have Q:(5:Int)-((s+1:Nat):Int)+1=5-(s:Int):=om
   refine aW (λw=>?_) (λw=>?_)
   ·rw[bF om] at l
    simp(disch:=omega)only[go_sem,a5];refine aH (λk c r=> ∃(j:Nat) (x:Array α),(∃g:Nat->V,c= [.sl S 0 N Z,aC a,aC b,.fn (aN.f α) [] [],g 4,aC m,aC (5-((s+1:Nat):Int)),g 7,aC j,g 9,g 10,g 11,g 12,g 13,g 14,g 15,g 16,g 17,g 18])/\0<j/\j<=b/\fD r S N x/\shiftUp aN.lt b j x=shiftUp aN.lt b (m+1) U/\Fx (· =S) h r/\k=b-j) (b-(m+1))
     ⟨m+1,U,aB rfl,om,om,u,rfl,F5,rfl⟩ ?_
    rintro k c h6 ⟨j,x,⟨g,rfl⟩,b8,hj,A6,Y,F6,rfl⟩;have b9:=A6.size
    by_cases h1:(j:Int)<(b:Int)
    ·have n:=oQ h1
     have a3:(j:Int)- 1=((j- 1:Nat):Int):=om
     have b1:(j:Int)+1=((j+1:Nat):Int):=om
     have p:=A6.rd (i:=j) om;have o:=A6.rd (i:=j- 1) om;simp(disch:=omega)only[go_sem,n,a3,p,o];refine (dG A6 (i:=j) (j:=j- 1) om om _ om).mono ?_;rintro _ h7 ⟨z,rfl,t,b0⟩;have f7:Fr h6 h7:=Fr.trans ((Fr.refl h6).bA om) b0;have A7:=A6.fr f7;have F7:=dC F6 (Fx.of f7)
     cases hl:aN.lt x[j]! x[j- 1]! with
     |false=>
      rw[FZ om hl] at Y;rw[←Y] at l;simp(disch:=omega)only[go_sem,t,hl,Q];exact⟨s,om,s,m,x,aB rfl,om,om,om,A7,l,F7,rfl⟩
     |true=>
      rw[EY om hl] at Y;have p:=A7.rd (i:=j) om;have o:=A7.rd (i:=j- 1) om;simp(disch:=omega)only[go_sem,t,hl,a3,b1,p,o,A7.get,bB,aY];have W:=A7.swap (i:=j) (j:=j- 1) (nx:=h7.next+18) om rfl;exact⟨b-(j+1),om,j+1,_,aB rfl,om,om,W.1,Y,dC F7 W.2,rfl⟩
    ·have n:=bH h1
     rw[shiftUp,bI om] at Y;rw[←Y] at l;simp(disch:=omega)only[go_sem,n,Q];exact⟨s,om,s,m,x,aB rfl,om,om,om,A6,l,F6,rfl⟩
   ·rw[bI om] at l
    simp(disch:=omega)only[go_sem,Q];exact⟨s,om,s,m,U,aB rfl,om,om,om,u,l,F5,rfl⟩
end
section
variable {j i:Nat}
theorem yY {α:Type}[Inhabited α]{p:α->Bool}{d:Array α}(a:i<=j)(h2:p d[i]! =true):scanUp p d j i=scanUp p d j (i+1):=by rw[scanUp,bF (by simp [a,h2])]
theorem qA {α:Type}[Inhabited α]{p:α->Bool}{d:Array α}(h: ¬(i<=j/\p d[i]! =true)):scanUp p d j i=i:=by rw[scanUp,bI (by simpa using h)]
theorem Dc {α:Type}[Inhabited α]{p:α->Bool}{d:Array α}(a:i<=j+1)(h2:p d[j+1]! =true):scanDown p d i (j+1)=scanDown p d i j:=by rw[scanDown,bF (by simp [a,h2])]
theorem oP {α:Type}[Inhabited α]{p:α->Bool}{d:Array α}(h: ¬(i<=j/\p d[j]! =true)):scanDown p d i j=j:=by
 cases j with
 |zero=>rfl
 |succ j=>rw[scanDown,bI (by simpa using h)]
theorem kW {α:Type}[Inhabited α](p:α->Bool)(d:Array α)(j i:Nat):scanUp p d j i<=max i (j+1):=by
 obtain⟨n,a⟩:=exI (j+1-i)
 induction n generalizing i with
 |zero=>rw[qA (λh=>by have:=h.1;omega)];omega
 |succ n ih=>
  by_cases h:i<=j/\p d[i]! =true
  ·rw[yY h.1 h.2]
   have:=ih (i+1) om;omega
  ·rw[qA h];omega
theorem pG {α:Type}[Inhabited α][O:aN α](h:H)(S N a b pv:Nat)(d:Array α)(cp:Kh)(hN:N<1000000)(A:fD h S N d)(hb:b<=N)(c0:a<=pv)(c4:pv<b):
  Ev T (aN.ρ α 254) [.sl S 0 N cp,aC a,aC b,aC pv,.fn (aN.f α) [] []] h (λv h'=>v= .tup [aC ((partition aN.lt d a b pv).1:Nat),.bool (partition aN.lt d a b pv).2.1]/\fD h' S N (partition aN.lt d a b pv).2.2/\Fx (· =S) h h'):=by
 refine Ko (aoX (α:=α) sP.ok (by decide)) rfl ?_
 have sz:=A.size
 have L:=A.rd (i:=a) om
 have K:=A.rd (i:=pv) om
 simp(disch:=omega)only[go_sem,sP,aD,L,K,A.get,bB,aY]
 have W:=A.swap (i:=a) (j:=pv) (nx:=h.next+16) om rfl
 obtain⟨h1,b4⟩: ∃h1,h1=((H.mk h.tr (h.next+16)).set S (aZ (flat (d.setIfInBounds a d[pv]!).toList))).set S (aZ (flat ((d.setIfInBounds a d[pv]!).setIfInBounds pv d[a]!).toList)):=⟨_,rfl⟩
 rw[←b4] at W ⊢
 obtain⟨A1,F1⟩:=W
 obtain⟨e,he⟩:=exI (swp d a pv)
 rw[he] at A1
 clear b4 L K A
 have eb:(b:Int)- 1=((b- 1:Nat):Int):=om
 have ea:(a:Int)+1=((a+1:Nat):Int):=om
 have hP:partition aN.lt d a b pv=if scanUp (λx=>aN.lt x e[a]!) e (b- 1) (a+1)>scanDown (λx=>!aN.lt x e[a]!) e (scanUp (λx=>aN.lt x e[a]!) e (b- 1) (a+1)) (b- 1) then
   (scanDown (λx=>!aN.lt x e[a]!) e (scanUp (λx=>aN.lt x e[a]!) e (b- 1) (a+1)) (b- 1),true,swp e (scanDown (λx=>!aN.lt x e[a]!) e (scanUp (λx=>aN.lt x e[a]!) e (b- 1) (a+1)) (b- 1)) a) else
   ((partLoop aN.lt a (scanUp (λx=>aN.lt x e[a]!) e (b- 1) (a+1)+1) (scanDown (λx=>!aN.lt x e[a]!) e (scanUp (λx=>aN.lt x e[a]!) e (b- 1) (a+1)) (b- 1)- 1) (swp e (scanUp (λx=>aN.lt x e[a]!) e (b- 1) (a+1)) (scanDown (λx=>!aN.lt x e[a]!) e (scanUp (λx=>aN.lt x e[a]!) e (b- 1) (a+1)) (b- 1)))).1,false,
    swp (partLoop aN.lt a (scanUp (λx=>aN.lt x e[a]!) e (b- 1) (a+1)+1) (scanDown (λx=>!aN.lt x e[a]!) e (scanUp (λx=>aN.lt x e[a]!) e (b- 1) (a+1)) (b- 1)- 1) (swp e (scanUp (λx=>aN.lt x e[a]!) e (b- 1) (a+1)) (scanDown (λx=>!aN.lt x e[a]!) e (scanUp (λx=>aN.lt x e[a]!) e (b- 1) (a+1)) (b- 1)))).2 (partLoop aN.lt a (scanUp (λx=>aN.lt x e[a]!) e (b- 1) (a+1)+1) (scanDown (λx=>!aN.lt x e[a]!) e (scanUp (λx=>aN.lt x e[a]!) e (b- 1) (a+1)) (b- 1)- 1) (swp e (scanUp (λx=>aN.lt x e[a]!) e (b- 1) (a+1)) (scanDown (λx=>!aN.lt x e[a]!) e (scanUp (λx=>aN.lt x e[a]!) e (b- 1) (a+1)) (b- 1)))).1 a):=by
  rw[←he];rfl
 obtain⟨R,a9⟩:=exI (partition aN.lt d a b pv)
 rw[a9] at hP
 rw[a9]
 simp(disch:=omega)only[go_sem,ea,eb]
 refine bJ (λQ c=>(∃g:Nat->V,Q= [.sl S 0 N cp,aC a,aC b,aC pv,.fn (aN.f α) [] [],g 5,g 6,aC (scanUp (λx=>aN.lt x e[a]!) e (b- 1) (a+1):Nat),aC ((b- 1):Nat),g 9,g 10,g 11,g 12,g 13,g 14])/\fD c S N e/\Fx (· =S) h c) ?_ ?_
 ·refine aH (λJ Q c=> ∃(k:Nat),(∃g:Nat->V,Q= [.sl S 0 N cp,aC a,aC b,aC pv,.fn (aN.f α) [] [],g 5,g 6,aC (k:Nat),aC ((b- 1):Nat),g 9,g 10,g 11,g 12,g 13,g 14])/\(a+1)<=k/\k<=N+2/\fD c S N e/\scanUp (λx=>aN.lt x e[a]!) e (b- 1) k=scanUp (λx=>aN.lt x e[a]!) e (b- 1) (a+1)/\Fx (· =S) h c/\J=(b- 1)+1-k) ((b- 1)+1-(a+1))
   ⟨(a+1),aB rfl,om,om,A1,rfl,F1,rfl⟩ ?_
  rintro J n P ⟨k,⟨g,rfl⟩,a8,b6,p,o,Fs,rfl⟩
  by_cases l:(k:Int)<=(((b- 1):Nat):Int)
  ·have s:decide ((k:Int)<=(((b- 1):Nat):Int))=true:=oQ l
   have eK:(k:Int)+1=((k+1:Nat):Int):=om
   have a7:=p.size
   have L:=p.rd (i:=k) om
   have K:=p.rd (i:=a) om
   simp(disch:=omega)only[go_sem,s,L,K]
   refine (dG p (i:=k) (j:=a) om om _ om).mono ?_
   rintro _ U ⟨z,rfl,Z,t⟩
   have F:Fr P U:=Fr.trans ((Fr.refl P).bA om) t
   have y:=p.fr F
   have B:=dC Fs (Fx.of F)
   cases hl:aN.lt e[k]! e[a]! with
   |false=>
    rw[qA (λc=>by have:=c.2;simp [hl] at this)] at o;simp(disch:=omega)only[go_sem,Z,hl];exact⟨by rw[←o];exact aB rfl,y,B⟩
   |true=>
    rw[yY om (by simp [hl])] at o;simp(disch:=omega)only[go_sem,Z,hl,eK];exact⟨(b- 1)+1-(k+1),om,k+1,aB rfl,om,om,y,o,B,rfl⟩
  ·have s:decide ((k:Int)<=(((b- 1):Nat):Int))=false:=bH l
   rw[qA (λc=>l (by have:=c.1;omega))] at o
   simp(disch:=omega)only[go_sem,s]
   exact⟨by rw[←o];exact aB rfl,p.fr ((Fr.refl P).bA om),dC Fs (Fx.of ((Fr.refl P).bA om))⟩
 ·rintro n h9 ⟨⟨g,rfl⟩,A9,F9⟩
  have a5:=scanUp_ge (λx=>aN.lt x e[a]!) e (b- 1) (a+1)
  have a3:=kW (λx=>aN.lt x e[a]!) e (b- 1) (a+1)
  obtain⟨q,a1⟩: ∃x,scanUp (λx=>aN.lt x e[a]!) e (b- 1) (a+1)=x:=⟨_,rfl⟩
  rw[a1] at a5 a3
  rw[a1]
  simp(disch:=omega)only[go_sem]
  refine bJ (λQ c=>(∃g:Nat->V,Q= [.sl S 0 N cp,aC a,aC b,aC pv,.fn (aN.f α) [] [],g 5,g 6,aC (q:Nat),aC (scanDown (λx=>!aN.lt x e[a]!) e q (b- 1):Nat),g 9,g 10,g 11,g 12,g 13,g 14])/\fD c S N e/\Fx (· =S) h c) ?_ ?_
  ·refine aH (λJ Q c=> ∃(k:Nat),(∃g:Nat->V,Q= [.sl S 0 N cp,aC a,aC b,aC pv,.fn (aN.f α) [] [],g 5,g 6,aC (q:Nat),aC (k:Nat),g 9,g 10,g 11,g 12,g 13,g 14])/\k<=(b- 1)/\fD c S N e/\scanDown (λx=>!aN.lt x e[a]!) e q k=scanDown (λx=>!aN.lt x e[a]!) e q (b- 1)/\Fx (· =S) h c/\J=k) (b- 1)
    ⟨(b- 1),aB rfl,om,A9,rfl,F9,rfl⟩ ?_
   rintro J n P ⟨k,⟨g,rfl⟩,a8,p,o,Fs,a6⟩
   subst a6
   by_cases l:((q:Nat):Int)<=(J:Int)
   ·have s:=oQ l
    obtain⟨k,rfl⟩: ∃k,J=k+1:=⟨J- 1,om⟩
    have eK:((k+1:Nat):Int)- 1=(k:Int):=om
    have a7:=p.size
    have L:=p.rd (i:=k+1) om
    have K:=p.rd (i:=a) om
    simp(disch:=omega)only[go_sem,s,L,K]
    refine (dG p (i:=k+1) (j:=a) om om _ om).mono ?_
    rintro _ U ⟨z,rfl,Z,t⟩
    have F:Fr P U:=Fr.trans ((Fr.refl P).bA om) t
    have y:=p.fr F
    have B:=dC Fs (Fx.of F)
    cases hl:aN.lt e[k+1]! e[a]! with
    |true=>
     rw[oP (λc=>by have:=c.2;simp [hl] at this)] at o;simp(disch:=omega)only[go_sem,Z,hl];exact⟨by rw[←o];exact aB rfl,y,B⟩
    |false=>
     rw[Dc om (by simp [hl])] at o;simp(disch:=omega)only[go_sem,Z,hl,eK];exact⟨k,om,k,aB rfl,om,y,o,B,rfl⟩
   ·have s:=bH l
    rw[oP (λc=>l (by have:=c.1;omega))] at o
    simp(disch:=omega)only[go_sem,s]
    exact⟨by rw[←o];exact aB rfl,p.fr ((Fr.refl P).bA om),dC Fs (Fx.of ((Fr.refl P).bA om))⟩
  ·rintro n h2 ⟨⟨g,rfl⟩,A2,F2⟩
   have a4:=scanDown_le (λx=>!aN.lt x e[a]!) e q (b- 1)
   obtain⟨G,a2⟩: ∃x,scanDown (λx=>!aN.lt x e[a]!) e q (b- 1)=x:=⟨_,rfl⟩
   rw[a2] at a4
   rw[a2]
   rw[a1,a2] at hP
   have b7:=A2.size
   by_cases Y:(G:Int)<(q:Int)
   ·have s:=oQ Y
    rw[bF om] at hP
    have L:=A2.rd (i:=G) om
    have K:=A2.rd (i:=a) om
    simp(disch:=omega)only[go_sem,s,L,K,A2.get,bB,aY]
    have W:=A2.swap (i:=G) (j:=a) (nx:=h2.next+16) om rfl
    rw[hP]
    exact⟨rfl,W.1,dC F2 W.2⟩
   have s:=bH Y
   rw[bI om] at hP
   have L:=A2.rd (i:=q) om
   have K:=A2.rd (i:=G) om
   simp(disch:=omega)only[go_sem,s,L,K,A2.get,bB,aY]
   have W:=A2.swap (i:=q) (j:=G) (nx:=h2.next+16) om rfl
   obtain⟨h3,b0⟩: ∃h3,h3=((H.mk h2.tr (h2.next+16)).set S (aZ (flat (e.setIfInBounds q e[G]!).toList))).set S (aZ (flat ((e.setIfInBounds q e[G]!).setIfInBounds G e[q]!).toList)):=⟨_,rfl⟩
   rw[←b0] at W ⊢
   obtain⟨A3,b1⟩:=W
   have F3:=dC F2 b1
   have b3:q<=G:=om
   obtain⟨e0,b2⟩:=exI (swp e q G)
   rw[b2] at A3 hP
   clear b0 L K A2 A9 F9 A1 F1 he Y s
   have ei:(q:Int)+1=((q+1:Nat):Int):=om
   have ej:(G:Int)- 1=((G- 1:Nat):Int):=om
   simp(disch:=omega)only[go_sem,ei,ej]
   refine bJ (λQ c=>(∃g:Nat->V,Q= [.sl S 0 N cp,aC a,aC b,aC pv,.fn (aN.f α) [] [],g 5,g 6,g 7,aC (((partLoop aN.lt a (q+1) (G- 1) e0).1:Nat):Int),g 9,g 10,g 11,g 12,g 13,g 14])/\fD c S N (partLoop aN.lt a (q+1) (G- 1) e0).2/\(partLoop aN.lt a (q+1) (G- 1) e0).1<b/\Fx (· =S) h c) ?_ ?_
   ·refine aH (λJ Q c=> ∃(i j:Nat) (e:Array α),(∃g:Nat->V,Q= [.sl S 0 N cp,aC a,aC b,aC pv,.fn (aN.f α) [] [],g 5,g 6,aC i,aC j,g 9,g 10,g 11,g 12,g 13,g 14])/\a<i/\i<=b+1/\j<b/\fD c S N e/\partLoop aN.lt a i j e=partLoop aN.lt a (q+1) (G- 1) e0/\Fx (· =S) h c/\J=j) (G- 1)
     ⟨q+1,G- 1,e0,aB rfl,om,om,om,A3,rfl,F3,rfl⟩ ?_
    obtain⟨R2,b5⟩:=exI (partLoop aN.lt a (q+1) (G- 1) e0)
    rw[b5]
    clear hP b5 a1 a2 b2 ei ej a4 a5 a3 F3 b1 A3 b7 h3 b3
    clear q G
    rintro J n h3 ⟨i,j,e,⟨g,rfl⟩,c3,a1,hj,A3,hL,F3,a6⟩
    rw[partLoop_eq] at hL
    simp(disch:=omega)only[go_sem]
    refine bJ (λQ c=>(∃g:Nat->V,Q= [.sl S 0 N cp,aC a,aC b,aC pv,.fn (aN.f α) [] [],g 5,g 6,aC (scanUp (λx=>aN.lt x e[a]!) e j i:Nat),aC (j:Nat),g 9,g 10,g 11,g 12,g 13,g 14])/\fD c S N e/\Fx (· =S) h c) ?_ ?_
    ·refine aH (λJ Q c=> ∃(k:Nat),(∃g:Nat->V,Q= [.sl S 0 N cp,aC a,aC b,aC pv,.fn (aN.f α) [] [],g 5,g 6,aC (k:Nat),aC (j:Nat),g 9,g 10,g 11,g 12,g 13,g 14])/\i<=k/\k<=N+2/\fD c S N e/\scanUp (λx=>aN.lt x e[a]!) e j k=scanUp (λx=>aN.lt x e[a]!) e j i/\Fx (· =S) h c/\J=j+1-k) (j+1-i)
      ⟨i,aB rfl,om,om,A3,rfl,F3,rfl⟩ ?_
     rintro J n P ⟨k,⟨g,rfl⟩,a8,b6,p,o,Fs,rfl⟩
     by_cases l:(k:Int)<=((j:Nat):Int)
     ·have s:=oQ l
      have eK:(k:Int)+1=((k+1:Nat):Int):=om
      have a7:=p.size
      have L:=p.rd (i:=k) om
      have K:=p.rd (i:=a) om
      simp(disch:=omega)only[go_sem,s,L,K]
      refine (dG p (i:=k) (j:=a) om om _ om).mono ?_
      rintro _ U ⟨z,rfl,Z,t⟩
      have F:Fr P U:=Fr.trans ((Fr.refl P).bA om) t
      have y:=p.fr F
      have B:=dC Fs (Fx.of F)
      cases hl:aN.lt e[k]! e[a]! with
      |false=>
       rw[qA (λc=>by have:=c.2;simp [hl] at this)] at o;simp(disch:=omega)only[go_sem,Z,hl];exact⟨by rw[←o];exact aB rfl,y,B⟩
      |true=>
       rw[yY om (by simp [hl])] at o;simp(disch:=omega)only[go_sem,Z,hl,eK];exact⟨j+1-(k+1),om,k+1,aB rfl,om,om,y,o,B,rfl⟩
     ·have s:=bH l
      rw[qA (λc=>l (by have:=c.1;omega))] at o
      simp(disch:=omega)only[go_sem,s]
      exact⟨by rw[←o];exact aB rfl,p.fr ((Fr.refl P).bA om),dC Fs (Fx.of ((Fr.refl P).bA om))⟩
    ·rintro n h9 ⟨⟨g,rfl⟩,A9,F9⟩
     have a5:=scanUp_ge (λx=>aN.lt x e[a]!) e j i
     have a3:=kW (λx=>aN.lt x e[a]!) e j i
     obtain⟨u,hu⟩: ∃x,scanUp (λx=>aN.lt x e[a]!) e j i=x:=⟨_,rfl⟩
     rw[hu] at a5 a3
     rw[hu]
     simp(disch:=omega)only[go_sem]
     refine bJ (λQ c=>(∃g:Nat->V,Q= [.sl S 0 N cp,aC a,aC b,aC pv,.fn (aN.f α) [] [],g 5,g 6,aC (u:Nat),aC (scanDown (λx=>!aN.lt x e[a]!) e u j:Nat),g 9,g 10,g 11,g 12,g 13,g 14])/\fD c S N e/\Fx (· =S) h c) ?_ ?_
     ·refine aH (λJ Q c=> ∃(k:Nat),(∃g:Nat->V,Q= [.sl S 0 N cp,aC a,aC b,aC pv,.fn (aN.f α) [] [],g 5,g 6,aC (u:Nat),aC (k:Nat),g 9,g 10,g 11,g 12,g 13,g 14])/\k<=j/\fD c S N e/\scanDown (λx=>!aN.lt x e[a]!) e u k=scanDown (λx=>!aN.lt x e[a]!) e u j/\Fx (· =S) h c/\J=k) j
       ⟨j,aB rfl,om,A9,rfl,F9,rfl⟩ ?_
      rintro J n P ⟨k,⟨g,rfl⟩,a8,p,o,Fs,a6⟩
      subst a6
      by_cases l:((u:Nat):Int)<=(J:Int)
      ·have s:=oQ l
       obtain⟨k,rfl⟩: ∃k,J=k+1:=⟨J- 1,om⟩
       have eK:((k+1:Nat):Int)- 1=(k:Int):=om
       have a7:=p.size
       have L:=p.rd (i:=k+1) om
       have K:=p.rd (i:=a) om
       simp(disch:=omega)only[go_sem,s,L,K]
       refine (dG p (i:=k+1) (j:=a) om om _ om).mono ?_
       rintro _ U ⟨z,rfl,Z,t⟩
       have F:Fr P U:=Fr.trans ((Fr.refl P).bA om) t
       have y:=p.fr F
       have B:=dC Fs (Fx.of F)
       cases hl:aN.lt e[k+1]! e[a]! with
       |true=>
        rw[oP (λc=>by have:=c.2;simp [hl] at this)] at o;simp(disch:=omega)only[go_sem,Z,hl];exact⟨by rw[←o];exact aB rfl,y,B⟩
       |false=>
        rw[Dc om (by simp [hl])] at o;simp(disch:=omega)only[go_sem,Z,hl,eK];exact⟨k,om,k,aB rfl,om,y,o,B,rfl⟩
      ·have s:=bH l
       rw[oP (λc=>l (by have:=c.1;omega))] at o
       simp(disch:=omega)only[go_sem,s]
       exact⟨by rw[←o];exact aB rfl,p.fr ((Fr.refl P).bA om),dC Fs (Fx.of ((Fr.refl P).bA om))⟩
     ·rintro n h4 ⟨⟨g,rfl⟩,A4,F4⟩
      have a4:=scanDown_le (λx=>!aN.lt x e[a]!) e u j
      obtain⟨w,hw⟩: ∃x,scanDown (λx=>!aN.lt x e[a]!) e u j=x:=⟨_,rfl⟩
      rw[hw] at a4
      rw[hw]
      rw[hu,hw] at hL
      have b8:=A4.size
      by_cases Y:(w:Int)<(u:Int)
      ·have s:=oQ Y
       rw[bF om] at hL
       simp(disch:=omega)only[go_sem,s]
       rw[←hL]
       exact⟨aB rfl,A4,om,F4⟩
      have s:=bH Y
      rw[bI om] at hL
      have L:=A4.rd (i:=u) om
      have K:=A4.rd (i:=w) om
      have ei:(u:Int)+1=((u+1:Nat):Int):=om
      have ej:(w:Int)- 1=((w- 1:Nat):Int):=om
      simp(disch:=omega)only[go_sem,s,L,K,A4.get,bB,aY,ei,ej]
      have W:=A4.swap (i:=u) (j:=w) (nx:=h4.next+16) om rfl
      exact⟨w- 1,om,u+1,w- 1,_,aB rfl,om,om,om,W.1,hL,dC F4 W.2,rfl⟩
   ·rintro n h5 ⟨⟨g,rfl⟩,A5,a0,F5⟩
    generalize partLoop aN.lt a (q+1) (G- 1) e0=r at hP A5 a0
    obtain⟨m,e5⟩:=r
    have a0:m<b:=a0
    have A5:fD h5 S N e5:=A5
    have b9:=A5.size
    have L:=A5.rd (i:=m) om
    have K:=A5.rd (i:=a) om
    simp(disch:=omega)only[go_sem,L,K,A5.get,bB,aY]
    have W:=A5.swap (i:=m) (j:=a) (nx:=h5.next+16) om rfl
    rw[hP]
    exact⟨rfl,W.1,dC F5 W.2⟩
theorem xB {α:Type}[Inhabited α][O:aN α](h:H)(S N a b pv:Nat)(d:Array α)(K:Kh)(hN:N<1000000)(A:fD h S N d)(hb:b<=N)(a9:a<=pv)(b2:pv<b):
  Ev T (aN.ρ α 253) [.sl S 0 N K,aC a,aC b,aC pv,.fn (aN.f α) [] []] h (λv h'=>v= aC ((partitionEqual aN.lt d a b pv).1:Nat)/\fD h' S N (partitionEqual aN.lt d a b pv).2/\Fx (· =S) h h'):=by
 refine Ko (aoX (α:=α) sV.ok (by decide)) rfl ?_
 have sz:=A.size
 have J:=A.rd (i:=a) om
 have G:=A.rd (i:=pv) om
 simp(disch:=omega)only[go_sem,sV,aD,J,G,A.get,bB,aY]
 have W:=A.swap (i:=a) (j:=pv) (nx:=h.next+16) om rfl
 obtain⟨h1,Y⟩: ∃h1,h1=((H.mk h.tr (h.next+16)).set S (aZ (flat (d.setIfInBounds a d[pv]!).toList))).set S (aZ (flat ((d.setIfInBounds a d[pv]!).setIfInBounds pv d[a]!).toList)):=⟨_,rfl⟩
 rw[←Y] at W ⊢
 obtain⟨A1,F1⟩:=W
 have eb:(b:Int)- 1=((b- 1:Nat):Int):=om
 have ea:(a:Int)+1=((a+1:Nat):Int):=om
 unfold partitionEqual
 obtain⟨P,he⟩: ∃e,swp d a pv=e:=⟨_,rfl⟩
 rw[he] at A1 ⊢
 clear Y J G A
 simp(disch:=omega)only[go_sem,ea,eb]
 refine bJ (λy c=>(∃g:Nat->V,y= [.sl S 0 N K,aC a,aC b,aC pv,.fn (aN.f α) [] [],g 5,aC (((partEqLoop aN.lt a (a+1) (b- 1) P).1:Nat):Int),g 7,g 8,g 9,g 10])/\fD c S N (partEqLoop aN.lt a (a+1) (b- 1) P).2/\Fx (· =S) h c) ?_ ?_
 ·refine aH (λt y c=> ∃(i j:Nat) (e:Array α),(∃g:Nat->V,y= [.sl S 0 N K,aC a,aC b,aC pv,.fn (aN.f α) [] [],g 5,aC i,aC j,g 8,g 9,g 10])/\a<i/\i<=b+1/\j<b/\fD c S N e/\partEqLoop aN.lt a i j e=partEqLoop aN.lt a (a+1) (b- 1) P/\Fx (· =S) h c/\t=j) (b- 1)
   ⟨a+1,b- 1,P,aB rfl,om,om,om,A1,rfl,F1,rfl⟩ ?_
  obtain⟨R2,Z⟩:=exI (partEqLoop aN.lt a (a+1) (b- 1) P)
  rw[Z]
  clear Z F1 A1 h1 he P
  rintro t l h3 ⟨i,j,e,⟨g,rfl⟩,b1,b0,hj,A3,Q,F3,a0⟩
  rw[partEqLoop_eq] at Q
  simp(disch:=omega)only[go_sem]
  refine bJ (λy c=>(∃g:Nat->V,y= [.sl S 0 N K,aC a,aC b,aC pv,.fn (aN.f α) [] [],g 5,aC (scanUp (λx=>!aN.lt e[a]! x) e j i:Nat),aC (j:Nat),g 8,g 9,g 10])/\fD c S N e/\Fx (· =S) h c) ?_ ?_
  ·refine aH (λt y c=> ∃(k:Nat),(∃g:Nat->V,y= [.sl S 0 N K,aC a,aC b,aC pv,.fn (aN.f α) [] [],g 5,aC (k:Nat),aC (j:Nat),g 8,g 9,g 10])/\i<=k/\k<=N+2/\fD c S N e/\scanUp (λx=>!aN.lt e[a]! x) e j k=scanUp (λx=>!aN.lt e[a]! x) e j i/\Fx (· =S) h c/\t=j+1-k) (j+1-i)
    ⟨i,aB rfl,om,om,A3,rfl,F3,rfl⟩ ?_
   rintro t l F ⟨k,⟨g,rfl⟩,a6,a7,o,n,U,rfl⟩
   by_cases m:(k:Int)<=((j:Nat):Int)
   ·have q:=oQ m
    have eK:(k:Int)+1=((k+1:Nat):Int):=om
    have a4:=o.size
    have J:=o.rd (i:=k) om
    have G:=o.rd (i:=a) om
    simp(disch:=omega)only[go_sem,q,J,G]
    refine (dG o (i:=a) (j:=k) om om _ om).mono ?_
    rintro _ L ⟨z,rfl,R,p⟩
    have B:Fr F L:=Fr.trans ((Fr.refl F).bA om) p
    have r:=o.fr B
    have s:=dC U (Fx.of B)
    cases hl:aN.lt e[a]! e[k]! with
    |true=>
     rw[qA (λc=>by have:=c.2;simp [hl] at this)] at n;simp(disch:=omega)only[go_sem,R,hl];exact⟨by rw[←n];exact aB rfl,r,s⟩
    |false=>
     rw[yY om (by simp [hl])] at n;simp(disch:=omega)only[go_sem,R,hl,eK];exact⟨j+1-(k+1),om,k+1,aB rfl,om,om,r,n,s,rfl⟩
   ·have q:=bH m
    rw[qA (λc=>m (by have:=c.1;omega))] at n
    simp(disch:=omega)only[go_sem,q]
    exact⟨by rw[←n];exact aB rfl,o.fr ((Fr.refl F).bA om),dC U (Fx.of ((Fr.refl F).bA om))⟩
  ·rintro l h9 ⟨⟨g,rfl⟩,A9,F9⟩
   have a5:=scanUp_ge (λx=>!aN.lt e[a]! x) e j i
   have a2:=kW (λx=>!aN.lt e[a]! x) e j i
   obtain⟨u,hu⟩: ∃x,scanUp (λx=>!aN.lt e[a]! x) e j i=x:=⟨_,rfl⟩
   rw[hu] at a5 a2
   rw[hu]
   simp(disch:=omega)only[go_sem]
   refine bJ (λy c=>(∃g:Nat->V,y= [.sl S 0 N K,aC a,aC b,aC pv,.fn (aN.f α) [] [],g 5,aC (u:Nat),aC (scanDown (λx=>aN.lt e[a]! x) e u j:Nat),g 8,g 9,g 10])/\fD c S N e/\Fx (· =S) h c) ?_ ?_
   ·refine aH (λt y c=> ∃(k:Nat),(∃g:Nat->V,y= [.sl S 0 N K,aC a,aC b,aC pv,.fn (aN.f α) [] [],g 5,aC (u:Nat),aC (k:Nat),g 8,g 9,g 10])/\k<=j/\fD c S N e/\scanDown (λx=>aN.lt e[a]! x) e u k=scanDown (λx=>aN.lt e[a]! x) e u j/\Fx (· =S) h c/\t=k) j
     ⟨j,aB rfl,om,A9,rfl,F9,rfl⟩ ?_
    rintro t l F ⟨k,⟨g,rfl⟩,a6,o,n,U,a0⟩
    subst a0
    by_cases m:((u:Nat):Int)<=(t:Int)
    ·have q:=oQ m
     obtain⟨k,rfl⟩: ∃k,t=k+1:=⟨t- 1,om⟩
     have eK:((k+1:Nat):Int)- 1=(k:Int):=om
     have a4:=o.size
     have J:=o.rd (i:=k+1) om
     have G:=o.rd (i:=a) om
     simp(disch:=omega)only[go_sem,q,J,G]
     refine (dG o (i:=a) (j:=k+1) om om _ om).mono ?_
     rintro _ L ⟨z,rfl,R,p⟩
     have B:Fr F L:=Fr.trans ((Fr.refl F).bA om) p
     have r:=o.fr B
     have s:=dC U (Fx.of B)
     cases hl:aN.lt e[a]! e[k+1]! with
     |false=>
      rw[oP (λc=>by have:=c.2;simp [hl] at this)] at n;simp(disch:=omega)only[go_sem,R,hl];exact⟨by rw[←n];exact aB rfl,r,s⟩
     |true=>
      rw[Dc om (by simp [hl])] at n;simp(disch:=omega)only[go_sem,R,hl,eK];exact⟨k,om,k,aB rfl,om,r,n,s,rfl⟩
    ·have q:=bH m
     rw[oP (λc=>m (by have:=c.1;omega))] at n
     simp(disch:=omega)only[go_sem,q]
     exact⟨by rw[←n];exact aB rfl,o.fr ((Fr.refl F).bA om),dC U (Fx.of ((Fr.refl F).bA om))⟩
   ·rintro l h4 ⟨⟨g,rfl⟩,A4,F4⟩
    have a3:=scanDown_le (λx=>aN.lt e[a]! x) e u j
    obtain⟨w,hw⟩: ∃x,scanDown (λx=>aN.lt e[a]! x) e u j=x:=⟨_,rfl⟩
    rw[hw] at a3
    rw[hw]
    rw[hu,hw] at Q
    have a8:=A4.size
    by_cases a1:(w:Int)<(u:Int)
    ·have q:=oQ a1
     rw[bF om] at Q
     simp(disch:=omega)only[go_sem,q]
     rw[←Q]
     exact⟨aB rfl,A4,F4⟩
    have q:=bH a1
    rw[bI om] at Q
    have J:=A4.rd (i:=u) om
    have G:=A4.rd (i:=w) om
    have ei:(u:Int)+1=((u+1:Nat):Int):=om
    have ej:(w:Int)- 1=((w- 1:Nat):Int):=om
    simp(disch:=omega)only[go_sem,q,J,G,A4.get,bB,aY,ei,ej]
    have W:=A4.swap (i:=u) (j:=w) (nx:=h4.next+16) om rfl
    exact⟨w- 1,om,u+1,w- 1,_,aB rfl,om,om,om,W.1,Q,dC F4 W.2,rfl⟩
 ·rintro l h5 ⟨⟨g,rfl⟩,A5,F5⟩
  simp(disch:=omega)only[go_sem]
  exact⟨A5,F5⟩
end
def My  {α:Type}[Inhabited α][O:aN α](n:Nat):Prop:= ∀(h:H) (S N a b:Nat) (lim:Int) (d:Array α) (cp:Kh),N<60000->fD h S N d->a<=b->b<=N->b-a<=n->0<=lim->lim<1000000->Below aN.lt a b d->
 Ev T (aN.ρ α 227) [.sl S 0 N cp,aC a,aC b,aC lim,.fn (aN.f α) [] []] h (λ_ h'=> ∃e,fD h' S N e/\PermIn a b d e/\SortedIn aN.lt a b e/\Fx (· =S) h h')
theorem Pg  {α:Type}[Inhabited α][O:aN α](n:Nat)(ih: ∀m,m<n->My (α:=α) m):My (α:=α) n:=by
 intro h S N a b a7 d s hN A a5 a9 hn u w hB;refine Ko (aoX (α:=α) iA.ok (by decide)) rfl ?_;simp(disch:=omega)only[go_sem,iA,aD]
 refine aH (λk' y Y=> ∃(c l:Nat) (l':Int) (Q wp:Bool) (e:Array α),(∃g:Nat->V,y= [.sl S 0 N s,aC (c:Int),aC (l:Int),aC l',.fn (aN.f α) [] [],.bool Q,.bool wp,g 7,g 8,g 9,g 10,g 11,g 12,g 13,g 14,g 15,g 16,g 17,g 18,g 19,g 20,g 21,g 22,g 23])/\c<=l/\l<=N/\a<=c/\l<=b/\0<=l'/\l'<1000000/\Below aN.lt c l e/\fD Y S N e/\Fx (· =S) h Y/\
   (∀R,PermIn c l e R->SortedIn aN.lt c l R->PermIn a b d R/\SortedIn aN.lt a b R)/\k'=l-c) (b-a)
  ⟨a,b,a7,true,true,d,aB rfl,a5,a9,fM _,fM _,u,w,hB,A,Fx.refl _ h,λR h1 h2=>⟨h1,h2⟩,rfl⟩ ?_
 clear A hB u w;rintro k' y h1 ⟨c,l,l',Q,wp,e,⟨g,rfl⟩,B,o,b0,a3,u,w,hB,A,F,K,rfl⟩;obtain⟨m,hm⟩:=exI (l-c);have em:(l:Int)-(c:Int)=(m:Int):=om
 have ez: ∀{x:Array α} {hx:H},fD hx S N x->l<=x.size:=λA=>by rw[A.size];exact o
 by_cases a4:(m:Int)<=12
 ·have Z:=oQ a4
  simp(disch:=omega)only[go_sem,em,Z];refine (oW h1 S N c l e s om A o B).mono ?_;rintro _ h2 ⟨A2,F2⟩;obtain⟨p1,p2⟩:=insertionSort_holds (aN.swo (α:=α)) e c l B (ez A);obtain⟨q1,q2⟩:=K _ p1 p2;simp(disch:=omega)only[go_sem];exact⟨_,A2,q1,q2,dC F F2⟩
 have Z:=bH a4
 by_cases hl:l'=0
 ·have J:=oQ hl
  simp(disch:=omega)only[go_sem,em,Z,J];refine (qZ h1 S N c l e s om A o B).mono ?_;rintro _ h2 ⟨A2,F2⟩;obtain⟨p1,p2⟩:=heapSort_holds (aN.swo (α:=α)) e c l B (ez A);obtain⟨q1,q2⟩:=K _ p1 p2;simp(disch:=omega)only[go_sem];exact⟨_,A2,q1,q2,dC F F2⟩
 have J:=bH hl;simp(disch:=omega)only[go_sem,em,Z,J];refine jT (λvs Y=> ∃(J:Array α) (G:Int) (g:Nat->V),vs= [.sl S 0 N s,aC (c:Int),aC (l:Int),aC G,.fn (aN.f α) [] [],.bool Q,.bool wp,aC m,g 8,g 9,g 10,g 11,g 12,g 13,g 14,g 15,g 16,g 17,g 18,g 19,g 20,g 21,g 22,g 23]/\0<=G/\G<1000000/\fD Y S N J/\PermIn c l e J/\Fx (· =S) h Y) ?_ ?_
 ·cases Q with
  |true=>
   simp(disch:=omega)only[go_sem];exact .inl ⟨e,l',_,(aB rfl: ∃g:Nat->V,_= [.sl S 0 N s,aC (c:Int),aC (l:Int),aC l',.fn (aN.f α) [] [],.bool true,.bool wp,aC m,g 8,g 9,g 10,g 11,g 12,g 13,g 14,g 15,g 16,g 17,g 18,g 19,g 20,g 21,g 22,g 23]).choose_spec,u,w,A,permIn_refl e c l,F⟩
  |false=>
   simp(disch:=omega)only[go_sem];refine (Ba h1 S N c l e s hN A o B).mono ?_;rintro _ h2 ⟨J,A2,p2,F2⟩;simp(disch:=omega)only[go_sem];exact .inl ⟨J,l'- 1,_,(aB rfl: ∃g:Nat->V,_= [.sl S 0 N s,aC (c:Int),aC (l:Int),aC (l'- 1),.fn (aN.f α) [] [],.bool false,.bool wp,aC m,g 8,g 9,g 10,g 11,g 12,g 13,g 14,g 15,g 16,g 17,g 18,g 19,g 20,g 21,g 22,g 23]).choose_spec,om,om,A2,p2,dC F F2⟩
 clear A F u w hl J g;rintro y h2 ⟨J,G,g,rfl,u,w,A,P2,F⟩;have B2:=hB.perm (by rw[←P2.1];exact ez A) P2;simp(disch:=omega)only[go_sem];refine (Ar h2 S N c l J s om A o om).mono ?_;rintro _ h3 ⟨p,t,rfl,U,W,f3⟩;have A3:=A.fr f3;have F3:=dC F (Fx.of f3);clear A F;simp(disch:=omega)only[go_sem];refine jT (λvs Y=> ∃(e3:Array α) (p2:Nat) (t2:Int) (g:Nat->V),vs= [.sl S 0 N s,aC (c:Int),aC (l:Int),aC G,.fn (aN.f α) [] [],.bool Q,.bool wp,aC m,aC p2,aC t2,g 10,g 11,g 12,g 13,g 14,g 15,g 16,g 17,g 18,g 19,g 20,g 21,g 22,g 23]/\c<=p2/\p2<l/\fD Y S N e3/\PermIn c l J e3/\Fx (· =S) h Y) ?_ ?_
 ·refine aW (λht=>?_) (λht=>?_)
  ·simp(disch:=omega)only[go_sem]
   refine (tZ h3 S N c l J s om A3 o om).mono ?_;rintro _ h4 ⟨A4,F4⟩;have e5:(l:Int)- 1-((p:Int)-(c:Int))=(((l- 1)-(p-c):Nat):Int):=om
   simp(disch:=omega)only[go_sem,e5];exact .inl ⟨_,(l- 1)-(p-c),1,_,(aB rfl: ∃g:Nat->V,_= [.sl S 0 N s,aC (c:Int),aC (l:Int),aC G,.fn (aN.f α) [] [],.bool Q,.bool wp,aC m,aC ((l- 1)-(p-c):Nat),aC 1,g 10,g 11,g 12,g 13,g 14,g 15,g 16,g 17,g 18,g 19,g 20,g 21,g 22,g 23]).choose_spec,om,om,A4,reverseRange_holds J c l B (ez A3),dC F3 F4⟩
  ·simp(disch:=omega)only[go_sem]
   exact .inl ⟨J,p,t,_,(aB rfl: ∃g:Nat->V,_= [.sl S 0 N s,aC (c:Int),aC (l:Int),aC G,.fn (aN.f α) [] [],.bool Q,.bool wp,aC m,aC p,aC t,g 10,g 11,g 12,g 13,g 14,g 15,g 16,g 17,g 18,g 19,g 20,g 21,g 22,g 23]).choose_spec,U,W,A3,permIn_refl J c l,F3⟩
 have a0:=ez A3;clear A3 F3 U W f3 p t g;rintro y h4 ⟨e3,p,t,g,rfl,U,W,A,P3,F⟩;have B3:=B2.perm a0 P3;have a1:=permIn_trans _ _ _ c l P2 P3;have a8:l<=J.size:=a0;clear a0 B2 hB;refine xW (λvs Y=> ∃(P:Array α) (g:Nat->V),vs= [.sl S 0 N s,aC (c:Int),aC (l:Int),aC G,.fn (aN.f α) [] [],.bool Q,.bool wp,aC m,aC p,g 9,g 10,g 11,g 12,g 13,g 14,g 15,g 16,g 17,g 18,g 19,g 20,g 21,g 22,g 23]/\fD Y S N P/\PermIn c l e P/\Below aN.lt c l P/\Fx (· =S) h Y) ?_ ?_
 ·have skip: ∀(vs:List V),(∃g:Nat->V,vs= [.sl S 0 N s,aC (c:Int),aC (l:Int),aC G,.fn (aN.f α) [] [],.bool Q,.bool wp,aC m,aC p,g 9,g 10,g 11,g 12,g 13,g 14,g 15,g 16,g 17,g 18,g 19,g 20,g 21,g 22,g 23])-> ∃(P:Array α) (g:Nat->V),vs= [.sl S 0 N s,aC (c:Int),aC (l:Int),aC G,.fn (aN.f α) [] [],.bool Q,.bool wp,aC m,aC p,g 9,g 10,g 11,g 12,g 13,g 14,g 15,g 16,g 17,g 18,g 19,g 20,g 21,g 22,g 23]/\fD h4 S N P/\PermIn c l e P/\Below aN.lt c l P/\Fx (· =S) h h4:=λvs ⟨g,hv⟩=>⟨e3,g,hv,A,a1,B3,F⟩
  have run: ∀g:Nat->V,Ev T (aN.ρ α 252) [.sl S 0 N s,aC (c:Int),aC (l:Int),.fn (aN.f α) [] []] h4 (λv h'=> ∃r:Array α×Bool,v= .bool r.2/\fD h' S N r.1/\Fx (· =S) h4 h'/\PermIn c l e3 r.1/\(r.2=true->SortedIn aN.lt c l r.1)):=λ_=>by
   refine (tB h4 S N c l e3 s om A o om).mono ?_;rintro v h5 ⟨hv,A5,F5⟩;obtain⟨q1,q2⟩:=partialInsertionSort_holds (aN.swo (α:=α)) e3 c l om (ez A) B3;exact⟨_,hv,A5,F5,q1,q2⟩
  cases Q with
  |false=>
   simp(disch:=omega)only[go_sem];exact .inl (skip _ (aB rfl))
  |true=>cases wp with
   |false=>
    simp(disch:=omega)only[go_sem]
    exact .inl (skip _ (aB rfl))
   |true=>
    simp(disch:=omega)only[go_sem]
    refine aW (λht=>?_) (λht=>?_)
    ·simp(disch:=omega)only[go_sem]
     refine (run g).mono ?_
     rintro v h5 ⟨⟨e5,r5⟩,rfl,A5,F5,q1,q2⟩
     have A5:fD h5 S N e5:=A5
     have q1:PermIn c l e3 e5:=q1
     have P5:=permIn_trans _ _ _ c l a1 q1
     cases r5 with
     |false=>
      simp(disch:=omega)only[go_sem];exact .inl ⟨e5,_,(aB rfl: ∃g:Nat->V,_= [.sl S 0 N s,aC (c:Int),aC (l:Int),aC G,.fn (aN.f α) [] [],.bool true,.bool true,aC m,aC p,g 9,g 10,g 11,g 12,g 13,g 14,g 15,g 16,g 17,g 18,g 19,g 20,g 21,g 22,g 23]).choose_spec,A5,P5,B3.perm (ez A) q1,dC F F5⟩
     |true=>
      obtain⟨w1,w2⟩:=K _ P5 (q2 rfl);simp(disch:=omega)only[go_sem];exact .inr ⟨by simp,e5,A5,w1,w2,dC F F5⟩
    ·simp(disch:=omega)only[go_sem]
     exact .inl (skip _ (aB rfl))
 clear A P3 a1 B3 F P2 a8 e3 J;rintro y h5 ⟨P,g,rfl,A,P4,B4,F⟩;have a2:=ez A;refine xW (λvs Y=> ∃(g:Nat->V),vs= [.sl S 0 N s,aC (c:Int),aC (l:Int),aC G,.fn (aN.f α) [] [],.bool Q,.bool wp,aC m,aC p,g 9,g 10,g 11,g 12,g 13,g 14,g 15,g 16,g 17,g 18,g 19,g 20,g 21,g 22,g 23]/\fD Y S N P/\Fx (· =S) h Y) ?_ ?_
 ·by_cases h0:(0:Int)<(c:Int)
  case neg=>
   have Z:=bH h0;simp(disch:=omega)only[go_sem,Z];exact .inl ⟨_,(aB rfl: ∃g:Nat->V,_= [.sl S 0 N s,aC (c:Int),aC (l:Int),aC G,.fn (aN.f α) [] [],.bool Q,.bool wp,aC m,aC p,g 9,g 10,g 11,g 12,g 13,g 14,g 15,g 16,g 17,g 18,g 19,g 20,g 21,g 22,g 23]).choose_spec,A.fr ((Fr.refl h5).bA om),dC F (Fx.of ((Fr.refl h5).bA om))⟩
  have Z:=oQ h0;have ea:(c:Int)- 1=((c- 1:Nat):Int):=om
  have c1:=A.rd (i:=c- 1) om;have c2:=A.rd (i:=p) om;simp(disch:=omega)only[go_sem,Z,ea,c1,c2];refine (dG A (i:=c- 1) (j:=p) om om _ om).mono ?_;rintro _ h6 ⟨z,rfl,hz,a6⟩;have f6:Fr h5 h6:=Fr.trans ((Fr.refl h5).bA om) a6;have A6:=A.fr f6;have F6:=dC F (Fx.of f6)
  cases hl:aN.lt P[c- 1]! P[p]! with
  |true=>
   simp(disch:=omega)only[go_sem,hz,hl];exact .inl ⟨_,(aB rfl: ∃g:Nat->V,_= [.sl S 0 N s,aC (c:Int),aC (l:Int),aC G,.fn (aN.f α) [] [],.bool Q,.bool wp,aC m,aC p,g 9,g 10,g 11,g 12,g 13,g 14,g 15,g 16,g 17,g 18,g 19,g 20,g 21,g 22,g 23]).choose_spec,A6,F6⟩
  |false=>
   obtain⟨w1,w2,w3,w4,w5⟩:=round_eq (aN.swo (α:=α)) (partitionEqual_holds aN.lt) om U W a2 B4 hl (Prod.eta (partitionEqual aN.lt P c l p)).symm;simp(disch:=omega)only[go_sem,hz,hl];refine (xB h6 S N c l p P s om A6 o U W).mono ?_;rintro _ h7 ⟨rfl,A7,F7⟩;simp(disch:=omega)only[go_sem];refine .inr ⟨by simp,l-(partitionEqual aN.lt P c l p).1,om,(partitionEqual aN.lt P c l p).1,l,G,Q,wp,_,aB rfl,w2,o,om,a3,u,w,w4,A7,dC F6 F7,λR r1 r2=>?_,rfl⟩;obtain⟨t1,t2⟩:=w5 R r1 r2;exact K R (permIn_trans _ _ _ c l P4 t1) t2
 clear A F;rintro y h6 ⟨g,rfl,A,F⟩;have e8:=Dh m (k:=8) (m:=8) rfl;simp(disch:=omega)only[go_sem];refine (pG h6 S N c l p P s om A o U W).mono ?_;obtain⟨r,hr⟩:=exI (partition aN.lt P c l p);rw[hr];obtain⟨q,ap,e5⟩:=r;obtain⟨w1,w2,w3,w4,w5,w6,w7⟩:=round_part (aN.swo (α:=α)) (partition_holds aN.lt) U W a2 B4 hr;rintro _ h7 ⟨rfl,A7,F7⟩;have A7:fD h7 S N e5:=A7;have F7:=dC F F7;have el:(q:Int)-(c:Int)=((q-c:Nat):Int):=om
 have er:(l:Int)-(q:Int)=((l-q:Nat):Int):=om
 have Z:(q:Int)+1=((q+1:Nat):Int):=om
 simp(disch:=omega)only[go_sem,el,er,e8];refine aW (λht=>?_) (λht=>?_)
 ·simp(disch:=omega)only[go_sem]
  refine (ih (q-c) om h7 S N c q G e5 s hN A7 w1 om (fM _) u w w4).mono ?_;rintro _ h8 ⟨L,A8,p8,s8,F8⟩;obtain⟨u1,u2⟩:=w6 L p8 s8;simp(disch:=omega)only[go_sem,Z];refine⟨l-(q+1),om,q+1,l,G,_,ap,L,aB rfl,om,o,om,a3,u,w,u1,A8,dC F7 F8,λR r1 r2=>?_,rfl⟩;obtain⟨t1,t2⟩:=u2 R r1 r2;exact K R (permIn_trans _ _ _ c l P4 t1) t2
 ·simp(disch:=omega)only[go_sem,Z]
  refine (ih (l-(q+1)) om h7 S N (q+1) l G e5 s hN A7 om o (fM _) u w w5).mono ?_;rintro _ h8 ⟨L,A8,p8,s8,F8⟩;obtain⟨u1,u2⟩:=w7 L p8 s8;simp(disch:=omega)only[go_sem];refine⟨q-c,om,c,q,G,_,ap,L,aB rfl,om,om,b0,om,u,w,u1,A8,dC F7 F8,λR r1 r2=>?_,rfl⟩;obtain⟨t1,t2⟩:=u2 R r1 r2;exact K R (permIn_trans _ _ _ c l P4 t1) t2
theorem Ha  {α:Type}[Inhabited α][O:aN α](n:Nat):My (α:=α) n:=by
 induction n using Nat.strongRecOn with
 |_ n ih=>exact Pg n  ih
theorem zU {α:Type}[Inhabited α][O:aN α](h:H)(S N:Nat)(d:Array α)(a:Kh)(c:N<60000)(A:fD h S N d):
  Ev T (aN.ρ α 186) [.sl S 0 N a,.fn (aN.f α) [] []] h (λ_ h'=> ∃e,fD h' S N e/\PermIn 0 N d e/\SortedIn aN.lt 0 N e/\Fx (· =S) h h'):=by
 refine Ko (aoX (α:=α) eU.ok (by decide)) rfl ?_
 have l:bitsLen N<=16:=(bitsLen_le_iff _ 16).2 om
 simp(disch:=omega)only[go_sem,eU,aD,dK (n:=(N:Int)) om om]
 refine (Tx N h om).mono ?_
 rintro _ j ⟨rfl,i⟩
 subst i
 simp(disch:=omega)only[go_sem]
 refine (Ha N j S N 0 N _ d a c A om om om om om (.inl rfl)).mono ?_
 rintro _ k ⟨e,b,p,s,F⟩
 simp(disch:=omega)only[go_sem]
 exact⟨e,b,p,s,F⟩
theorem Cj (a:Int)(h:H):Ev T 198 [aC a] h (λv h'=>v= .bool false/\h'=h):=by
 refine cV mZ rfl ?_;have e:decide (a≠a)=false:=bH om;simp(disch:=omega)only[go_sem,mZ,aD,e]
def rQ (a b:Int):Int:=if a<b then -1 else if b<a then 1 else 0
theorem yD (a b:Int)(h:H):Ev T 147 [aC a,aC b] h (λv h'=>v= aC (rQ a b)/\Fr h h'):=by
 refine cV uM rfl ?_;simp(disch:=omega)only[go_sem,uM,aD];refine (Cj a h).mono ?_;rintro _ c ⟨rfl,rfl⟩;simp(disch:=omega)only[go_sem];refine (Cj b c).mono ?_;rintro _ j ⟨rfl,rfl⟩;simp(disch:=omega)only[go_sem];unfold rQ
 by_cases c:a<b
 ·have f:=oQ c
  simp(disch:=omega)only[go_sem,f,bF c];exact Fr.refl _
 ·have f:=bH c
  by_cases d:b<a
  ·have i:=oQ d
   simp(disch:=omega)only[go_sem,f,i,bI c,bF d];exact Fr.refl _
  ·have i:=bH d
   simp(disch:=omega)only[go_sem,f,i,bI c,bI d];exact Fr.refl _
def NF:List Int->Int
 | []=>0
 |x::r=>if x=0 then NF r else x
theorem OG {l:List Int}{i:Nat}(hi:i<l.length)(h:l.getD i 0=0):NF (l.drop i)=NF (l.drop (i+1)):=by
 rw[AR hi];show (if l[i]=0 then _ else _)=_;rw[bF (by rw[List.getD,dD hi] at h;exact h)]
theorem aaP {l:List Int}{i:Nat}(hi:i<l.length)(h:l.getD i 0≠0):NF (l.drop i)=l.getD i 0:=by
 rw[AR hi];show (if l[i]=0 then _ else l[i])=_;have e:l.getD i 0=l[i]:=by rw[List.getD,dD hi];rfl
 rw[bI (by rw[←e];exact h),e]
theorem agZ (u:V)(l:List Int)(h:H)(B:l.length<1000000)(q:SI h u l):Ev T 191 [u] h (λv h'=>v= aC (NF l)/\Fr h h'):=by
 refine cV Hk rfl ?_;have w:=q.lens;obtain⟨id,j,t,o,A⟩:=q.open;simp(disch:=omega)only[go_sem,Hk,aD,w];refine aH (λp y z=> ∃(i:Nat),(∃g:Nat->V,y= [u,aC 0,aC 0,g 3,u,aC (l.length:Int),aC i,g 7,g 8])/\i<=l.length/\NF (l.drop i)=NF l/\Fr h z/\p=l.length-i) l.length
   ⟨0,aB rfl,iJ _,rfl,Fr.refl h,rfl⟩ ?_
 rintro p r s ⟨i,⟨g,rfl⟩,hi,d,f,rfl⟩
 by_cases b:(i:Int)<(l.length:Int)
 ·have n:=oQ b
  have a:i<l.length:=om
  have ci:s.cell id (j+i)=some (aC (l.getD i 0)):=by rw[f.cell (o om),A i a]
  generalize k:l.getD i 0=x at ci;simp(disch:=omega)only[go_sem,n,t.ixa,ci]
  by_cases c:x=0
  ·have m:decide (x≠0)=false:=bH (by simpa using c)
   simp(disch:=omega)only[go_sem,m];rw[eJ i];exact⟨l.length-(i+1),om,i+1,aB rfl,om,by rw[←OG a (k.trans c)];exact d,f.bA om,rfl⟩
  ·have m:=oQ c
   simp(disch:=omega)only[go_sem,m];exact⟨by rw[←d,aaP a (by rw[k];exact c),k],f.bA om⟩
 have n:=bH b;obtain rfl:i=l.length:=om
 simp(disch:=omega)only[go_sem,n];rw[List.drop_length] at d;exact⟨by rw[←d];rfl,f⟩
structure KE where
 rep:V
 ord:Nat
 size:Nat
 ranks:V
 fst:Nat
 hrep:rep.cells= [rep]/\rep.one=true/\dE rep rep=true
 hranks:ranks.cells= [ranks]/\ranks.one=true/\dE ranks ranks=true
instance:Inhabited KE:=⟨⟨.aE,0,0,.aE,0,⟨rfl,rfl,rfl⟩,⟨rfl,rfl,rfl⟩⟩⟩
def KE.enc (a:KE):List V:= [a.rep,aC (a.ord:Int),aC (a.size:Int),a.ranks]
def KE.cmp (a b:KE):Int:=NF [rQ a.ord b.ord,rQ a.size b.size,rQ a.fst b.fst]
def KE.lt (a b:KE):Bool:=decide (a.cmp b<0)
theorem Hf (a:KE)(h:H):Cv h (.agg a.enc)=some (.ptr h.next 0,h.new (.cells false a.enc)):=tL h _ (by simp [KE.enc,a.hrep.2.1,a.hranks.2.1,show (aC (a.ord:Int)).one=true from rfl,show (aC (a.size:Int)).one=true from rfl])
theorem JF (a b:KE)(h:H):Ev T 188 [.agg a.enc,.agg b.enc] h (λv h'=>v= aC (rQ a.ord b.ord)/\Fr h h'):=by
 refine cV pP rfl ?_;obtain⟨A,f⟩:=exI h.next;obtain⟨x,q,d,p,t,n⟩:=dF f a.enc;obtain⟨c,k,u,m,r,i⟩:=dF d b.enc;have s:c.get A=some (.cells false a.enc):=by rw[r _ om];exact p
 have l:c.cell A 1=some (aC (a.ord:Int)):=by rw[H.aF s];rfl
 have o:c.cell (A+1) 1=some (aC (b.ord:Int)):=by rw[H.aF m];rfl
 simp(disch:=omega)only[go_sem,pP,aD,Hf,f,q,d,k,l,o];refine (yD _ _ c).mono ?_;rintro _ w ⟨rfl,j⟩;simp(disch:=omega)only[go_sem];exact (n.trans i).trans j
theorem vW (a b:KE)(h:H):Ev T 189 [.agg a.enc,.agg b.enc] h (λv h'=>v= aC (rQ a.size b.size)/\Fr h h'):=by
 refine cV aeO rfl ?_;obtain⟨A,f⟩:=exI h.next;obtain⟨x,q,d,p,t,n⟩:=dF f a.enc;obtain⟨c,k,u,m,r,i⟩:=dF d b.enc;have s:c.get A=some (.cells false a.enc):=by rw[r _ om];exact p
 have l:c.cell A 2=some (aC (a.size:Int)):=by rw[H.aF s];rfl
 have o:c.cell (A+1) 2=some (aC (b.size:Int)):=by rw[H.aF m];rfl
 simp(disch:=omega)only[go_sem,aeO,aD,Hf,f,q,d,k,l,o];refine (yD _ _ c).mono ?_;rintro _ w ⟨rfl,j⟩;simp(disch:=omega)only[go_sem];exact (n.trans i).trans j
def KE.At (h:H)(a:KE):Prop:= ∃id off n cap,a.ranks= .sl id off (n+1) cap/\id<h.next/\h.cell id off=some (aC (a.fst:Int))
theorem JT (a b:KE)(h:H)(t:a.At h)(U:b.At h):Ev T 190 [.agg a.enc,.agg b.enc] h (λv h'=>v= aC (rQ a.fst b.fst)/\Fr h h'):=by
 refine cV pQ rfl ?_;obtain⟨A,x⟩:=exI h.next;obtain⟨h1,G,s,F,o1,Y⟩:=dF x a.enc;obtain⟨c,R,n2,W,L,P⟩:=dF s b.enc;obtain⟨r,p,B,K,z,Z,ga⟩:=t;obtain⟨n,o,O,J,y,lb,gb⟩:=U;have F2:=Y.trans P;have N:c.get A=some (.cells false a.enc):=by rw[L _ om];exact F
 have q:c.cell A 3=some a.ranks:=by rw[H.aF N];rfl
 have k:c.cell (A+1) 3=some b.ranks:=by rw[H.aF W];rfl
 rw[z] at q;rw[y] at k;have w:c.cell r p=some (aC (a.fst:Int)):=by rw[F2.cell Z];exact ga
 have u:c.cell n o=some (aC (b.fst:Int)):=by rw[F2.cell lb];exact gb
 simp(disch:=omega)only[go_sem,pQ,aD,Hf,x,G,s,R,q,k,w,u];refine (yD _ _ _).mono ?_;rintro _ d ⟨rfl,Q⟩;have f:Fr c d:=((Fr.refl c).bA om).trans Q;have t:=F2.next;have i:d.cell A 3=some (.sl r p (B+1) K):=by rw[f.cell om];exact q
 have m:d.cell (A+1) 3=some (.sl n o (O+1) J):=by rw[f.cell om];exact k
 have l:d.cell r p=some (aC (a.fst:Int)):=by rw[f.cell om];exact w
 have j:d.cell n o=some (aC (b.fst:Int)):=by rw[f.cell om];exact u
 simp(disch:=omega)only[go_sem,i,m,l,j];exact F2.trans f
theorem Ck {h:H}{A:Nat}{ro:Bool}{a:KE}(b:h.get A=some (.cells ro a.enc)):h.row A 0 4=some a.enc:=by
 simp [H.row,b,sub,KE.enc]
theorem Jp (a:KE):dE (.agg a.enc) (.agg a.enc)=true:=by
 show aoW a.enc a.enc=true;simp [KE.enc,aoW,dE,a.hrep.2.2,a.hranks.2.2]
theorem KE.At.fr {a:KE}{h h':H}(x:a.At h)(f:Fr h h'):a.At h':=by
 obtain⟨j,k,d,l,c,b,i⟩:=x;exact⟨j,k,d,l,c,iW b f.next,by rw[f.cell b];exact i⟩
theorem DK (h:H)(x y z:Int):lQ h 1 [aC 0] 3 [(0,1,aC x),(1,1,aC y),(2,1,aC z)]=some (.sl h.next 0 3 (.kn 3),h.new (.cells false (ints [x,y,z]))):=rfl
theorem acI (a b:KE)(h:H)(K:a.At h)(Y:b.At h):Ev T 187 [.agg a.enc,.agg b.enc] h (λv h'=>v= aC (a.cmp b)/\Fr h h'):=by
 refine cV Br rfl ?_;obtain⟨A,B⟩:=exI h.next;obtain⟨h1,L,u,J,o1,Z⟩:=dF B a.enc;obtain⟨i,W,n2,j,P,R⟩:=dF u b.enc;have F2:=Z.trans R;have Q:i.get A=some (.cells false a.enc):=by rw[P _ om];exact J
 simp(disch:=omega)only[go_sem,Br,aD,Hf,B,L,u,W,Ck Q,Ck j,Jp,H.Ym];have hn:=F2.next;refine (JF a b _).mono ?_;rintro _ n ⟨rfl,y⟩;have x:Fr i n:=((Fr.refl i).bA om).trans y;have r:n.get (A+1)=some (.cells false b.enc):=by rw[x.get _ om];exact j
 simp(disch:=omega)only[go_sem,Ck r,Jp];refine (vW a b _).mono ?_;rintro _ U ⟨rfl,w⟩;have l:=x.trans w;have o:U.get (A+1)=some (.cells false b.enc):=by rw[l.get _ om];exact j
 simp(disch:=omega)only[go_sem,Ck o,Jp];refine (JT a b _ (K.fr (F2.trans l)) (Y.fr (F2.trans l))).mono ?_;rintro _ d ⟨rfl,z⟩;have p:=l.trans z;have s:d.get (A+1)=some (.cells false b.enc):=by rw[p.get _ om];exact j
 simp(disch:=omega)only[go_sem,Ck s,Jp];obtain⟨I,hI⟩:=exI (i.next+9+9);have n5:=z.next;have n4:=w.next;have n3:i.next+9+12<=n.next:=y.next;simp(disch:=omega)only[go_sem,hI,DK]
 obtain⟨f,c⟩: ∃f:H,f=H.mk ((H.mk d.tr I).new (Ob.cells false (ints [rQ a.ord b.ord,rQ a.size b.size,rQ a.fst b.fst]))).tr d.next:=⟨_,rfl⟩
 rw[←c];have O:f.get I=aZ (ints [rQ a.ord b.ord,rQ a.size b.size,rQ a.fst b.fst]):=by rw[c];exact H.aL (H.mk d.tr I) _
 have n6:f.next=d.next:=by rw[c]
 have o6: ∀k,k≠I->f.get k=d.get k:=λk m=>by rw[c];exact H.bG (H.mk d.tr I) (by simpa using m) _
 have G:Fr i f:=⟨by have:=p.next;omega,λk m=>by rw[o6 k om];exact p.get k m⟩
 refine (agZ _ [rQ a.ord b.ord,rQ a.size b.size,rQ a.fst b.fst] f (by simp) (SV.all (by simp [fT]) om O _)).mono ?_;rintro _ N ⟨rfl,F⟩;have t:=G.trans F;have q:N.get (A+1)=some (.cells false b.enc):=by rw[t.get _ om];exact j
 simp(disch:=omega)only[go_sem,Ck q,Jp];exact⟨rfl,F2.trans t⟩
theorem KE.lt_iff (a b:KE):a.lt b=true↔a.ord<b.ord∨a.ord=b.ord/\(a.size<b.size∨a.size=b.size/\a.fst<b.fst):=by
 unfold KE.lt KE.cmp NF NF NF NF rQ;rw[decide_eq_true_eq]
 repeat' split
 all_goals omega
theorem agI:SWO KE.lt where
 irrefl x:=by rw[←Bool.not_eq_true,KE.lt_iff];omega
 trans x y z h1 h2:=by rw[KE.lt_iff] at*;omega
 ntrans x y z h1 h2:=by rw[←Bool.not_eq_true,KE.lt_iff] at*;omega
theorem aoY: ∀c:C,aiT (λk=>k) c=c
 | .skip=>rfl
 | .reg l=>congrArg C.reg ((Vy λi _=>show apF (λk=>k) i=id i from by
   obtain⟨d,g,a⟩:=i
   cases a<;>rfl).trans (List.map_id l))
 | .any k n l=>congrArg (C.any k n) ((Vy λi _=>show apI (λk=>k) i=id i from by
   obtain⟨i,⟨d,g,a⟩,h,j⟩:=i
   cases a<;>rfl).trans (List.map_id l))
 | .regd l x xs=>rfl
 | .seq a b=>by rw[aiT,aoY a,aoY b]
 | .ite x a b=>by rw[aiT,aoY a,aoY b]
 | .block i c=>by rw[aiT,aoY c]
 | .loop c=>by rw[aiT,aoY c]
 | .exit i=>rfl
 | .ret=>rfl
 | .scope c=>rfl
 | .range f p a b=>rfl
 | .fail=>rfl
theorem apH (o:Option Ay.Fn):o.map (apE λk=>k)=o:=by
 cases o with
 |none=>rfl
 |some f=>
  show some (apE _ f)=_;unfold apE;rw[aoY]
def KE.Pp (hB:H)(b0 S:Nat)(a:KE):Prop:= ∃id off n cap,a.ranks= .sl id off (n+1) cap/\id<b0/\id≠S/\hB.cell id off=some (aC (a.fst:Int))
def Bb (hB:H)(b0 S:Nat)(h:H):Prop:=b0<=h.next/\ ∀q,q<b0->q≠S->h.get q=hB.get q
theorem KE.Pp.at {f h:H}{j S:Nat}{a:KE}(p:a.Pp f j S)(b:Bb f j S h):a.At h:=by
 obtain⟨id,c,n,d,e,i,k,l⟩:=p;refine⟨id,c,n,d,e,iW i b.1,?_⟩;rw[←l];unfold H.cell;rw[b.2 id i k]
@[reducible] def ahG (hB:H)(b0 S:Nat):aN KE where
 lt:=KE.lt
 enc:=KE.enc
 P:=KE.Pp hB b0 S
 B:=Bb hB b0 S
 f:=187
 b0:=b0
 S:=S
 swo:=agI
 len _:=rfl
 one a:=by simp [KE.enc,a.hrep.2.1,a.hranks.2.1,show (aC (a.ord:Int)).one=true from rfl,show (aC (a.size:Int)).one=true from rfl]
 eqv:=Jp
 cmp h a b hb pa pb:=(acI a b h (pa.at hb) (pb.at hb)).mono λv h' ⟨e,f⟩=>⟨_,e,rfl,f⟩
 bfr h h' b f:=⟨mT b.1 f.next,λq h1 h2=>by rw[f.get q (iW h1 b.1)];exact b.2 q h1 h2⟩
 bS h h' b f:=⟨mT b.1 f.next,λq h1 h2=>by rw[f.get q (iW h1 b.1) h2];exact b.2 q h1 h2⟩
 bR h h' R b hR f:=⟨mT b.1 f.next,λq h1 h2=>by rw[f.get q (iW h1 b.1) (λe=>by have:q=R:=e;omega)];exact b.2 q h1 h2⟩
 bn h b:=b.1
 ρ:=λk=>k
 hT:=λk _=>(apH _).symm
 s1:=rfl
 s2:=rfl
 s3:=rfl
theorem Pa {l:List KE}{N:Nat}(k:l.length=N){e:Array KE}(q:PermIn 0 N l.toArray e)(o:SortedIn KE.lt 0 N e):e.toList.Perm l/\e.toList.Pairwise (λa b=>KE.lt b a=false):=by
 obtain⟨s,u,p⟩:=q;have c:e.size=N:=by rw[s];simpa using k
 refine⟨?_,?_⟩
 ·have r:(e.extract 0 N).toList=e.toList:=by rw[←c];simp
  have t:(l.toArray.extract 0 N).toList=l:=by rw[←k];simp
  rwa [r,t] at p
 ·rw[JX]
  intro i j hi d f;have h:j<N:=by simpa [c] using d
  have:=o i j (iJ _) f h;have n:e[i]! =e.toList[i]:=by simp at hi;simp [hi]
  have m:e[j]! =e.toList[j]:=by simp at d;simp [d]
  rw[n,m] at this;exact this
def qY (l:List KE):List V:=l.flatMap KE.enc
theorem TY (h:H)(S d:Nat)(l:List KE)(f:Kh)(r:l.length<60000)(o:h.get S=aZ (qY l))(k:S<h.next)(m:d<=h.next)(j: ∀a∈l,a.Pp h d S):
  Ev T 186 [.sl S 0 l.length f,.fn 187 [] []] h (λ_ h'=> ∃l',h'.get S=aZ (qY l')/\l'.Perm l/\l'.Pairwise (λa b=>KE.lt b a=false)/\Fx (· =S) h h'):=by
 letI:=ahG h d S
 have A:fD h S l.length l.toArray:=⟨o,by simp,k,rfl,⟨m,λ_ _ _=>rfl⟩,λi hi=>by
  have c:i<l.length:=by simpa using hi
  have:l.toArray[i]! =l[i]:=by simp [c]
  rw[this]
  exact j _ (zG c)⟩
 refine (zU h S l.length l.toArray f r A).mono ?_
 rintro _ h' ⟨e,n,p,s,F⟩
 obtain⟨t,q⟩:=Pa rfl p s
 exact⟨e.toList,n.get,t,q,F⟩
end Go.Proofs.YtcdbmkidaecdiaaGreat.Cls
namespace Go.Proofs.YtcdbmkidaecdiaaGreat
open Go Go.Ay Go.Pm
set_option maxRecDepth 100000
section
variable {i j p:Nat} {S:LN} {Q:List Nat}
section
variable {n:Nat} {G:List Nat->Prop} {L:LN}
theorem yK {l:LN}(nd:l.Nodup)(hi:i<l.length)(b:j<l.length)(e:l.getD i []=l.getD j []):i=j:=by
 have c:l.getD i []=l[i]:=by rw[List.getD,dD hi];rfl
 have d:l.getD j []=l[j]:=by rw[List.getD,dD b];rfl
 rw[c,d] at e;have h:=JX.1 nd;rcases Nat.lt_trichotomy i j with a|a|a
 ·exact absurd e (h i j hi b a)
 ·exact a
 ·exact absurd e.symm (h j i b hi a)
def cR (G:List Nat->Prop)(L:LN)(i j:Nat):Prop:=cj G (L.getD i []) (L.getD j [])
open Classical in
noncomputable def kY (G:List Nat->Prop)(L:LN)(i:Nat):List Nat:=(List.range L.length).filter λj=>decide (cR G L i j)
theorem tA:j∈kY G L i↔j<L.length/\cR G L i j:=by
 classical
 unfold kY;rw[CH,Gu,Qf]
theorem Zq (i:Nat):(kY G L i).Pairwise (· < ·):=by
 classical
 unfold kY;exact List.Pairwise.filter _ List.pairwise_lt_range
theorem Oz (i:Nat):(kY G L i).Nodup:=by
 classical
 unfold kY;exact List.Pairwise.filter _ List.nodup_range
def HV (G:List Nat->Prop)(L:LN)(i:Nat):Prop:= ∀j,j<i-> ¬cR G L j i
open Classical in
noncomputable def jW (G:List Nat->Prop)(L:LN)(k:Nat):List Nat:=(List.range k).filter λj=>decide (HV G L j)
theorem Nx (k:Nat):(HV G L k->jW G L (k+1)=jW G L k++ [k])/\(¬HV G L k->jW G L (k+1)=jW G L k):=by
 classical
 unfold jW;rw[List.range_succ,List.filter_append];refine⟨λh=>?_,λh=>?_⟩
 ·rw[List.filter_cons_of_pos (by simpa using h)];rfl
 ·rw[List.filter_cons_of_neg (by simpa using h),List.filter_nil,vF]
theorem kV {k:Nat}:i∈jW G L k↔i<k/\HV G L i:=by
 classical
 unfold jW;rw[CH,Gu,Qf]
variable (hG:iX n G) (E:dW G L)
include hG E
omit hG in
theorem oS (hi:i<L.length):G (L.getD i []):=(E.mem _).1 (bD hi)
theorem lY (hi:i<L.length):bE n (L.getD i []):=hG.cU (oS E hi)
theorem Uw (hi:i<L.length):cR G L i i:=XO hG (lY hG E hi)
theorem Ls (hi:i<L.length)(h:cR G L i j):cR G L j i:=XN hG (lY hG E hi) h
theorem wJ {k:Nat}(hi:i<L.length)(h:cR G L i j)(h2:cR G L j k):cR G L i k:=UT hG (lY hG E hi) h h2
theorem Vo (hi:i<L.length): ∃r,r<=i/\HV G L r/\cR G L r i:=by
 induction i using Nat.strongRecOn with
 |_ i ih=>
  by_cases h:HV G L i
  ·exact⟨i,fM _,h,Uw hG E hi⟩
  ·obtain⟨j,a,b⟩: ∃j,j<i/\cR G L j i:=Jg λf=>h λj a b=>f ⟨j,a,b⟩
   obtain⟨r,k,c,d⟩:=ih j a om;exact⟨r,om,c,wJ hG E om d b⟩
theorem VQ {r s:Nat}(c:r<L.length)(b:s<L.length)(k:HV G L r)(h2:HV G L s)(d:cR G L r i)(a:cR G L s i):r=s:=by
 have f:=wJ hG E c d (Ls hG E b a);have l:=wJ hG E b a (Ls hG E c d);rcases Nat.lt_trichotomy r s with h|h|h
 ·exact absurd f (h2 r h)
 ·exact h
 ·exact absurd l (k s h)
omit hG E in
structure BQ (G:List Nat->Prop)(L S:LN)(i:Nat)(Q:List Nat)(p:Nat):Prop where
 nd:Q.Nodup
 ne:0<Q.length
 hd:Q.getD 0 0=i
 mem: ∀j∈Q,j<L.length/\cR G L i j
 cl: ∀k,k<p-> ∀s∈S,∃j∈Q,L.getD j []=cW (L.getD (Q.getD k 0) []) s
omit hG E in
theorem BQ.len (b:BQ G L S i Q p):Q.length<=L.length:=by
 have h:Q ⊆ List.range L.length:=λj a=>Gu.2 (b.mem j a).1
 have:=List.Nodup.length_le_of_subset b.nd h;rwa [NM] at this
theorem BQ.done (b:BQ G L S i Q p)(w:Q.length<=p)(hi:i<L.length)(m: ∀s∈S,G s)(a: ∀x,G x->bX n (λg=>g∈S) x)(j:Nat):j∈Q↔j<L.length/\cR G L i j:=by
 refine⟨b.mem j,λ⟨o,hc⟩=>?_⟩
 have d: ∃k∈Q,L.getD k []=L.getD j []:=by
  refine adZ (S:=λg=>g∈S) (λg f=>hG.cU (m g f)) a (P:=λy=> ∃k∈Q,L.getD k []=y) (lY hG E hi) ⟨i,by rw[←b.hd];exact bD b.ne,rfl⟩ ?_ hc;rintro y g Y ⟨k,c,rfl⟩ f;obtain⟨t,r,u⟩:=zF.1 c;obtain⟨q,v,l⟩:=b.cl t om g f;have e:Q.getD t 0=k:=by rw[Pm.cJ r,u]
  rw[e] at l;exact⟨q,v,l⟩
 obtain⟨k,c,e⟩:=d;have h:=(b.mem k c).1;rw[←yK E.nodup h o e];exact c
theorem BQ.sort (b:BQ G L S i Q p)(k:Q.length<=p)(hi:i<L.length)(d: ∀s∈S,G s)(a: ∀x,G x->bX n (λg=>g∈S) x){c:List Int}(f:c.Perm (zi Q))(h2:c.Pairwise (· <= ·)):c=zi (kY G L i):=by
 refine AN (f.trans ?_) h2 ?_
 ·refine List.Perm.map _ ((List.perm_ext_iff_of_nodup b.nd (Oz i)).2 λj=>?_)
  rw[b.done hG E k hi d a j,tA]
 ·unfold zi
  rw[List.pairwise_map];exact (Zq i).imp λh=>om
theorem Sr (hi:i<L.length)(o:HV G L i):0<(kY G L i).length/\(kY G L i).getD 0 0=i:=by
 have f:i∈kY G L i:=tA.2 ⟨hi,Uw hG E hi⟩;have a:=HJ f;refine⟨a,?_⟩;have l:=tA.1 (bD (d:=0) a);obtain⟨k,h,m⟩:=zF.1 f;have c:=JX.1 (Zq (G:=G) (L:=L) i);rw[Pm.cJ a] at*
 by_cases b:k=0
 ·subst b;exact m
 ·have q:=c 0 k a h om
  exact absurd (Ls hG E hi l.2) (o _ om)
end
end
end Go.Proofs.YtcdbmkidaecdiaaGreat
namespace Go.Ay
open Go
def OQ (o:Option Ob)(h:H)(id:Nat)(s:Cy)(k y:V):Option (V×H):=match o with
 |some (.wmap sh es)=>if s=sh/\isKey s k=true then
   some (V.undef,h.set id (some (.wmap sh (match gY k es with
    |some e=>es.set e.1 (k,y)
    |none=>es++ [(k,y)]))))
  else none
 |_=>none
def aeH (s:Cy)(h:H)(x k y:V):Option (V×H):=match x with
 | .mp id=>OQ (h.get id) h id s k y
 |_=>none
theorem ZU (ρ:X->V)(h:H)(s:Cy)(x k y:X):cI ρ h (.msw s x k y)=aeH s h (ρ x) (ρ k) (ρ y):=by
 simp only[cI,aeH,OQ];cases ρ x<;>try rfl
theorem YP (s:Cy)(h:H)(id:Nat)(k y:V):aeH s h (.mp id) k y=OQ (h.get id) h id s k y:=rfl
def RK (o:Option Ob)(s:Cy)(zero:V)(ok:Bool)(k:V):Option V:=match o with
 |some (.wmap sh es)=>if s=sh/\isKey s k=true then
   match gY k es with
   |some e=>some (if ok then .tup [e.2,.bool true] else e.2)
   |none=>some (if ok then .tup [zero,.bool false] else zero)
  else none
 |_=>none
def afQ (s:Cy)(zero:V)(ok:Bool)(h:H)(x k:V):Option V:=match x with
 | .mp id=>RK (h.get id) s zero ok k
 |_=>none
theorem acA (ρ:X->V)(h:H)(s:Cy)(zero:V)(ok:Bool)(x k:X):cI ρ h (.lkw s zero ok x k)=(afQ s zero ok h (ρ x) (ρ k)).map (·,h):=by
 simp only[cI,afQ,RK];cases ρ x<;>try rfl
 rename_i id;simp only
 cases hg:h.get id with
 |none=>rfl
 |some o=>
  cases o<;>try rfl
  rename_i b c;simp only
  by_cases a:s=b/\isKey s (ρ k)=true
  ·rw[bF a,bF a]
   cases gY (ρ k) c<;>rfl
  ·rw[bI a,bI a];rfl
theorem abX (s:Cy)(zero:V)(ok:Bool)(h:H)(id:Nat)(k:V):afQ s zero ok h (.mp id) k=RK (h.get id) s zero ok k:=rfl
attribute [go_sem] ZU YP acA abX
end Go.Ay
namespace Go.Proofs.YtcdbmkidaecdiaaGreat
open Go Go.Ay Go.Pm
set_option maxRecDepth 100000
def Ie (L:LN)(k:Nat):List (V×V):=(List.range k).map λi=>(V.str (L.getD i []),aC i)
theorem Iy (k:V): ∀(a b:List (V×V)),gY k a=none->gY k (a++b)=(gY k b).map λq=>(q.1+a.length,q.2)
 | [],b,_=>by
  cases h:gY k b<;>simp [h]
 |e::a,b,h=>by
  show (if dE k e.1 then some (0,e.2) else (gY k (a++b)).map λq=>(q.1+1,q.2))=_;have c:(if dE k e.1 then some (0,e.2) else (gY k a).map λq=>(q.1+1,q.2))=none:=h;split at c
  ·cases c
  ·rename_i d
   rw[bI d,Iy k a b (by cases h2:gY k a with|none=>rfl|some x=>rw[h2] at c;cases c),Option.map_map]
   rfl
theorem Oy (L:LN)(k:Nat):Ie L (k+1)=Ie L k++ [(V.str (L.getD k []),aC k)]:=by
 unfold Ie;rw[List.range_succ,List.map_append];rfl
theorem akF {L:LN}{w:List Nat}: ∀{k:Nat},(∀i,i<k->L.getD i []≠w)->gY (.str w) (Ie L k)=none
 |0,_=>rfl
 |k+1,h=>by
  rw[Oy,Iy _ _ _ (akF λi hi=>h i om)]
  have:(dE (.str w) (.str (L.getD k [])))=false:=by
   have:=h k om;simp only[dE,beq_eq_false_iff_ne,ne_eq];exact λe=>this e.symm
  show Option.map _ (if dE (.str w) (.str (L.getD k [])) then _ else _)=_;rw[bI (by rw[this];simp)];rfl
theorem Xt {L:LN}(nd:L.Nodup): ∀{k i:Nat},k<=L.length->i<k->gY (.str (L.getD i [])) (Ie L k)=some (i,aC i)
 |0,i,_,h=>om
 |k+1,i,hk,h=>by
  rw[Oy]
  by_cases e:i=k
  ·subst e
   rw[Iy _ _ _ (akF λj m e=>by have:=yK nd om om e;omega)];show Option.map _ (if dE (.str (L.getD i [])) (.str (L.getD i [])) then some (0,aC i) else _)=_;rw[bF (by simp [dE])];simp [Ie]
  ·have l:=Xt nd (k:=k) om (show i<k by omega)
   have d: ∀(a b:List (V×V)) (x:V) (r:Nat×V),gY x a=some r->gY x (a++b)=some r:=by
    intro a
    induction a with
    |nil=>intro b x r h;cases h
    |cons y a ih2=>
     intro b x r h;show (if dE x y.1 then some (0,y.2) else (gY x (a++b)).map λq=>(q.1+1,q.2))=_;have c:(if dE x y.1 then some (0,y.2) else (gY x a).map λq=>(q.1+1,q.2))=some r:=h
     by_cases f:dE x y.1=true
     ·rw[bF f] at c ⊢;exact c
     ·rw[bI f] at c ⊢
      cases h2:gY x a with
      |none=>rw[h2] at c;cases c
      |some r2=>rw[h2] at c;rw[ih2 b x r2 h2];exact c
   exact d _ _ _ _ l
theorem xY {w:List Nat}(b:w.length<=1000)(h2: ∀x∈w,x<256):isKey .str (.str w)=true:=by
 have e:(decide (w.length<2^62)&&w.all λn=>decide (n<256))=true:=by
  rw[vN,decide_eq_true_eq,Kv];exact⟨om,λx a=>by simpa using h2 x a⟩
 exact e
theorem Xx {L:LN}(nd:L.Nodup){k:Nat}(b:k<L.length)(c:isKey .str (.str (L.getD k []))=true)(a:H)(M:Nat):
  OQ (some (.wmap .str (Ie L k))) a M .str (.str (L.getD k [])) (aC k)=some (.undef,a.set M (some (.wmap .str (Ie L (k+1))))):=by
 have e:gY (.str (L.getD k [])) (Ie L k)=none:=akF λj d e=>by have:=yK nd om b e;omega
 simp only[OQ]
 rw[bF ⟨trivial,c⟩,e,Oy]
theorem Np {L:LN}(nd:L.Nodup){i:Nat}(hi:i<L.length)(a:isKey .str (.str (L.getD i []))=true)(z:V):
  RK (some (.wmap .str (Ie L L.length))) .str z false (.str (L.getD i []))=some (aC i):=by
 simp only[RK]
 rw[bF ⟨trivial,a⟩,Xt nd (fM _) hi];rfl
end Go.Proofs.YtcdbmkidaecdiaaGreat
namespace Go.Proofs.YtcdbmkidaecdiaaGreat
open Go Go.Ay Go.Pm
set_option maxRecDepth 100000
section
variable {G:List Nat->Prop} {L:LN} {i j n:Nat} {Q:List Nat} {h:H} {v:V}
theorem IA {a:V}(c:a.cells= [a])(b:a.one=true)(M N m:Nat):rO [.aE,.nilm,.aE,.aE] [(0,1,a),(1,1,.mp M),(3,1,.sl N 0 m (.kn m))]=some (.agg [a,.mp M,.aE,.sl N 0 m (.kn m)]):=by
 simp [rO,iS,putAt,c,b,show (V.mp M).cells= [V.mp M] from rfl,show (V.sl N 0 m (.kn m)).cells= [V.sl N 0 m (.kn m)] from rfl,show (V.mp M).one=true from rfl,show (V.sl N 0 m (.kn m)).one=true from rfl]
theorem MR {a:V}(b:a.one=true)(M N m:Nat)(h:H):Cv h (.agg [a,.mp M,.aE,.sl N 0 m (.kn m)])=some (.ptr h.next 0,h.new (.cells false [a,.mp M,.aE,.sl N 0 m (.kn m)])):=tL h _ (by simp [b,show (V.mp M).one=true from rfl,show (V.sl N 0 m (.kn m)).one=true from rfl,show V.aE.one=true from rfl])
open Classical in
noncomputable def Ib (G:List Nat->Prop)(L:LN)(i:Nat)(Q:List Nat)(j:Nat):Bool:=decide ((∃i0,i0<i/\cR G L i0 j)∨j∈Q)
theorem nG:Ib G L i Q j=true↔(∃i0,i0<i/\cR G L i0 j)∨j∈Q:=by classical unfold Ib;simp only[decide_eq_true_eq]
theorem VK (G:List Nat->Prop)(L:LN)(j:Nat):Ib G L 0 [] j=false:=by
 rw[←Bool.not_eq_true,nG];rintro (⟨a,h,_⟩|h)
 ·omega
 ·cases h
theorem Wt {k:Nat}:Ib G L i (Q++ [k]) j=if j=k then true else Ib G L i Q j:=by
 by_cases e:j=k
 ·rw[bF e,nG];exact .inr (by simp [e])
 ·rw[bI e,Py,nG,nG]
  simp [e]
theorem xE {p:Nat->Option Ay.Fn}{rd:Option Nat}{a:C}{k:Nat}{b:List V}{Q:E->List V->H->Prop}(J:List V->H->Prop)(c:Wp p rd (.loop a) b h (λe v h'=>e= .exit k/\J v h'))(h2: ∀v h',J v h'->Q .norm v h'):Wp p rd (.loop a) b h (vH k Q):=
 c.mono λe v h' x=>by
  obtain⟨rfl,x⟩:=x;rw[An];exact h2 v h' x
theorem cY.ge {sz id off b:Nat}{ws:List V}(o:cY h v sz ws b)(a:ws.length=n*sz)(k:0<sz)(s:Sl v sz n id off)(f:0<n):b<=id:=by
 have d:=s.ixa .i64 0 om om;rcases o.sv with ⟨_,rfl⟩|⟨m,l,len,q,u,t,e,c,_⟩
 ·have:=Nat.mul_pos f k
  simp at a;omega
 ·have r:=(o.in _ _ _ _ e).2.1
  subst e
  have w:0<len:=by
   have:=Nat.mul_pos f k;refine Nat.pos_of_ne_zero λp=>?_
   subst p;simp at c;rw[c] at a;simp at a;omega
  rw[Lg om om] at d;simp only[Option.some.injEq,V.ptr.injEq] at d;omega
theorem RU (d:iX n G)(E:dW G L)(hi:i<L.length)(l: ¬HV G L i)(j:Nat):Ib G L i [] j=Ib G L (i+1) [] j:=by
 obtain⟨o,f,c⟩: ∃j,j<i/\cR G L j i:=Jg λm=>l λj k c=>m ⟨j,k,c⟩
 rw[Py,nG,nG];constructor
 ·rintro (⟨b,p,a⟩|h)
  ·exact .inl ⟨b,om,a⟩
  ·cases h
 ·rintro (⟨b,p,a⟩|h)
  ·by_cases e:b=i
   ·subst e;exact .inl ⟨o,f,wJ d E om c a⟩
   ·exact .inl ⟨b,om,a⟩
  ·cases h
theorem NU {S:LN}(f:iX n G)(E:dW G L)(hi:i<L.length)(b:BQ G L S i Q Q.length)(k: ∀s∈S,G s)(a: ∀x,G x->bX n (λg=>g∈S) x)(l:j<L.length):Ib G L i Q j=Ib G L (i+1) [] j:=by
 rw[Py,nG,nG];constructor
 ·rintro (⟨d,m,c⟩|h)
  ·exact .inl ⟨d,om,c⟩
  ·exact .inl ⟨i,om,(b.mem j h).2⟩
 ·rintro (⟨d,m,c⟩|h)
  ·by_cases e:d=i
   ·subst e;exact .inr ((b.done f E (fM _) hi k a j).2 ⟨l,c⟩)
   ·exact .inl ⟨d,om,c⟩
  ·cases h
theorem JS (a:v.cells= [v])(b:v.one=true)(x y:Int):rO [.aE,aC 0,aC 0] [(0,1,v),(1,1,aC x),(2,1,aC y)]=some (.agg [v,aC x,aC y]):=by
 simp [rO,iS,putAt,a,b,show ∀z,(aC z).cells= [aC z] from λ_=>rfl,show ∀z,(aC z).one=true from λ_=>rfl]
theorem MT {w:V}(c:v.one=true)(b:w.cells= [w])(a:w.one=true)(x y:Int):rO [.aE,aC 0,aC 0,.aE] [(0,3,.agg [v,aC x,aC y]),(3,1,w)]=some (.agg [v,aC x,aC y,w]):=by
 simp [rO,iS,putAt,b,c,a,show ∀l,(V.agg l).cells=l from λ_=>rfl,show ∀z,(aC z).one=true from λ_=>rfl]
theorem MI {w:V}(b:v.one=true)(a:w.one=true)(x y:Int)(h:H):lQ h 4 [.aE,aC 0,aC 0,.aE] 1 [(0,4,.agg [v,aC x,aC y,w])]=some (.sl h.next 0 1 (.kn 1),h.new (.cells false [v,aC x,aC y,w])):=by
 have e:cX [V.aE,aC 0,aC 0,.aE] 4= [V.aE,aC 0,aC 0,.aE]:=rfl;simp [lQ,iS,putAt,e,b,a,show ∀l,(V.agg l).cells=l from λ_=>rfl,show ∀z,(aC z).one=true from λ_=>rfl]
theorem Co (k:Nat):(jW G L k).length<=k:=by
 classical
 unfold jW;exact mT (List.length_filter_le _ _) (by rw[NM];exact fM _)
theorem Re (b:List Cls.KE):(Cls.qY b).length=b.length*4:=by
 induction b with
 |nil=>rfl
 |cons a r ih=>
  show (a.enc++Cls.qY r).length=_;rw[jZ,ih,List.length_cons];show 4+_=_;omega
theorem HY {a b c d:V}(f:H)(id:Nat)(y:V):dX (some (.cells false [a,b,c,d])) f id 2 [y]=some (f.set id (some (.cells false [a,b,y,d]))):=by
 simp [dX,putAt]
theorem afI {sz:Nat}{ws:List V}(s:SV h v sz ws):Mq (λq=>h.next<=q) v:=by
 cases v with
 |sl id off len cap=>exact λa=>by have:=s.in _ _ _ _ rfl;omega
 |_=>trivial
structure KO (n:Nat)(G:List Nat->Prop)(L:LN)(X:Nat)(W:Nat->Prop)(hh:H)(a:Cls.KE)(r:Nat):Prop where
 fst:a.fst=r
 ord:a.ord=qF (L.getD r []) n
 size:a.size=(kY G L r).length
 rep:PV (λq=>X<=q) hh a.rep (L.getD r [])
 ranks:PV W hh a.ranks (kY G L r)
theorem KO.go {X:Nat}{W W':Nat->Prop}{h':H}{a:Cls.KE}{r:Nat}(k:KO n G L X W h a r)(f:Fx W h h')(o:X<=h.next)(l: ∀q,W q->X<=q)(c: ∀q,q<h.next->W' q->W q):KO n G L X W' h' a r:=
 ⟨k.fst,k.ord,k.size,k.rep.fx ⟨f.next,λq m b=>f.get q m λd=>b (l q d)⟩,PV.go k.ranks f c⟩
structure OfJ (n:Nat)(G:List Nat->Prop)(L:LN)(X D:Nat)(vL:V)(h5:H)(i:Nat)(hh:H):Prop where
 ex: ∃vK ks W,hh.get (X+8)=some (.cells false [vL,.mp (X+3),vK,.sl (X+6) 0 L.length (.kn L.length)])/\cY hh vK 4 (Cls.qY ks) (D+1)/\aM (KO n G L X W hh) ks (jW G L i)/\Hq W vK/\W D/\W (X+8)/\W (X+6)/\(∀q,W q->q<hh.next)/\(∀q,W q->X<=q)/\(ks= []∨ ∃id cap,vK= .sl id 0 ks.length cap/\hh.get id=some (.cells false (Cls.qY ks)))
 gD:hh.get D=some (.cells false (rc L.length λj=> .bool (Ib G L i [] j)))
 old:Fx (λq=>q=X+8∨D<=q) h5 hh
 nx:D<hh.next
def QT (n:Nat):C->Bool
 | .block k _=>k==n
 | .seq _ b=>QT n b
 |_=>false
def Tz (n:Nat):C->C
 | .seq a b=>if QT n a then b else Tz n b
 |c=>c
structure OfE (n:Nat)(G:List Nat->Prop)(L:LN)(X D:Nat)(vL:V)(h h2 h5 h7:H):Prop where
 el:dW G L
 le:L.length<=5040
 f2:Fr h h2
 x2:h2.next=X
 sp:SP h2 vL L
 f25:Fr h2 h5
 xD:X+10<=D
 n5:h5.next=D
 gM:h5.get (X+3)=some (.wmap .str (Ie L L.length))
 gN:h5.get (X+6)=some (.cells false (rc L.length λ_=> aC 0))
 j:OfJ n G L X D vL h5 L.length h7
theorem WY {W0:Nat->Prop}(vc:V)(n:Nat)(O:LN)(R:jI)(G:List Nat->Prop)(h:H)(gc:GC W0 h vc n O R G)(P:V->H->Prop)
  (hk: ∀L X D vL h2 h5 h7 A (g:Nat->V),cZ O R n 0 (bL n)=L->OfE n G L X D vL h h2 h5 h7->Wp T none (Tz 2 mL.fn.body) ([g 0,.ptr A 0,.nilp,aC 0,vL,g 5,.ptr (X+8) 0,g 7,g 8,g 9,g 10,g 11,g 12,g 13,g 14,g 15,g 16,g 17,g 18,g 19,g 20,g 21,g 22,g 23,g 24,g 25,g 26,g 27,g 28,g 29,g 30,g 31,g 32,g 33,g 34,g 35,g 36,g 37,g 38,g 39,g 40,g 41,g 42,g 43,g 44,g 45]) h7 (JN mL.fn.results P)):
  Ev T 139 [vc] h P:=by
 obtain⟨vO,vR,e,sO,sR⟩:=gc.ch
 subst e
 refine cV mL rfl ?_
 have i5:vO.one=true:=oNs sO
 have l1:vR.one=true:=oNt sR
 obtain⟨A,hA⟩:=exI h.next
 obtain⟨d,e1,n1,g1,o1,f1⟩:=dF hA [aC n,vO,vR]
 have bx:=bM h (v:= aC n) (u:=vO) (w:=vR) rfl i5 l1
 have rB:=aI g1
 obtain⟨L,hL⟩:=exI (cZ O R n 0 (bL n))
 obtain⟨E,ll⟩:=dM gc.dN gc.isc
 have r1:=jH gc
 rw[hL] at E ll
 have hG:=gc.dN
 have n7:=gc.n7
 have n0:=gc.n0
 simp(disch:=omega)only[go_sem,mL,aD,bx,hA,e1,rB]
 refine (Wc _ n O R G d (gc.mono f1)).mono ?_
 rw[hL]
 rintro _ h2 ⟨vL,rfl,nw⟩
 obtain⟨wL,W,c4,j4,q3,W1⟩:=nw.ex
 have i2:=aM.length j4
 obtain⟨m,hm⟩:=exI L.length
 rw[hm] at i2
 have f7:=cY.lens c4 i2
 have d0:=c4.sv.cK.2.1
 have f2:=nw.fr
 simp(disch:=omega)only[go_sem,f7]
 refine aW (λhc=>(hc rfl).elim) (λ_=>?_)
 obtain⟨X,hX⟩:=exI h2.next
 simp(disch:=omega)only[go_sem,f7,sT _ m om,hX,IA c4.sv.cK.1 d0,MR d0]
 obtain⟨h3,a1⟩: ∃h3:H,h3=H.mk ((H.mk ((H.mk ((H.mk h2.tr (X+3)).new (Ob.wmap Cy.str [])).tr (X+6)).new (Ob.cells false (rc m λ_=>aC 0))).tr (X+8)).new (Ob.cells false [vL,.mp (X+3),.aE,.sl (X+6) 0 m (.kn m)])).tr (X+10):=⟨_,rfl⟩
 rw[←a1]
 have n3:h3.next=X+10:=by rw[a1]
 have gB:h3.get (X+8)=some (.cells false [vL,.mp (X+3),.aE,.sl (X+6) 0 m (.kn m)]):=by rw[a1];exact H.aL (H.mk _ (X+8)) _
 have gN:h3.get (X+6)=some (.cells false (rc m λ_=>aC 0)):=by
  rw[a1];exact (H.bG (H.mk _ (X+8)) (show X+6≠X+8 by omega) _).trans (H.aL (H.mk _ (X+6)) _)
 have gM:h3.get (X+3)=some (.wmap .str (Ie L 0)):=by
  rw[a1];exact (H.bG (H.mk _ (X+8)) (show X+3≠X+8 by omega) _).trans ((H.bG (H.mk _ (X+6)) (show X+3≠X+6 by omega) _).trans (H.aL (H.mk _ (X+3)) _))
 have f3:Fr h2 h3:=⟨om,λq hq=>by
  rw[a1]
  exact (H.bG (H.mk _ (X+8)) (show q≠X+8 by omega) _).trans ((H.bG (H.mk _ (X+6)) (show q≠X+6 by omega) _).trans (H.bG (H.mk _ (X+3)) (show q≠X+3 by omega) _))⟩
 clear a1
 have a0: ∀i,i<m->(L.getD i []).length<=1000/\ ∀x∈L.getD i [],x<256:=λi hi=>by
  have P:=lY hG E (show i<L.length by omega);exact⟨by rw[P.len];omega,λx hx=>by have:=P.lt x hx;omega⟩
 obtain⟨m4,i4,c0,j1,i9⟩:=SV.shape c4.sv m om om
 have e0: ∀i,i<m-> ∃vx,(∀h',Fr h2 h'->h'.cell m4 (i4+i)=some vx)/\SI h2 vx (zi (L.getD i [])):=λi hi=>by
  obtain⟨v,d,b3⟩:=fW.at j4 (i:=i) om;exact⟨v,λh' f=>by rw[f.cell (j1 om),i9 i om,d],b3.si⟩
 have hK: ∀i,i<m->isKey .str (.str (L.getD i []))=true:=λi hi=>xY (a0 i hi).1 (a0 i hi).2
 refine bJ (λvs B=>(∃g:Nat->V,vs= [g 0,.ptr A 0,.nilp,aC 0,vL,g 5,.ptr (X+8) 0,g 7,g 8,g 9,g 10,g 11,g 12,g 13,g 14,g 15,g 16,g 17,g 18,g 19,g 20,g 21,g 22,g 23,g 24,g 25,g 26,g 27,g 28,g 29,g 30,g 31,g 32,g 33,g 34,g 35,g 36,g 37,g 38,g 39,g 40,g 41,g 42,g 43,g 44,g 45])/\B.get (X+3)=some (.wmap .str (Ie L m))/\Fx (· =X+3) h3 B) ?_ ?_
 ·refine aH (λk' vs B=> ∃(i:Nat),(∃g:Nat->V,vs= [g 0,.ptr A 0,.nilp,aC 0,vL,g 5,.ptr (X+8) 0,g 7,g 8,g 9,g 10,g 11,g 12,g 13,g 14,g 15,g 16,g 17,g 18,g 19,g 20,g 21,g 22,vL,aC m,aC i,g 26,g 27,g 28,g 29,g 30,g 31,g 32,g 33,g 34,g 35,g 36,g 37,g 38,g 39,g 40,g 41,g 42,g 43,g 44,g 45])/\i<=m/\B.get (X+3)=some (.wmap .str (Ie L i))/\Fx (· =X+3) h3 B/\k'=m-i) m
   ⟨0,aB rfl,iJ _,gM,Fx.refl _ h3,rfl⟩ ?_
  rintro k' F h4 ⟨i,⟨g,rfl⟩,hi,b0,F4,rfl⟩
  by_cases a5:(i:Int)<(m:Int)
  case neg=>
   have d4:=bH a5;obtain rfl:i=m:=om
   simp(disch:=omega)only[go_sem,d4];exact⟨aB rfl,b0,F4⟩
  have d4:=oQ a5
  have a3:i<m:=om
  have b1:Fr h2 h4:=⟨by have:=F4.next;omega,λq hq=>by rw[F4.get q om om];exact f3.get q hq⟩
  have b9:h4.get (X+8)=some (.cells false [vL,.mp (X+3),.aE,.sl (X+6) 0 m (.kn m)]):=by rw[F4.get _ om om];exact gB
  obtain⟨vx,cx,sx⟩:=e0 i a3
  have c5:h4.cell (X+8) 1=some (.mp (X+3)):=by rw[H.aF b9];rfl
  simp(disch:=omega)only[go_sem,d4,c0.ixa,cx h4 b1,c5]
  refine (FV vx (L.getD i []) _ (a0 i a3).1 (a0 i a3).2 (sx.mono (b1.trans ((Fr.refl h4).bA om)))).mono ?_
  rintro _ h5 ⟨rfl,f5⟩
  have c2:Fr h4 h5:=((Fr.refl h4).bA om).trans f5
  have n4:=F4.next
  have m3:h5.get (X+3)=some (.wmap .str (Ie L i)):=by rw[c2.get _ om];exact b0
  have p9:h5.cell (X+8) 1=some (.mp (X+3)):=by rw[c2.cell om];exact c5
  have pt:=λB=>Xx E.nodup (show i<L.length by omega) (hK i a3) B (X+3)
  simp(disch:=omega)only[go_sem,p9,m3,pt]
  rw[eJ i]
  refine⟨by simp [dE],m-(i+1),om,i+1,aB rfl,om,rfl,⟨by have:=c2.next;show h3.next<=h5.next;omega,λq d h2=>by rw[H.aG _ (λe=>h2 e),c2.get q om];exact F4.get q d h2⟩,rfl⟩
 rintro F h4 ⟨⟨g,rfl⟩,b0,F4⟩
 have n4:=F4.next
 have b1:Fr h2 h4:=⟨om,λq hq=>by rw[F4.get q om om];exact f3.get q hq⟩
 have b9:h4.get (X+8)=some (.cells false [vL,.mp (X+3),.aE,.sl (X+6) 0 m (.kn m)]):=by rw[F4.get _ om om];exact gB
 have g7:h4.get (X+6)=some (.cells false (rc m λ_=>aC 0)):=by rw[F4.get _ om om];exact gN
 have g4:=f2.trans b1
 have rA:=aI (h:=h4) (id:=A) (ro:=false) (by rw[g4.get _ om];exact g1)
 simp(disch:=omega)only[go_sem,rA]
 refine (Qy _ n O R G h4 (gc.mono (f1.trans g4))).mono ?_
 rintro _ h5 ⟨vS,rfl,nS⟩
 have f5:=nS.fr
 obtain⟨D,hD⟩:=exI h5.next
 obtain⟨h6,e6,n6,g6,o6,f6⟩:=dF hD (rc m λ_=>V.bool false)
 simp(disch:=omega)only[go_sem,f7,Sd,hD,e6]
 have d3:=b1.trans f5
 have q4:=d3.next
 have n5:=f5.next
 obtain⟨wS,WS,f4,d8,r2,q0⟩:=nS.ex
 obtain⟨S,hS⟩:=exI (bQ R)
 rw[hS] at d8
 have m0:=aM.length d8
 have a2: ∀s∈S,G s:=λs hs=>bV gc.isc (by rw[hS];exact hs)
 have b7: ∀x,G x->bX n (λg=>g∈S) x:=λx hx=>by rw[←hS];exact nJ hG gc.isc hx
 obtain⟨sl,e4⟩:=exI S.length
 have q2:sl<=49:=by
  have d: ∀j,j<R.length->(R.getD j []).length<=n:=λj U=>by
   have c3:j<n:=by rw[←gc.isc.lr];exact U
   rw[gc.isc.rl j c3];have:=uQ (λx hx=>hG.cU hx) c3 (gc.isc.asc j c3) (gc.isc.mem j c3);omega
  have h2:=sY (n:=n) (R:=R) (fM _) d;rw[List.take_length,hS,e4,gc.isc.lr] at h2;have:n*n<=7*7:=Nat.mul_le_mul n7 n7;omega
 have p1:=cY.lens f4 (m0.trans e4)
 obtain⟨b8,l0,i6,k8,q1⟩:=SV.shape f4.sv sl om om
 have p2:=cY.ge f4 (n:=sl) om om i6
 have m1: ∀t,t<sl-> ∃vy,(∀B,Fx (λq=>q=X+8∨D<=q) h5 B->B.cell b8 (l0+t)=some vy)/\PV (λq=>q=X+8∨D<=q) h5 vy (S.getD t []):=λt ht=>by
  obtain⟨v,d,b3⟩:=fW.at d8 (i:=t) om;have hi:=k8 om;have q5:h4.next<=b8:=p2 om;refine⟨v,λB f=>?_,b3.Fo λid r3 hw=>q0 id ?_⟩
  ·have e:B.get b8=h5.get b8:=f.get b8 hi om
   unfold H.cell;rw[e];have:=q1 t om;rw[d] at this;exact this
  ·rcases hw with e|e
   ·omega
   ·omega
 have J0:OfJ n G L X D vL h5 0 h6:=
  ⟨⟨.aE, [],λq=>q=D∨q=X+8∨q=X+6,by rw[f6.get _ om,f5.get _ om,hm];exact b9,cY.aE _ _ _,trivial,λ_ _ _ _ e=>(by cases e),.inl rfl,.inr (.inl rfl),.inr (.inr rfl),λq h=>by rcases h with h|h|h<;>omega,λq h=>by rcases h with h|h|h<;>omega,.inl rfl⟩,
   by rw[g6,hm,show (λj=>V.bool (Ib G L 0 [] j))=λ_=>V.bool false from funext λj=>by rw[VK]],Fx.of f6,om⟩
 refine bJ (λvs B=>(∃g:Nat->V,vs= [g 0,.ptr A 0,.nilp,aC 0,vL,g 5,.ptr (X+8) 0,g 7,g 8,g 9,g 10,g 11,g 12,g 13,g 14,g 15,g 16,g 17,g 18,g 19,g 20,g 21,g 22,g 23,g 24,g 25,g 26,g 27,g 28,g 29,g 30,g 31,g 32,g 33,g 34,g 35,g 36,g 37,g 38,g 39,g 40,g 41,g 42,g 43,g 44,g 45])/\OfJ n G L X D vL h5 m B) ?_ ?_
 ·refine aH (λk' vs B=> ∃(i:Nat),(∃g:Nat->V,vs= [g 0,.ptr A 0,.nilp,aC 0,vL,g 5,.ptr (X+8) 0,g 7,g 8,vS,.sl D 0 m (.kn m),g 11,g 12,g 13,g 14,g 15,g 16,g 17,g 18,g 19,g 20,g 21,g 22,g 23,g 24,g 25,g 26,vL,aC m,aC i,g 30,g 31,g 32,g 33,g 34,g 35,g 36,g 37,g 38,g 39,g 40,g 41,g 42,g 43,g 44,g 45])/\i<=m/\OfJ n G L X D vL h5 i B/\k'=m-i) m
   ⟨0,aB rfl,iJ _,J0,rfl⟩ ?_
  clear J0
  rintro k' F h7 ⟨i,⟨g,rfl⟩,hi,J,rfl⟩
  by_cases a5:(i:Int)<(m:Int)
  case neg=>
   have d4:=bH a5;obtain rfl:i=m:=om
   simp(disch:=omega)only[go_sem,d4];exact⟨aB rfl,J⟩
  have d4:=oQ a5
  have a3:i<m:=om
  have nD:=J.nx
  have a8:Fr h2 h7:=⟨om,λq hq=>by rw[J.old.get q om om];exact d3.get q hq⟩
  obtain⟨vx,cx,sx⟩:=e0 i a3
  have cD:=Bw J.gD (i:=i) om
  by_cases hr:HV G L i
  case neg=>
   have d2:Ib G L i [] i=true:=by
    rw[nG];exact .inl (Jg λhn=>hr λj U hc=>hn ⟨j,U,hc⟩)
   rw[d2] at cD;simp(disch:=omega)only[go_sem,d4,c0.ixa,cx h7 a8,cD];rw[eJ i];refine⟨m-(i+1),om,i+1,aB rfl,om,?_,rfl⟩;refine⟨?_,?_,J.old,J.nx⟩
   ·rw[(Nx i).2 hr];exact J.ex
   ·rw[J.gD,dB λj _=>by rw[RU hG E (show i<L.length by omega) hr j]]
  have d2:Ib G L i [] i=false:=by
   rw[←Bool.not_eq_true,nG];rintro (⟨j,U,hc⟩|h)
   ·exact hr j U hc
   ·cases h
  rw[d2] at cD
  obtain⟨h8,e8,n8,g8,o8⟩:=pJ h7 D ((rc L.length λj=> .bool (Ib G L i [] j)).set i (.bool true))
  obtain⟨Z,hZ⟩:=exI h8.next
  obtain⟨h9,e9,n9,g9,o9,f9⟩:=dF hZ [aC i]
  have pt:=bN (vs:=rc L.length λj=> .bool (Ib G L i [] j)) (off:=i) (by rw[Df];omega)
  clear bx gc sO sR rB rA i9 g7 b9 g1 o1 f1 f3 gB gN gM
  simp(disch:=omega)only[go_sem,d4,c0.ixa,cx h7 a8,cD,J.gD,pt,e8,cT h8 (z:= aC 0) (v:= aC i) rfl rfl,hZ,e9]
  have r4:h7.next=Z:=om
  have b2:(rc L.length λj=>V.bool (Ib G L i [] j)).set i (.bool true)=rc L.length λj=> .bool (Ib G L i [i] j):=by
   rw[mS]
   exact dB λj _=>by
    rw[show [i]= []++ [i] from rfl,Wt]
    by_cases e:j=i
    ·rw[bF e,bF e]
    ·rw[bI e,bI e]
  have d7:Fx (· =D) h7 h9:=⟨om,λq d h2=>by rw[o9 q om,o8 q h2]⟩
  have B0:BQ G L S i [i] 0:=⟨by simp,by simp,rfl,λj U=>by
   obtain rfl:j=i:=by simpa using U
   exact⟨om,Uw hG E om⟩,λk hk=>om⟩
  refine bJ (λvs B=> ∃(Q:List Nat) (q:Nat) (o:Kh),(∃g:Nat->V,vs= [g 0,.ptr A 0,.nilp,aC 0,vL,g 5,.ptr (X+8) 0,g 7,g 8,vS,.sl D 0 m (.kn m),aC i,vx,.sl q 0 Q.length o,g 14,g 15,g 16,g 17,g 18,g 19,g 20,g 21,g 22,g 23,g 24,g 25,g 26,vL,aC m,aC i,g 30,g 31,g 32,g 33,g 34,g 35,g 36,g 37,g 38,g 39,g 40,g 41,g 42,g 43,g 44,g 45])/\
    BQ G L S i Q Q.length/\(o= .un 1∨o= .kn Q.length)/\B.get q=some (.cells false (ints (zi Q)))/\Z<=q/\q<B.next/\B.get D=some (.cells false (rc L.length λj=> .bool (Ib G L i Q j)))/\Fx (· =D) h7 B) ?_ ?_
  ·refine aH (λk' vs B=> ∃(Q:List Nat) (q:Nat) (o:Kh) (p:Nat),(∃g:Nat->V,vs= [g 0,.ptr A 0,.nilp,aC 0,vL,g 5,.ptr (X+8) 0,g 7,g 8,vS,.sl D 0 m (.kn m),aC i,vx,.sl q 0 Q.length o,aC p,g 15,g 16,g 17,g 18,g 19,g 20,g 21,g 22,g 23,g 24,g 25,g 26,vL,aC m,aC i,g 30,g 31,g 32,g 33,g 34,g 35,g 36,g 37,g 38,g 39,g 40,g 41,g 42,g 43,g 44,g 45])/\
    p<=Q.length/\BQ G L S i Q p/\(o= .un 1∨o= .kn Q.length)/\B.get q=some (.cells false (ints (zi Q)))/\Z<=q/\q<B.next/\B.get D=some (.cells false (rc L.length λj=> .bool (Ib G L i Q j)))/\Fx (· =D) h7 B/\k'=m-p) m
    ⟨[i],Z,_,0,aB rfl,iJ _,B0,.inr rfl,g9,fM _,om,by rw[o9 _ om,g8,b2],d7,rfl⟩ ?_
   clear d7 B0 e8 n8 g8 o8 hZ e9 n9 g9 o9 f9 pt b2
   rintro k' F ha ⟨Q,q,o,p,⟨g2,rfl⟩,hp,l,K,gq,hq,nq,gD,Fa,rfl⟩
   have b5:=l.len
   by_cases c7:(p:Int)<(Q.length:Int)
   case neg=>
    have d5:=bH c7;obtain rfl:p=Q.length:=om
    simp(disch:=omega)only[go_sem,d5];exact⟨Q,q,o,aB rfl,l,K,gq,hq,nq,gD,Fa⟩
   have d5:=oQ c7
   have N:p<Q.length:=om
   simp(disch:=omega)only[go_sem,d5,p1]
   obtain⟨c,hc⟩:=exI (Q.getD p 0)
   obtain⟨j9,o0⟩:=l.mem c (by rw[←hc];exact bD N)
   have Cp:=lY hG E j9
   refine xE (λvs B=> ∃(Q:List Nat) (q:Nat) (o:Kh),(∃g:Nat->V,vs= [g 0,.ptr A 0,.nilp,aC 0,vL,g 5,.ptr (X+8) 0,g 7,g 8,vS,.sl D 0 m (.kn m),aC i,vx,.sl q 0 Q.length o,aC p,g 15,g 16,g 17,g 18,g 19,g 20,g 21,g 22,g 23,g 24,g 25,g 26,vL,aC m,aC i,g 30,g 31,g 32,g 33,g 34,g 35,g 36,g 37,g 38,g 39,g 40,g 41,g 42,g 43,g 44,g 45])/\
     p<Q.length/\BQ G L S i Q (p+1)/\(o= .un 1∨o= .kn Q.length)/\B.get q=some (.cells false (ints (zi Q)))/\Z<=q/\q<B.next/\B.get D=some (.cells false (rc L.length λj=> .bool (Ib G L i Q j)))/\Fx (· =D) h7 B) ?_ ?_
   ·refine aH (λk' vs B=> ∃(Q:List Nat) (q:Nat) (o:Kh) (t:Nat),(∃g:Nat->V,vs= [g 0,.ptr A 0,.nilp,aC 0,vL,g 5,.ptr (X+8) 0,g 7,g 8,vS,.sl D 0 m (.kn m),aC i,vx,.sl q 0 Q.length o,aC p,g 15,g 16,g 17,g 18,g 19,g 20,g 21,g 22,g 23,g 24,g 25,g 26,vL,aC m,aC i,g 30,g 31,g 32,vS,aC sl,aC t,g 36,g 37,g 38,g 39,g 40,g 41,g 42,g 43,g 44,g 45])/\
     p<Q.length/\t<=sl/\BQ G L S i Q p/\Q.getD p 0=c/\(∀s∈S.take t,∃j∈Q,L.getD j []=cW (L.getD c []) s)/\(o= .un 1∨o= .kn Q.length)/\B.get q=some (.cells false (ints (zi Q)))/\Z<=q/\q<B.next/\B.get D=some (.cells false (rc L.length λj=> .bool (Ib G L i Q j)))/\Fx (· =D) h7 B/\k'=sl-t) sl
     ⟨Q,q,o,0,aB rfl,N,iJ _,l,hc,λs hs=>(by simp at hs),K,gq,hq,nq,gD,Fa,rfl⟩ ?_
    clear l K gq hq nq gD Fa hc N b5 c7 d5 hp
    clear Q q o
    rintro k' F hb ⟨Q,q,o,t,⟨g3,rfl⟩,N,ht,l,hc,f0,K,gq,hq,nq,gD,Fb,rfl⟩
    by_cases g0:(t:Int)<(sl:Int)
    case neg=>
     have d5:=bH g0;obtain rfl:t=sl:=om
     simp(disch:=omega)only[go_sem,d5];refine⟨Q,q,o,aB rfl,N,⟨l.nd,l.ne,l.hd,l.mem,λk hk s hs=>?_⟩,K,gq,hq,nq,gD,Fb⟩
     by_cases e:k=p
     ·subst e
      rw[hc];exact f0 s (by rw[←e4,List.take_length];exact hs)
     ·exact l.cl k om s hs
    have d5:=oQ g0
    have o4:t<sl:=om
    have b5:=l.len
    have nb:=Fb.next
    have d9:Fx (λq=>q=X+8∨D<=q) h5 hb:=⟨by have:=J.old.next;omega,λq d h2=>by rw[Fb.get q om (λe=>h2 (.inr (by have:q=D:=e;omega)))];exact J.old.get q d h2⟩
    have c8:Fr h2 hb:=⟨om,λq hq=>by rw[Fb.get q om (λe=>by have:q=D:=e;omega)];exact a8.get q hq⟩
    obtain⟨vy,cy,py⟩:=m1 t o4
    obtain⟨vz,cz,sz⟩:=e0 c om
    obtain⟨s,hs⟩:=exI (S.getD t [])
    rw[hs] at py
    have c6:s∈S:=by rw[←hs];exact bD om
    have Sp:=hG.cU (a2 s c6)
    have cq:hb.cell q p=some (aC c):=by rw[H.aF gq,Ip N,hc]
    simp(disch:=omega)only[go_sem,d5,i6.ixa,cy hb d9,cq,c0.ixa,cz hb c8]
    refine (Ce uG.ok vy n s _ om Sp ((py.fx d9).si.mono ((Fr.refl hb).bA om))).mono ?_
    rintro p3 k1 j7
    have K1:Fr hb k1:=((Fr.refl hb).bA om).trans j7.fr
    have p0:k1.cell q p=some (aC c):=by rw[K1.cell nq];exact cq
    have ez:=sz.dE
    simp(disch:=omega)only[go_sem,p0,cz k1 (c8.trans K1),ez]
    refine (Ws p3 vz (dA s) (L.getD c []) k1 (by rw[jQ,Sp.len];omega) (j7.pv (W:=λ_=>False) id).si (sz.mono (c8.trans K1)) (λj U=>by rw[Cp.len];exact Sp.inv.iN (by rw[←Sp.inv.len];exact U))).mono ?_
    rintro l7 k2 h0
    have K2:=K1.trans h0.fr
    have P2:=Sp.inv.mul Cp
    simp(disch:=omega)only[go_sem]
    refine (Ws l7 vy _ s k2 (by rw[P2.len];omega) (h0.pv (W:=λ_=>False) id).si ((py.fx d9).si.mono K2) (λj U=>by rw[Sp.len];exact P2.iN (by rw[←P2.len];exact U))).mono ?_
    rintro m9 k3 k9
    have K3:=K2.trans k9.fr
    have P3:=P2.mul Sp
    have o2:k3.cell q p=some (aC c):=by rw[K3.cell nq];exact cq
    have d1:=(k9.pv (W:=λ_=>False) id).si
    have q8:=d1.cK.2.1
    have e7: ∃vK,k3.get (X+8)=some (.cells false [vL,.mp (X+3),vK,.sl (X+6) 0 L.length (.kn L.length)]):=by
     obtain⟨vK,_,_,gB,_⟩:=J.ex;exact⟨vK,by rw[K3.get _ om,Fb.get _ om (λe=>by have:X+8=D:=e;omega)];exact gB⟩
    obtain⟨vK,e7⟩:=e7
    have j3:k3.cell (X+8) 1=some (.mp (X+3)):=by rw[H.aF e7];rfl
    obtain⟨j,U,ej⟩: ∃j,j<L.length/\L.getD j []=cW (L.getD c []) s:=by
     have p6:cW (L.getD c []) s∈L:=(E.mem _).2 (hG.mul (hG.mul (hG.inv (a2 s c6)) (oS E j9)) (a2 s c6));obtain⟨j,U,ej⟩:=zF.1 p6;exact⟨j,U,by rw[List.getD,dD U,←ej];rfl⟩
    have n2:aX (aX (dA s) (L.getD c [])) s=L.getD j []:=ej.symm
    rw[n2] at d1
    simp(disch:=omega)only[go_sem,o2,cz k3 (c8.trans K3),j3,ez]
    refine (FV m9 (L.getD j []) _ (a0 j om).1 (a0 j om).2 (d1.mono ((Fr.refl k3).bA om))).mono ?_
    rintro _ k4 ⟨rfl,p5⟩
    have i3:Fr k3 k4:=((Fr.refl k3).bA om).trans p5
    have K4:=K3.trans i3
    have q9:=K3.next
    have c9:k4.get (X+3)=some (.wmap .str (Ie L L.length)):=by
     rw[K4.get _ om,Fb.get _ om (λe=>by have:X+3=D:=e;omega),J.old.get _ om om,f5.get _ om,hm];exact b0
    have j6:k4.cell (X+8) 1=some (.mp (X+3)):=by rw[i3.cell om];exact j3
    have lk:=λz=>Np E.nodup U (hK j om) z
    have c1:k4.cell D j=some (.bool (Ib G L i Q j)):=by rw[K4.cell om];exact Bw gD U
    have i8:cR G L i j:=wJ hG E om o0 ⟨s,a2 s c6,ej.symm⟩
    have j5:S.take (t+1)=S.take t++ [s]:=by rw[cE [] om,hs]
    have f8:k4.get q=some (.cells false (ints (zi Q))):=by rw[K4.get _ nq];exact gq
    have j0:k4.get D=some (.cells false (rc L.length λj=> .bool (Ib G L i Q j))):=by rw[K4.get _ om];exact gD
    have k0:Fx (· =D) h7 k4:=⟨by have:=K4.next;omega,λq d h2=>by rw[K4.get q om];exact Fb.get q d h2⟩
    cases hsn2:Ib G L i Q j with
    |true=>
     rw[hsn2] at c1
     have d6:j∈Q:=by
      rcases nG.1 hsn2 with ⟨i0,d,b3⟩|d
      ·exact absurd (wJ hG E om b3 (Ls hG E om i8)) (hr i0 d)
      ·exact d
     simp(disch:=omega)only[go_sem,j6,c9,lk,c1];rw[eJ t];refine⟨by simp [dE],sl-(t+1),om,Q,q,o,t+1,aB rfl,N,om,l,hc,?_,K,f8,hq,by have:=K4.next;omega,j0,k0,rfl⟩;rw[j5];intro s' a9;rcases pH.1 a9 with d|d
     ·exact f0 s' d
     ·obtain rfl:s'=s:=by simpa using d
      exact⟨j,d6,ej⟩
    |false=>
     rw[hsn2] at c1;have d6:j∉Q:=λd=>by rw[nG.2 (.inr d)] at hsn2;cases hsn2
     obtain⟨k5,e5,m5,g5,o5⟩:=pJ k4 D ((rc L.length λj=> .bool (Ib G L i Q j)).set j (.bool true));obtain⟨Y,hY⟩:=exI k5.next;obtain⟨k6,l9,m6,l4,e3,q6⟩:=dF hY [aC j];have pt:=bN (vs:=rc L.length λj=> .bool (Ib G L i Q j)) (off:=j) (by rw[Df];exact U);have nk:=K4.next;have o7:k6.get q=some (.cells false (ints (zi Q))):=by rw[e3 _ om,o5 _ om];exact f8
     have m8:cY k6 (.sl q 0 Q.length o) 1 (ints (zi Q)) 0:= .inr ⟨q,Q.length,o, [],rfl,by rw[fT,aQ];simp,by rcases K with d|d;exact .inl d;exact .inr ⟨d,rfl⟩,iJ _,om,by rw[vF];exact o7⟩;obtain⟨k7,a7,p7⟩:=m8.push (bytes:=8) (SV.one (v:= aC j) (id:=Y) om l4 (.kn 1)) (n:=Q.length) (m:=1) (by rw[fT,aQ];simp) rfl om om om;simp(disch:=omega)only[go_sem,j6,c9,lk,c1,j0,pt,e5,cT k5 (z:= aC 0) (v:= aC j) rfl rfl,hY,l9,a7];rw[eJ t];have el:ints (zi (Q++ [j]))=ints (zi Q)++ [aC j]:=by simp [zi,ints]
     have m7:=p7.next;have p4:dL (.sl q 0 Q.length o) D:=λid off n c e e2=>by cases e;omega
     have b2:(rc L.length λj'=>V.bool (Ib G L i Q j')).set j (.bool true)=rc L.length λj'=> .bool (Ib G L i (Q++ [j]) j'):=by
      rw[mS]
      exact dB λj' _=>by
       rw[Wt]
       by_cases e:j'=j
       ·rw[bF e,bF e]
       ·rw[bI e,bI e]
     refine⟨by simp [dE],sl-(t+1),om,Q++ [j],k6.next,.un 1,t+1,by rw[jZ];exact aB rfl,by rw[jZ];omega,om,⟨?_,by rw[jZ];simp,?_,?_,?_⟩,?_,?_,.inl rfl,by rw[el];exact p7.get,om,om,?_,?_,rfl⟩
     ·rw[List.nodup_append]
      exact⟨l.nd,by simp,λx hx y hy e=>by
       obtain rfl:y=j:=by simpa using hy
       exact d6 (e▸hx)⟩
     ·rw[List.getD,Dv l.ne];exact l.hd
     ·intro x hx
      rcases pH.1 hx with d|d
      ·exact l.mem x d
      ·obtain rfl:x=j:=by simpa using d
       exact⟨U,i8⟩
     ·intro k hk s' a9
      obtain⟨y,hy,ey⟩:=l.cl k hk s' a9;refine⟨y,pH.2 (.inl hy),?_⟩;rw[ey,List.getD,List.getD,List.getD,List.getD,Dv om]
     ·rw[List.getD,Dv N];exact hc
     ·rw[j5]
      intro s' a9;rcases pH.1 a9 with d|d
      ·obtain⟨y,hy,ey⟩:=f0 s' d
       exact⟨y,pH.2 (.inl hy),ey⟩
      ·obtain rfl:s'=s:=by simpa using d
       exact⟨j,pH.2 (.inr (by simp)),ej⟩
     ·rw[p7.old D om p4,e3 D om,g5,b2]
     ·refine⟨om,λx d h2=>?_⟩
      rw[p7.old x om (λid off n c e e2=>by cases e;omega),e3 x om,o5 x h2];exact k0.get x d h2
   clear l K gq hq nq gD Fa hc c7 d5 hp N b5
   clear Q q o
   rintro F hb ⟨Q,q,o,⟨g3,rfl⟩,N,a4,K,gq,hq,nq,gD,Fb⟩
   have b5:=a4.len
   simp(disch:=omega)only[go_sem]
   rw[eJ p]
   exact⟨m-(p+1),om,Q,q,o,p+1,aB rfl,om,a4,K,gq,hq,nq,gD,Fb,rfl⟩
  clear d7 B0 e8 n8 g8 o8 hZ e9 n9 g9 o9 f9 pt b2
  rintro F hb ⟨Q,q,o,⟨g3,rfl⟩,a4,K,gq,hq,nq,gD,Fb⟩
  have b5:=a4.len
  have nb:=Fb.next
  have l2:=Lm hb q (zi Q) o (by rw[aQ];omega) gq nq
  rw[aQ] at l2
  simp(disch:=omega)only[go_sem]
  refine l2.mono ?_
  rintro _ ka ⟨l',gl,pl,al,Fa⟩
  obtain rfl:=a4.sort hG E (fM _) om a2 b7 pl al
  have l3:Q.length=(kY G L i).length:=by have:=pl.length_eq;rw[aQ,aQ] at this;exact this.symm
  have na:=Fa.next
  have m2:Fr h2 ka:=⟨om,λx hx=>by rw[Fa.get x om (λe=>by have:x=q:=e;omega),Fb.get x om (λe=>by have:x=D:=e;omega)];exact a8.get x hx⟩
  have X1:=lY hG E (show i<L.length by omega)
  simp(disch:=omega)only[go_sem]
  refine (SH vx n (L.getD i []) ka n0 n7 X1 (sx.mono m2)).mono ?_
  rintro _ kb ⟨rfl,fb⟩
  have r5:=fb.next
  obtain⟨vK,ks,WK,gB,a6,aK,bK,wD,wB,wN,wn,wX,_⟩:=J.ex
  have r6:=aM.length aK
  have i1:kb.get (X+8)=some (.cells false [vL,.mp (X+3),vK,.sl (X+6) 0 L.length (.kn L.length)]):=by
   rw[fb.get _ om,Fa.get _ om (λe=>by have:X+8=q:=e;omega),Fb.get _ om (λe=>by have:X+8=D:=e;omega)];exact gB
  have c5:kb.cell (X+8) 2=some vK:=by rw[H.aF i1];rfl
  have b6:=sx.cK.2.1
  have r0:=a6.sv.dE
  obtain⟨Y,hY⟩:=exI kb.next
  obtain⟨kc,ec,mc,l5,oc,fc⟩:=dF hY [vx,aC (qF (L.getD i []) n:Nat),aC (Q.length:Int),.sl q 0 Q.length o]
  have b4: ∀x,x<Z->x≠D->kc.get x=h7.get x:=λx d h2=>by
   rw[oc x om,fb.get x om,Fa.get x om (λe=>by have:x=q:=e;omega),Fb.get x om h2]
  have j8:cY kc vK 4 (Cls.qY ks) (D+1):=a6.mono om λid off n' c e d h2=>b4 id om om
  have lr:=Co (G:=G) (L:=L) i
  obtain⟨kd,ad,pd⟩:=j8.push (bytes:=64) (y:= .sl Y 0 1 (.kn 1)) (us:= [vx,aC (qF (L.getD i []) n:Nat),aC (Q.length:Int),.sl q 0 Q.length o]) (SV.all rfl om l5 _) (n:=ks.length) (m:=1) (Re ks) rfl om om om
  have md:=pd.next
  have l6:dL vK (X+8):=λid off n' c e e2=>by have:=(a6.in _ _ _ _ e).2.1;omega
  have l8:kd.get (X+8)=some (.cells false [vL,.mp (X+3),vK,.sl (X+6) 0 L.length (.kn L.length)]):=by
   rw[pd.old _ om l6,oc _ om];exact i1
  obtain⟨ke,ee,me,ge,oe⟩:=pJ kd (X+8) [vL,.mp (X+3),.sl kc.next 0 (ks.length+1) (.un 4),.sl (X+6) 0 L.length (.kn L.length)]
  simp(disch:=omega)only[go_sem,c5,JS sx.cK.1 b6,MT b6 (w:= .sl q 0 Q.length o) rfl rfl,MI b6 (w:= .sl q 0 Q.length o) rfl,hY,ec,ad,l8,HY,ee]
  rw[eJ i]
  have i7: ∀x,x<Z-> ¬WK x->ke.get x=h7.get x:=λx d h2=>by
   rw[oe x (λe=>h2 (e▸wB)),pd.old x om (λid off n' c e e2=>h2 (e2▸bK _ _ _ _ e)),b4 x d (λe=>h2 (e▸wD))]
  have FK:Fx WK h7 ke:=⟨om,λx d h2=>i7 x om h2⟩
  have o3:Fr h2 ke:=⟨om,λx hx=>by rw[i7 x om (λd=>by have:=wX x d;omega)];exact a8.get x hx⟩
  have j2:Cls.qY (ks++ [⟨vx,qF (L.getD i []) n,Q.length,.sl q 0 Q.length o,i,⟨sx.cK.1,b6,sx.dE⟩,⟨rfl,rfl,by simp [dE]⟩⟩])=Cls.qY ks++ [vx,aC (qF (L.getD i []) n:Nat),aC (Q.length:Int),.sl q 0 Q.length o]:=by
   simp [Cls.qY,Cls.KE.enc]
  refine⟨m-(i+1),om,i+1,aB rfl,om,⟨⟨_,ks++ [⟨vx,qF (L.getD i []) n,Q.length,.sl q 0 Q.length o,i,⟨sx.cK.1,b6,sx.dE⟩,⟨rfl,rfl,by simp [dE]⟩⟩],λx=>WK x∨x=kc.next,ge,?_,?_,λid off n' c e=>by cases e;exact .inr rfl,   .inl wD,.inl wB,.inl wN,λx h=>by rcases h with h|h;have:=wn x h;omega;omega,λx h=>by rcases h with h|h;exact wX x h;omega,.inr ⟨_,_,by rw[jZ];rfl,?_⟩⟩,?_,?_,om⟩,rfl⟩
  ·rw[j2]
   exact (pd.own (b:=D+1) (Re ks) rfl om).mono om λid off n' c e d h2=>by cases e;exact oe _ om
  ·rw[(Nx i).1 hr]
   refine aM.append (aK.mono λa r k=>k.go FK om wX λx d h2=>by rcases h2 with h2|h2;exact h2;omega) ⟨⟨rfl,rfl,l3,⟨sx.mono o3,?_⟩,⟨?_,?_⟩⟩,trivial⟩
   ·rw[←hX];exact afI sx
   ·rw[l3]
    refine SV.all (ro:=false) (by rw[fT,aQ,uW]) om ?_ _
    rw[oe q om,pd.old q om (λid off n' c e e2=>by have:=wn _ (bK _ _ _ _ e);omega),oc q om,fb.get q om]
    exact gl
   ·exact λh=>by rcases h with h|h;have:=wn _ h;omega;omega
  ·rw[j2,oe _ om];exact pd.get
  ·rw[oe D om,pd.old D om (λid off n' c e e2=>by have:=(a6.in _ _ _ _ e).2.1;omega),oc D om,fb.get D om,Fa.get D om (λe=>by have:D=q:=e;omega),gD,dB λj U=>by rw[NU hG E (show i<L.length by omega) a4 a2 b7 U]]
  ·refine⟨by have:=J.old.next;omega,λx d h2=>?_⟩
   have p8:x≠X+8:=λe=>h2 (.inl e)
   have q7:x<D:=om
   rw[oe x p8,pd.old x om (λid off n' c e e2=>by have:=(a6.in _ _ _ _ e).2.1;omega),b4 x om om]
   exact J.old.get x d h2
 rintro F h7 ⟨⟨g,rfl⟩,J⟩
 exact hk L X D vL h2 h5 h7 A g hL ⟨E,om,f1.trans f2,hX,nw.sp,d3,om,hD,by rw[f5.get _ om,hm];exact b0,by rw[f5.get _ om,hm];exact g7,by rw[hm];exact J⟩
end
open Classical in
noncomputable def UN (G:List Nat->Prop)(L:LN)(K:List Nat)(j:Nat):Nat:=K.findIdx λr=>decide (cR G L r j)
structure KR (n:Nat)(G:List Nat->Prop)(L:LN)(hh:H)(a:Cls.KE)(r:Nat):Prop where
 fst:a.fst=r
 ord:a.ord=qF (L.getD r []) n
 size:a.size=(kY G L r).length
 rep:SI hh a.rep (zi (L.getD r []))
 ranks:SI hh a.ranks (zi (kY G L r))
theorem KR.mono {n:Nat}{G:List Nat->Prop}{L:LN}{h h':H}{a:Cls.KE}{r:Nat}(k:KR n G L h a r)(f:Fr h h'):KR n G L h' a r:=⟨k.fst,k.ord,k.size,k.rep.mono f,k.ranks.mono f⟩
def kLt (n:Nat)(G:List Nat->Prop)(L:LN)(r s:Nat):Prop:=qF (L.getD r []) n<qF (L.getD s []) n∨qF (L.getD r []) n=qF (L.getD s []) n/\((kY G L r).length<(kY G L s).length∨(kY G L r).length=(kY G L s).length/\r<s)
structure Cm (n:Nat)(G:List Nat->Prop)(L:LN)(K:List Nat):Prop where
 perm:K.Perm (jW G L L.length)
 asc:K.Pairwise (kLt n G L)
structure acQ (n:Nat)(G:List Nat->Prop)(L:LN)(K:List Nat)(hh:H)(v:V):Prop where
 ex: ∃B M N S cp vL ks,v= .ptr B 0/\B<hh.next/\M<hh.next/\N<hh.next/\S<hh.next/\hh.get B=some (.cells false [vL,.mp M,.sl S 0 K.length cp,.sl N 0 L.length (.kn L.length)])/\
  hh.get M=some (.wmap .str (Ie L L.length))/\hh.get N=some (.cells false (rc L.length λj=> aC (UN G L K j:Nat)))/\hh.get S=some (.cells false (Cls.qY ks))/\aM (KR n G L hh) ks K/\SP hh vL L
theorem acQ.mono {n:Nat}{G:List Nat->Prop}{L:LN}{K:List Nat}{h h':H}{v:V}(g:acQ n G L K h v)(f:Fr h h'):acQ n G L K h' v:=by
 obtain⟨B,M,N,S,o,d,m,e,b,i,q,c,l,p,j,r,a,sp⟩:=g.ex;have s:=f.next;exact⟨B,M,N,S,o,d,m,e,om,om,om,om,by rw[f.get _ b];exact l,by rw[f.get _ i];exact p,by rw[f.get _ q];exact j,by rw[f.get _ c];exact r,a.mono λ_ _ k=>k.mono f,sp.mono f⟩
section
variable {n:Nat} {G:List Nat->Prop} {L:LN} {K:List Nat} (hG:iX n G) (E:dW G L)
include hG E
omit hG E in
theorem Lz (a:0<L.length):0∈jW G L L.length:=kV.2 ⟨a,λj b=>om⟩
theorem aoQ (l:K.Perm (jW G L L.length)){k:Nat}(c:k<K.length){j:Nat}(q:j∈kY G L (K.getD k 0)):UN G L K j=k:=by
 classical
 obtain⟨p,d⟩:=tA.1 q;have f:K.Nodup:=l.nodup_iff.2 (by unfold jW;exact List.Pairwise.filter _ List.nodup_range);have o: ∀r∈K,r<L.length/\HV G L r:=λr t=>kV.1 (l.mem_iff.1 t)
 unfold UN;rw[List.findIdx_eq c];have s:K.getD k 0=K[k]:=Pm.cJ c;rw[s] at d;refine⟨by simpa using d,λi hi=>?_⟩;simp only[decide_eq_false_iff_not];intro b;have m:=o K[i] (zG _);have h:=o K[k] (zG _);have:=VQ hG E m.1 h.1 m.2 h.2 b d;have a:=JX.1 f i k om c hi;exact a this
theorem MF (i:K.Perm (jW G L L.length)){j:Nat}(b:j<L.length): ∃k,k<K.length/\j∈kY G L (K.getD k 0):=by
 obtain⟨r,l,c,d⟩:=Vo hG E b;have h:r∈K:=i.mem_iff.2 (kV.2 ⟨om,c⟩);obtain⟨k,a,f⟩:=zF.1 h;exact⟨k,a,tA.2 ⟨b,by rw[Pm.cJ a,f];exact d⟩⟩
end
open Classical in
noncomputable def Qd (G:List Nat->Prop)(L:LN)(K:List Nat)(k t j:Nat):Nat:=if (∃k0,k0<k/\j∈kY G L (K.getD k0 0))∨j∈(kY G L (K.getD k 0)).take t then UN G L K j else 0
theorem RL (G:List Nat->Prop)(L:LN)(K:List Nat)(j:Nat):Qd G L K 0 0 j=0:=by
 classical
 unfold Qd;rw[bI];rintro (⟨a,h,_⟩|h)
 ·omega
 ·simp at h
theorem VY (G:List Nat->Prop)(L:LN)(K:List Nat)(k j:Nat):Qd G L K k (kY G L (K.getD k 0)).length j=Qd G L K (k+1) 0 j:=by
 classical
 unfold Qd;rw[List.take_length,List.take_zero]
 have e:((∃a,a<k/\j∈kY G L (K.getD a 0))∨j∈kY G L (K.getD k 0))↔((∃a,a<k+1/\j∈kY G L (K.getD a 0))∨j∈([]:List Nat)):=by
  constructor
  ·rintro (⟨a,c,b⟩|h)
   ·exact .inl ⟨a,om,b⟩
   ·exact .inl ⟨k,om,h⟩
  ·rintro (⟨a,c,b⟩|h)
   ·by_cases e:a=k
    ·subst e;exact .inr b
    ·exact .inl ⟨a,om,b⟩
   ·cases h
 by_cases h:((∃a,a<k/\j∈kY G L (K.getD a 0))∨j∈kY G L (K.getD k 0))
 ·rw[bF h,bF (e.1 h)]
 ·rw[bI h,bI (λx=>h (e.2 x))]
theorem PO {n:Nat}{G:List Nat->Prop}{L:LN}{K:List Nat}(hG:iX n G)(E:dW G L)(c:K.Perm (jW G L L.length)){k:Nat}(b:k<K.length){t:Nat}(a:t<(kY G L (K.getD k 0)).length)(j:Nat):
  Qd G L K k (t+1) j=if j=(kY G L (K.getD k 0)).getD t 0 then k else Qd G L K k t j:=by
 classical
 by_cases e:j=(kY G L (K.getD k 0)).getD t 0
 ·rw[bF e]
  have d:j∈kY G L (K.getD k 0):=by rw[e];exact bD a
  unfold Qd
  rw[bF (.inr (by rw[cE 0 a,e];simp))]
  exact aoQ hG E c b d
 ·rw[bI e]
  unfold Qd
  rw[cE 0 a]
  simp only[pH,List.mem_singleton,e,or_false]
theorem QO {n:Nat}{G:List Nat->Prop}{L:LN}{K:List Nat}(hG:iX n G)(E:dW G L)(d:K.Perm (jW G L L.length)){j:Nat}(a:j<L.length):Qd G L K K.length 0 j=UN G L K j:=by
 classical
 obtain⟨k,c,b⟩:=MF hG E d a;unfold Qd;rw[bF (.inl ⟨k,c,b⟩)]
theorem Jl {h:H}{S:Nat}{ro:Bool}: ∀{ks:List Cls.KE} {pre:List V},h.get S=some (.cells ro (pre++Cls.qY ks))-> ∀{i:Nat} (hi:i<ks.length),h.row S (pre.length+i*4) 4=some ks[i].enc
 | [],_,_,_,hi=>by simp at hi
 |a::r,pre,g,0,_=>by
  unfold H.row;rw[g];show sub (pre++(a.enc++Cls.qY r)) (pre.length+0*4) 4=some a.enc;simp only[sub,Nat.zero_mul,Nat.add_zero];have:a.enc.length=4:=rfl;rw[bF (by rw[jZ,jZ];omega),List.drop_left,List.take_append,Tn om,this];simp
 |a::r,pre,g,i+1,hi=>by
  have b:h.get S=some (.cells ro ((pre++a.enc)++Cls.qY r)):=by rw[g,Ll];rfl
  have:=Jl b (i:=i) (by simpa using hi);rw[jZ,show a.enc.length=4 from rfl] at this;rw[show pre.length+(i+1)*4=pre.length+4+i*4 by omega];simpa using this
theorem VP (h:H)(id off:Nat)(a:Cls.KE):Wj h 4 (.ptr id off) (.agg a.enc)=dX (h.get id) h id off a.enc:=Cd h id off 4 _ rfl (by simp [Cls.KE.enc,a.hrep.2.1,a.hranks.2.1,show (aC (a.ord:Int)).one=true from rfl,show (aC (a.size:Int)).one=true from rfl])
theorem SD (b:H)(id:Nat)(a:Cls.KE)(x y z w:V):dX (some (.cells false [x,y,z,w])) b id 0 a.enc=some (b.set id (some (.cells false a.enc))):=by
 simp [dX,putAt,Cls.KE.enc]
theorem aM.ex {α β:Type}{R:α->β->Prop}{d:List α}{c:List β}(h:aM R d c){a:α}(f:a∈d): ∃b∈c,R a b:=by
 obtain⟨i,hi,rfl⟩:=zF.1 f;have j:=aM.length h;exact⟨c[i]'om,zG _,aM.get h i hi om⟩
theorem SI.lit {h:H}{v:V}{l:List Int}(s:SI h v l)(r:0<l.length): ∃id off m cap,v= .sl id off (m+1) cap/\m+1=l.length/\id<h.next/\ ∀i,i<l.length->h.cell id (off+i)=some (aC (l.getD i 0)):=by
 obtain⟨id,off,j,q,o⟩:=s.open;rcases s with ⟨_,f⟩|⟨b,a,len,cap,u,w,e,d,p,_⟩
 ·have:l.length=0:=by rw[←fT,f];rfl
  omega
 ·rw[fT,uW] at d
  have c:=j.ixa .i64 0 om om;subst e;rw[Lg om om] at c;simp only[Option.some.injEq,V.ptr.injEq] at c;obtain⟨rfl,t⟩:=c;have k:a=off:=om
  subst k;exact⟨b,a,l.length- 1,cap,by rw[show l.length- 1+1=len by omega],om,p,o⟩
theorem ahJ {W0:Nat->Prop}(vc:V)(n:Nat)(O:LN)(R:jI)(G:List Nat->Prop)(h:H)(gc:GC W0 h vc n O R G):
  Ev T 139 [vc] h (λv h'=> ∃p K,v= .tup [p,aC 0]/\acQ n G (cZ O R n 0 (bL n)) K h' p/\Cm n G (cZ O R n 0 (bL n)) K/\Fr h h'):=by
 refine WY vc n O R G h gc _ λL X D vL s h5 N A g hL e=>?_
 rw[hL]
 have hG:=gc.dN
 have E:=e.el
 obtain⟨vK,J,WK,gB,c5,aK,bK,wD,wB,wN,wn,wX,xK⟩:=e.j.ex
 have a0:=aM.length aK
 obtain⟨m,hm⟩:=exI L.length
 have h0:0<L.length:=HJ ((E.mem _).2 hG.one)
 have c1:0<J.length:=by rw[a0];exact HJ (Lz h0)
 obtain⟨S,cp,rfl,gS⟩: ∃id a3,vK= .sl id 0 J.length a3/\N.get id=some (.cells false (Cls.qY J)):=by
  rcases xK with l|l
  ·subst l;simp at c1
  ·exact l
 have wS:=bK _ _ _ _ rfl
 have nS:=wn _ wS
 have d7:N.cell (X+8) 2=some (.sl S 0 J.length cp):=by rw[H.aF gB];rfl
 show Wp T none (Tz 2 mL.fn.body) _ N _
 simp(disch:=omega)only[go_sem,Tz,QT,mL,d7]
 have hR: ∀r∈jW G L L.length,r<L.length/\HV G L r:=λr P=>kV.1 P
 have c8: ∀a∈J,a.Pp N N.next S:=λa Q=>by
  obtain⟨r,P,k⟩:=aM.ex aK Q;obtain⟨a5,a2⟩:=hR r P;obtain⟨l1,l2⟩:=Sr hG E a5 a2;obtain⟨id,off,m',a3,e1,e2,e3,e4⟩:=SI.lit k.ranks.si (by rw[aQ];exact l1);have ho:=k.ranks.off;rw[e1] at ho;refine⟨id,off,m',a3,e1,e3,λl=>ho (l▸wS),?_⟩;have:=e4 0 (by rw[aQ];exact l1);rw[Nat.add_zero] at this;rw[this,zi,nP _ (d:=0) l1,l2,k.fst]
 refine (Cls.TY N S N.next J cp (by rw[a0];have:=Co (G:=G) (L:=L) L.length;have:=e.le;omega) gS nS (fM _) c8).mono ?_
 rintro _ y ⟨o,b7,pm,d3,F8⟩
 obtain⟨K,hK⟩:=exI (o.map (λa:Cls.KE=>a.fst))
 have W:K.length=J.length:=by rw[←hK,jV];exact pm.length_eq
 have c9:J.map (λa:Cls.KE=>a.fst)=jW G L L.length:=by
  refine List.ext_getElem (by rw[jV];exact a0) λi l s=>?_
  rw[List.getElem_map];exact (aM.get aK i (by simpa using l) s).fst
 have pK:K.Perm (jW G L L.length):=by rw[←hK,←c9];exact pm.map _
 have kK: ∀a∈o,KO n G L X WK N a a.fst:=λa Q=>by
  obtain⟨r,P,k⟩:=aM.ex aK (pm.mem_iff.1 Q);rw[k.fst];exact k
 have FK:Fx WK N y:=⟨F8.next,λq l s=>F8.get q l λh3=>s (by have:q=S:=h3;rw[this];exact wS)⟩
 have d1: ∀a∈o,KO n G L X WK y a a.fst:=λa Q=>(kK a Q).go FK (by have:=wX S wS;omega) wX λ_ _ l=>l
 have f0:=(c5.in _ _ _ _ rfl).2.1
 have xD:=e.xD
 have n8:=F8.next
 have Z:y.get (X+8)=some (.cells false [vL,.mp (X+3),.sl S 0 J.length cp,.sl (X+6) 0 L.length (.kn L.length)]):=by
  rw[F8.get _ (wn _ wB) (λl=>by have:X+8=S:=l;omega)];exact gB
 have b4:y.cell (X+8) 2=some (.sl S 0 J.length cp):=by rw[H.aF Z];rfl
 have c7:N.get (X+6)=some (.cells false (rc L.length λ_=> aC 0)):=by
  rw[e.j.old.get _ (by rw[e.n5];omega) om];exact e.gN
 have c2:y.get (X+6)=some (.cells false (rc L.length λj=> aC (Qd G L K 0 0 j:Nat))):=by
  rw[F8.get _ (wn _ wN) (λl=>by have:X+6=S:=l;omega),c7,show (λj=>aC (Qd G L K 0 0 j:Nat))=λ_=>aC 0 from funext λj=>by rw[RL];rfl]
 have a7: ∀k,k<K.length-> ∃a,o[k]? =some a/\KO n G L X WK y a (K.getD k 0):=λk hk=>by
  have w:k<o.length:=by rw[pm.length_eq,←W];exact hk
  refine⟨o[k],dD w,?_⟩;have:=d1 _ (zG w);have e2:K.getD k 0=(o[k]).fst:=by rw[Pm.cJ hk];subst hK;rw[List.getElem_map]
  rw[e2];exact this
 have le:=e.le
 have e8:K.length<=L.length:=by rw[W,a0];exact Co _
 have nN:=wn _ wN
 rw[←W] at b4 Z
 simp(disch:=omega)only[go_sem,b4]
 refine bJ (λvs u=>(∃g:Nat->V,vs= [g 0,g 1,.nilp,aC 0,g 4,g 5,.ptr (X+8) 0,g 7,g 8,g 9,g 10,g 11,g 12,g 13,g 14,g 15,g 16,g 17,g 18,g 19,g 20,g 21,g 22,g 23,g 24,g 25,g 26,g 27,g 28,g 29,g 30,g 31,g 32,g 33,g 34,g 35,g 36,g 37,g 38,g 39,g 40,g 41,g 42,g 43,g 44,g 45])/\u.get (X+6)=some (.cells false (rc L.length λj=> aC (Qd G L K K.length 0 j:Nat)))/\Fx (· =X+6) y u) ?_ ?_
 ·refine aH (λk' vs u=> ∃(k:Nat),(∃g:Nat->V,vs= [g 0,g 1,.nilp,aC 0,g 4,g 5,.ptr (X+8) 0,g 7,g 8,g 9,g 10,g 11,g 12,g 13,g 14,g 15,g 16,g 17,g 18,g 19,g 20,g 21,g 22,g 23,g 24,g 25,g 26,g 27,g 28,g 29,g 30,g 31,g 32,g 33,g 34,g 35,g 36,g 37,.sl S 0 K.length cp,aC (K.length:Int),aC k,g 41,g 42,g 43,g 44,g 45])/\k<=K.length/\u.get (X+6)=some (.cells false (rc L.length λj=> aC (Qd G L K k 0 j:Nat)))/\Fx (· =X+6) y u/\k'=K.length-k) K.length
   ⟨0,aB rfl,iJ _,c2,Fx.refl _ _,rfl⟩ ?_
  rintro k' B h9 ⟨k,⟨g,rfl⟩,hk,F,z,rfl⟩
  have n9:=z.next
  by_cases b0:(k:Int)<(K.length:Int)
  case neg=>
   have d4:=bH b0;obtain rfl:k=K.length:=om
   simp(disch:=omega)only[go_sem,d4];exact⟨aB rfl,F,z⟩
  have d4:=oQ b0
  have w:k<K.length:=om
  obtain⟨a,ea,ko⟩:=a7 k w
  have b1:k<o.length:=by rw[pm.length_eq,←W];exact w
  have a4:o[k]=a:=by rw[dD b1] at ea;simpa using ea
  have e7:h9.get S=some (.cells false (Cls.qY o)):=by rw[z.get _ om (λl=>by have:S=X+6:=l;omega)];exact b7
  have b8:h9.row S (k*4) 4=some a.enc:=by
   have:=Jl (pre:= []) (by simpa using e7) b1;rw[a4] at this;simpa using this
  obtain⟨Y,hY⟩:=exI h9.next
  obtain⟨Q,b5,na,ga,oa,fa⟩:=dF hY [.aE,aC 0,aC 0,.aE]
  obtain⟨hb,b9,nb,gb,ob⟩:=pJ Q Y a.enc
  have b2:hb.cell Y 3=some a.ranks:=by rw[H.aF gb];rfl
  have lr:=ko.ranks.si.lens
  rw[aQ] at lr
  obtain⟨r,P⟩:=exI (K.getD k 0)
  rw[P] at ko lr
  simp(disch:=omega)only[go_sem,d4,b8,hY,b5,VP,ga,SD,b9,b2,lr]
  have d8:r∈jW G L L.length:=by rw[←P];exact pK.mem_iff.1 (bD w)
  obtain⟨a5,a2⟩:=hR r d8
  obtain⟨l1,l2⟩:=Sr hG E a5 a2
  obtain⟨U,a1,mR,c0,e1,e2,e3,e4⟩:=SI.lit ko.ranks.si (by rw[aQ];exact l1)
  have ho:=ko.ranks.off
  rw[e1] at ho
  have d6:U≠X+6:=λl=>ho (l▸wN)
  obtain⟨c,hc⟩:=exI ((kY G L r).length)
  rw[aQ,hc] at e2 e4
  have e9:c<=L.length:=by
   rw[←hc];have:=List.Nodup.length_le_of_subset (Oz (G:=G) (L:=L) r) (l₂:=List.range L.length) λj hj=>Gu.2 (tA.1 hj).1
   rwa [NM] at this
  rw[hc,e1]
  have Fb:Fx (· =X+6) y hb:=⟨om,λq l s=>by rw[ob q om,oa q om];exact z.get q l s⟩
  have b3:hb.get (X+6)=some (.cells false (rc L.length λj=> aC (Qd G L K k 0 j:Nat))):=by rw[ob _ om,oa _ om];exact F
  have d0: ∀u,Fx (· =X+6) y u->u.cell (X+8) 3=some (.sl (X+6) 0 L.length (.kn L.length)):=λu f=>by
   have:u.get (X+8)=y.get (X+8):=f.get _ (by have:=wn _ wB;omega) om;rw[H.aF (this.trans Z)];rfl
  refine xE (λvs u=>(∃g:Nat->V,vs= [g 0,g 1,.nilp,aC 0,g 4,g 5,.ptr (X+8) 0,g 7,g 8,g 9,g 10,g 11,g 12,g 13,g 14,g 15,g 16,g 17,g 18,g 19,g 20,g 21,g 22,g 23,g 24,g 25,g 26,g 27,g 28,g 29,g 30,g 31,g 32,g 33,g 34,g 35,g 36,g 37,.sl S 0 K.length cp,aC (K.length:Int),aC k,g 41,g 42,g 43,g 44,g 45])/\u.get (X+6)=some (.cells false (rc L.length λj=> aC (Qd G L K (k+1) 0 j:Nat)))/\Fx (· =X+6) y u) ?_ ?_
  ·refine aH (λk' vs u=> ∃(t:Nat),(∃g:Nat->V,vs= [g 0,g 1,.nilp,aC 0,g 4,g 5,.ptr (X+8) 0,g 7,g 8,g 9,g 10,g 11,g 12,g 13,g 14,g 15,g 16,g 17,g 18,aC k,g 20,g 21,g 22,g 23,g 24,g 25,g 26,g 27,g 28,g 29,g 30,g 31,g 32,g 33,g 34,g 35,g 36,g 37,.sl S 0 K.length cp,aC (K.length:Int),aC k,g 41,.sl U a1 (mR+1) c0,aC c,aC t,g 45])/\t<=c/\u.get (X+6)=some (.cells false (rc L.length λj=> aC (Qd G L K k t j:Nat)))/\Fx (· =X+6) y u/\k'=c-t) c
    ⟨0,aB rfl,iJ _,b3,Fb,rfl⟩ ?_
   clear b3 Fb gb ob b2 nb b9 ga oa fa na b5 b8 F z n9
   rintro k' B b6 ⟨t,⟨g2,rfl⟩,ht,a9,Fc,rfl⟩
   by_cases a6:(t:Int)<(c:Int)
   case neg=>
    have d5:=bH a6;obtain rfl:t=c:=om
    simp(disch:=omega)only[go_sem,d5];refine⟨aB rfl,?_,Fc⟩;rw[a9,show (λj=>aC (Qd G L K k t j:Nat))=λj=>aC (Qd G L K (k+1) 0 j:Nat) from funext λj=>by rw[←VY,P,hc]]
   have d5:=oQ a6
   have e6:t<c:=om
   obtain⟨x,hx⟩:=exI ((kY G L r).getD t 0)
   have c3:x<L.length:=by rw[←hx];exact (tA.1 (bD om)).1
   have d2:b6.cell U (a1+t)=some (aC x):=by
    have e5:=e4 t e6;unfold H.cell at e5 ⊢;rw[Fc.get U e3 d6,e5,zi,nP _ (d:=0) om,hx]
   have pt:=bN (vs:=rc L.length λj=> aC (Qd G L K k t j:Nat)) (off:=x) (by rw[Df];exact c3)
   have tl:(t:Int).toNat=t:=rfl
   simp(disch:=omega)only[go_sem,d5,d2,d0 b6 Fc,a9,pt]
   rw[eJ t]
   refine⟨c-(t+1),om,t+1,aB rfl,om,?_,⟨Fc.next,λq l s=>by rw[H.aG _ s];exact Fc.get q l s⟩,rfl⟩
   rw[mS,dB λj hj=>?_]
   rw[PO hG E pK w (by rw[P];omega),P,hx]
   by_cases ej:j=x
   ·rw[bF ej,bF ej]
   ·rw[bI ej,bI ej]
  rintro B hd ⟨⟨g2,rfl⟩,e0,Fd⟩
  simp(disch:=omega)only[go_sem]
  rw[eJ k]
  exact⟨K.length-(k+1),om,k+1,aB rfl,om,e0,Fd,rfl⟩
 rintro B h9 ⟨⟨g,rfl⟩,F,z⟩
 have n9:=z.next
 simp(disch:=omega)only[go_sem]
 have n2:=e.x2
 have o9: ∀q,q<D->q≠X+8->q≠X+6->h9.get q=h5.get q:=λq l s h3=>by
  rw[z.get q (by have:=e.j.nx;omega) h3,F8.get q (by have:=e.j.nx;omega) (λh4=>by have:q=S:=h4;omega),e.j.old.get q (by rw[e.n5];exact l) (λh4=>by rcases h4 with h4|h4;exact s h4;omega)]
 have nx:=e.j.nx
 have a8:Fr s h9:=⟨om,λq hq=>by rw[o9 q om om om];exact e.f25.get q hq⟩
 have c4:Fx WK y h9:=⟨z.next,λq l s=>z.get q l λh3=>s (by have:q=X+6:=h3;rw[this];exact wN)⟩
 have d9:K.Nodup:=pK.nodup_iff.2 (by classical exact (by unfold jW;exact List.Pairwise.filter _ List.nodup_range))
 have c6:o.length=K.length:=by rw[←hK,jV]
 refine⟨.ptr (X+8) 0,K,rfl,⟨X+8,X+3,X+6,S,cp,vL,o,rfl,om,om,om,om,?_,?_,?_,?_,?_,e.sp.mono a8⟩,⟨pK,?_⟩,e.f2.trans a8⟩
 ·rw[z.get _ om om];exact Z
 ·rw[o9 _ om om om];exact e.gM
 ·rw[F,dB λj hj=>by rw[QO hG E pK hj]]
 ·rw[z.get _ om om];exact b7
 ·refine aM.mQ c6 λi l s=>?_
  obtain⟨a,ea,ko⟩:=a7 i s
  have a4:o[i]=a:=by rw[dD l] at ea;simpa using ea
  have k9:=ko.go c4 om wX λ_ _ l=>l
  rw[Pm.cJ s] at k9
  rw[a4]
  exact⟨k9.fst,k9.ord,k9.size,k9.rep.si,k9.ranks.si⟩
 ·have l:o.Pairwise λa b=>a.fst≠b.fst:=by
   have:=d9;rw[←hK] at this;exact List.pairwise_map.1 this
  rw[←hK,List.pairwise_map];refine List.Pairwise.imp_of_mem ?_ (List.Pairwise.and d3 l);rintro a b Q hb ⟨s,h3⟩;have ka:=kK a Q;have kb:=kK b hb;have h4: ¬(b.lt a=true):=by rw[s];simp
  rw[Cls.KE.lt_iff] at h4;unfold kLt;rw[←ka.ord,←kb.ord,←ka.size,←kb.size];omega
theorem anK {n:Nat}{G:List Nat->Prop}{L:LN}{r s:Nat}(a:kLt n G L r s)(b:kLt n G L s r):False:=by
 unfold kLt at a b;omega
theorem Cm.uniq {n:Nat}{G:List Nat->Prop}{L:LN}{K c:List Nat}(a:Cm n G L K)(b:Cm n G L c):K=c:=
 (a.perm.trans b.perm.symm).eq_of_pairwise (λ_ _ _ _ d f=>(anK d f).elim) a.asc b.asc
noncomputable def apS (G:List Nat->Prop)(L:LN)(K:List Nat):List Nat:=(List.range L.length).map (UN G L K)
def uK (ks:List Cls.KE):List V:=ks.flatMap λa=> [a.rep,aC (a.ord:Int),aC (a.size:Int)]
theorem sU (b:List Cls.KE):(uK b).length=b.length*3:=by
 induction b with
 |nil=>rfl
 |cons a r ih=>
  show ([a.rep,aC (a.ord:Int),aC (a.size:Int)]++uK r).length=_;rw[jZ,ih];show 3+r.length*3=(r.length+1)*3;omega
theorem ZP {h:H}{Y:Nat}{ro:Bool}{a:Cls.KE}(g:h.get Y=some (.cells ro a.enc)):h.row Y 0 3=some [a.rep,aC (a.ord:Int),aC (a.size:Int)]:=by
 simp [H.row,g,sub,Cls.KE.enc]
theorem ME {v:V}(a:v.one=true)(x y:Int)(h:H):lQ h 3 [.aE,aC 0,aC 0] 1 [(0,3,.agg [v,aC x,aC y])]=some (.sl h.next 0 1 (.kn 1),h.new (.cells false [v,aC x,aC y])):=by
 have e:cX [V.aE,aC 0,aC 0] 3= [V.aE,aC 0,aC 0]:=rfl;simp [lQ,iS,putAt,e,a,show ∀l,(V.agg l).cells=l from λ_=>rfl,show ∀z,(aC z).one=true from λ_=>rfl]
theorem PY {W0:Nat->Prop}(vc:V)(n:Nat)(O:LN)(R:jI)(G:List Nat->Prop)(h:H)(l:GC W0 h vc n O R G)(L:LN)(hL:cZ O R n 0 (bL n)=L):
  Ev T 100 [vc] h (λv h'=> ∃vl K ks,v= .tup [vl,aC 0]/\Cm n G L K/\SV h' vl 3 (uK ks)/\aM (KR n G L h') ks K/\Fr h h'):=by
 obtain⟨vO,vR,e,sO,sR⟩:=l.ch
 subst e
 refine cV Au rfl ?_
 have z:vO.one=true:=oNs sO
 have s:vR.one=true:=oNt sR
 obtain⟨A,hA⟩:=exI h.next
 obtain⟨h1,e1,n1,g1,o1,f1⟩:=dF hA [aC n,vO,vR]
 have bx:=bM h (v:= aC n) (u:=vO) (w:=vR) rfl z s
 have rB:=aI g1
 simp(disch:=omega)only[go_sem,Au,aD,bx,hA,e1,rB]
 refine (ahJ _ n O R G h1 (l.mono f1)).mono ?_
 rw[hL]
 rintro _ d ⟨p,K,rfl,go,ik,f2⟩
 obtain⟨B,M,N,S,cp,vL,ks,rfl,hB,hM,hN,hS,gB,gM,gN,gS,aK,sp⟩:=go.ex
 have c2:d.cell B 2=some (.sl S 0 K.length cp):=by rw[H.aF gB];rfl
 have a7:=aM.length aK
 have a5:K.length<=5040:=by
  have h1:=ik.perm.length_eq;have d:=Co (G:=G) (L:=L) L.length;have h3:=jH l;have h4:=(dM l.dN l.isc).2;rw[hL] at h4;omega
 simp(disch:=omega)only[go_sem]
 refine aW (λhc=>(hc rfl).elim) (λ_=>?_)
 simp(disch:=omega)only[go_sem,c2]
 refine bJ (λvs t=> ∃b,(∃g:Nat->V,vs= [g 0,g 1,g 2,g 3,g 4,g 5,b,g 7,g 8,g 9,g 10,g 11,g 12])/\SV t b 3 (uK ks)/\Fr d t) ?_ ?_
 ·refine aH (λk' vs t=> ∃(k:Nat) (b:V),(∃g:Nat->V,vs= [g 0,g 1,g 2,g 3,.ptr B 0,g 5,b,g 7,g 8,.sl S 0 K.length cp,aC (K.length:Int),aC k,g 12])/\k<=K.length/\cY t b 3 (uK (ks.take k)) d.next/\Fr d t/\k'=K.length-k) K.length
   ⟨0,.aE,aB rfl,iJ _,cY.aE _ _ _,Fr.refl _,rfl⟩ ?_
  rintro k' o x ⟨k,b,⟨g,rfl⟩,hk,J,f,rfl⟩
  by_cases i:(k:Int)<(K.length:Int)
  case neg=>
   have d4:=bH i;obtain rfl:k=K.length:=om
   simp(disch:=omega)only[go_sem,d4];rw[Tn om] at J;exact⟨b,aB rfl,J.sv,f⟩
  have d4:=oQ i
  have a8:k<K.length:=om
  have j:k<ks.length:=om
  obtain⟨a,ea⟩:=exI (ks[k])
  have a3:x.get S=aZ (Cls.qY ks):=by rw[f.get _ hS];exact gS
  have P:x.row S (k*4) 4=some a.enc:=by
   have:=Jl (pre:= []) (by simpa using a3) j;rw[ea] at this;simpa using this
  obtain⟨Y,hY⟩:=exI x.next
  obtain⟨ha,a2,na,ga,oa,fa⟩:=dF hY [.aE,aC 0,aC 0,.aE]
  obtain⟨hb,U,nb,gb,ob⟩:=pJ ha Y a.enc
  obtain⟨Z,hZ⟩:=exI hb.next
  obtain⟨F,W,nc,a0,oc,fc⟩:=dF hZ [a.rep,aC (a.ord:Int),aC (a.size:Int)]
  have r:Fr x F:=⟨om,λq hq=>by rw[oc q om,ob q om,oa q om]⟩
  have a4:cY F b 3 (uK (ks.take k)) d.next:=J.fr r
  obtain⟨hd,ad,Q⟩:=a4.push (bytes:=40) (y:= .sl Z 0 1 (.kn 1)) (us:= [a.rep,aC (a.ord:Int),aC (a.size:Int)]) (SV.all rfl om a0 _) (n:=k) (m:=1) (by rw[sU,Fj];omega) rfl om om om
  simp(disch:=omega)only[go_sem,d4,P,hY,a2,VP,ga,SD,U,ZP gb,ME a.hrep.2.1,hZ,W,ad]
  rw[eJ k]
  have el:uK (ks.take (k+1))=uK (ks.take k)++ [a.rep,aC (a.ord:Int),aC (a.size:Int)]:=by
   rw[List.take_succ_eq_append_getElem j,ea];simp [uK]
  have n9:=f.next
  have nd:=Q.next
  have a1:Fr d hd:=⟨om,λq hq=>by rw[Q.old q om (λid a6 n' c e e2=>by have:=(J.in _ _ _ _ e).2.1;omega),r.get q om];exact f.get q hq⟩
  exact⟨K.length-(k+1),om,k+1,_,aB rfl,om,by rw[el];exact Q.own (by rw[sU,Fj];omega) rfl om,a1,rfl⟩
 rintro o x ⟨b,⟨g,rfl⟩,sv,f⟩
 simp(disch:=omega)only[go_sem]
 exact⟨b,K,ks,rfl,ik,sv,aK.mono λ_ _ k=>k.mono f,(f1.trans f2).trans f⟩
set_option maxRecDepth 100000
set_option maxRecDepth 100000
theorem QC {n:Nat}{a:List Nat}(A:bE n a)(m:n<=7):qF a n∣420:=by
 unfold qF;rw[Hb];intro c d;obtain⟨l,f,rfl⟩:=uF.1 d;obtain⟨i,hi,rfl⟩:=uF.1 f;have b:i<n:=by unfold Qh at hi;exact Gu.1 (CH.1 hi).1
 rw[Ca];have h:=(pD A b).1;have j:=BA A b;have: ∀k,k<8->0<k->k∣420:=by decide
 exact this _ om h
set_option maxRecDepth 100000
theorem ajJ {n:Nat}{a:List Nat}(A:bE n a):pw n a 1=a:=mN A
set_option maxRecDepth 100000
set_option maxRecDepth 100000
def NC (n:Nat)(A B:List Nat->Prop)(x:List Nat):Prop:= ∀H:List Nat->Prop,iX n H->(∀a,A a->H a)->(∀y b,H y->B b->H (cW y b))->H x
section
variable {n:Nat} {A B A' B' H:List Nat->Prop}
theorem NC.le {x:List Nat}(h:NC n A B x)(f:iX n H)(c: ∀a,A a->H a)(d: ∀y b,H y->B b->H (cW y b)):H x:=h H f c d
theorem NC.of {a:List Nat}(h:A a):NC n A B a:=λ_ _ b _=>b a h
theorem NC.cj {x b:List Nat}(h:NC n A B x)(c:B b):NC n A B (cW x b):=λH f d a=>a _ _ (h H f d a) c
theorem abW (n:Nat):iX n (bE n):=⟨λh=>h,bE.one n,λa b=>a.mul b,λa=>a.inv⟩
theorem NC.dN (i: ∀a,A a->bE n a)(d: ∀b,B b->bE n b):iX n (NC n A B):=
 ⟨λh=>h _ (abW n) i λy b Y f=>qG Y (d b f),λ_ c _ _=>c.one,λh k _ c a b=>c.mul (h _ c a b) (k _ c a b),λh _ c a b=>c.inv (h _ c a b)⟩
theorem NC.same (r: ∀a,A a->bE n a)(k: ∀b,B b->bE n b)(j: ∀a,A' a->bE n a)(f: ∀b,B' b->bE n b)
  (l: ∀a,A a->A' a∨a=bL n) (s: ∀a,A' a->A a∨a=bL n) (m: ∀a,B a->B' a∨a=bL n) (o: ∀a,B' a->B a∨a=bL n) (x:List Nat):NC n A B x↔NC n A' B' x:=by
 have c: ∀{A B A' B':List Nat->Prop},(∀a,A' a->bE n a)->(∀b,B' b->bE n b)->(∀a,A a->A' a∨a=bL n)->(∀a,B a->B' a∨a=bL n)->NC n A B x->NC n A' B' x:=λ{A B A' B'} p q a b h=>
  h.le (NC.dN p q) (λz d=>by
   rcases a z d with h|rfl
   ·exact NC.of h
   ·exact (NC.dN p q).one) (λy z i d=>by
   rcases b z d with h|rfl
   ·exact i.cj h
   ·rw[mG ((NC.dN p q).cU i)];exact i)
 exact⟨c j f l m,c r k s o⟩
theorem Xw (d:iX n H)(c: ∀b,B b->bE n b)(h: ∀y b,H y->B b->H (cW y b)){g:List Nat}(f:bX n B g): ∀y,H y->H (cW y g):=by
 induction f with
 |one=>intro y a;rw[mG (d.cU a)];exact a
 | @mul z k hz hk ih=>intro y a;rw[nX (d.cU a) (hz.cU c) (c _ hk)];exact h _ _ (ih y a) hk
end
def jE (x y:List Nat):List Nat:=aX (aX (dA x) (dA y)) (aX x y)
section
variable {n:Nat} {x y:List Nat}
theorem Rh (X:bE n x)(Y:bE n y):bE n (jE x y):=(X.inv.mul Y.inv).mul (X.mul Y)
theorem JY (X:bE n x):jE x (bL n)=bL n:=by
 unfold jE;rw[oJ,bZ X.inv,bZ X,iE X]
theorem KJ (Y:bE n y):jE (bL n) y=bL n:=by
 unfold jE;rw[oJ,mN Y.inv,mN Y,iE Y]
theorem xX (X:bE n x)(Y:bE n y):jE x y=aX (dA x) (cW x y):=by
 unfold jE cW;rw[aV X.inv Y.inv (X.mul Y),aV Y.inv X Y]
end
def Ad (n:Nat)(R R':jI):List Nat->Prop:=NC n (λx=> ∃p,p∈bQ R/\ ∃q,q∈bQ R'/\x=jE p q) (λb=>b∈bQ R∨b∈bQ R')
section
variable {n:Nat} {G K:List Nat->Prop} {O O':LN} {R R':jI}
theorem Ad.dN (f:iX n G)(i:iX n K)(c:bC n G O R)(d:bC n K O' R'):iX n (Ad n R R'):=
 NC.dN (λa ⟨_,hp,_,hq,e⟩=>by rw[e];exact Rh (f.cU (bV c hp)) (i.cU (bV d hq))) (λb h=>h.elim (λh=>f.cU (bV c h)) λh=>i.cU (bV d h))
theorem Ad.le (f:iX n G)(m:iX n K)(c:bC n G O R)(d:bC n K O' R')(j: ∀y b,G y->K b->G (cW y b)){x:List Nat}(h:Ad n R R' x):G x:=by
 refine NC.le h f ?_ ?_
 ·rintro a ⟨p,o,q,l,rfl⟩
  have P:=bV c o;have Q:=bV d l;rw[xX (f.cU P) (m.cU Q)];exact f.mul (f.inv P) (j _ _ P Q)
 ·rintro y b k (i|i)
  ·have:=bV c i
   exact f.mul (f.mul (f.inv this) k) this
  ·exact j _ _ k (bV d i)
theorem Ad.self (a:iX n G)(c:bC n G O R){x:List Nat}(h:Ad n R R x):G x:=
 Ad.le a a c c (λy b f d=>a.mul (a.mul (a.inv d) f) d) h
theorem Ad.norm (j:iX n G)(f:iX n K)(c:bC n G O R)(d:bC n K O' R'){y b:List Nat}(i:Ad n R R' y)(a:K b):Ad n R R' (cW y b):=
 Xw (B:=λg=>g∈bQ R') (Ad.dN j f c d) (λb h=>f.cU (bV d h)) (λy b i a=>NC.cj i (.inr a)) (nJ f d a) y i
end
set_option maxHeartbeats 8000000
theorem Ii (h:H){v w:V}(b:v.cells= [v]/\v.one=true)(a:w.cells= [w]/\w.one=true):lQ h 1 [.aE] 2 [(0,1,v),(1,1,w)]=some (.sl h.next 0 2 (.kn 2),h.new (.cells false [v,w])):=by
 have e:List.range 2= [0,1]:=rfl;simp [lQ,rO,iS,putAt,b.1,b.2,a.1,a.2,cX,e]
theorem Pv {n:Nat}{u w:V}{a b:List Nat}{h h':H}(A:bE n a)(B:bE n b)(c:SI h u (zi a))(d:SI h w (zi b))(f:Fr h h'): ∀i,i< [u,w].length-> ∃a,bE n a/\SI h' (([u,w]:List V).getD i .undef) (zi a):=λi hi=>by
 match i,hi with
 |0,_=>exact⟨a,A,c.mono f⟩
 |1,_=>exact⟨b,B,d.mono f⟩
theorem Is {n:Nat}{a b:List Nat}(A:bE n a)(B:bE n b): ∀i,i<a.length->a.getD i 0<b.length:=λi hi=>by
 rw[B.len];exact A.iN (by rw[←A.len];exact hi)
theorem XP (u w:V)(n:Nat)(a b:List Nat)(h:H)(t:1<=n)(s:n<=64)(A:bE n a)(B:bE n b)(f:SI h u (zi a))(d:SI h w (zi b)):
  Ev T 209 [u,w] h (λv h'=> ∃x,v= .tup [x,aC 0]/\PV (λq=>q<h.next) h' x (aX a b)/\Fr h h'):=by
 refine cV Nj rfl ?_
 have l:=SV.cK f
 have i:=SV.cK d
 obtain⟨y,r,G,p,F,k⟩:=dF (h:=h) rfl [u,w]
 simp(disch:=omega)only[go_sem,Nj,aD,Ii h (v:=u) (w:=w) ⟨l.1,l.2.1⟩ ⟨i.1,i.2.1⟩,r]
 refine (Aq _ [u,w] n y t s (by simp) (SV.all rfl om p _) (Pv A B f d k)).mono ?_
 rintro _ m ⟨rfl,o⟩
 have c:=k.trans o
 simp(disch:=omega)only[go_sem]
 refine aW (λz=>(z rfl).elim) (λ_=>?_)
 simp(disch:=omega)only[go_sem]
 refine (mY qL.ok u w a b m (by rw[A.len];omega) (f.mono c) (d.mono c) (Is A B)).mono ?_
 rintro x J j
 have:=c.next
 simp(disch:=omega)only[go_sem]
 exact⟨x,rfl,j.pv om,c.trans j.fr⟩
theorem ZK (u:V)(n:Nat)(a:List Nat)(h:H)(s:1<=n)(r:n<=64)(A:bE n a)(c:SI h u (zi a)):
  Ev T 208 [u] h (λv h'=> ∃x,v= .tup [x,aC 0]/\PV (λq=>q<h.next) h' x (dA a)/\Fr h h'):=by
 refine cV ahK rfl ?_
 have j:=SV.cK c
 obtain⟨p,o,y,m,w,f⟩:=dF (h:=h) rfl [u]
 simp(disch:=omega)only[go_sem,ahK,aD,cT h (z:= .aE) j.1 j.2.1,o]
 refine (Aq _ [u] n p s r (by simp) (SV.one om m (.kn 1)) (λi hi=>⟨a,A,?_⟩)).mono ?_
 ·have:i=0:=by simpa using hi
  subst this
  exact c.mono f
 rintro _ k ⟨rfl,l⟩
 have b:=f.trans l
 simp(disch:=omega)only[go_sem]
 refine aW (λt=>(t rfl).elim) (λ_=>?_)
 simp(disch:=omega)only[go_sem]
 refine (Ce xH.ok u n a k om A (c.mono b)).mono ?_
 rintro x B d
 have:=b.next
 simp(disch:=omega)only[go_sem]
 exact⟨x,rfl,d.pv om,b.trans d.fr⟩
theorem PK (u w:V)(n:Nat)(a b:List Nat)(h:H)(N:1<=n)(L:n<=64)(A:bE n a)(B:bE n b)(l:SI h u (zi a))(k:SI h w (zi b)):
  Ev T 207 [u,w] h (λv h'=> ∃x,v= .tup [x,aC 0]/\PV (λq=>q<h.next) h' x (cW a b)/\Fr h h'):=by
 refine cV Jt rfl ?_
 have p:=SV.cK l
 have r:=SV.cK k
 obtain⟨O,K,U,G,Q,o⟩:=dF (h:=h) rfl [u,w]
 simp(disch:=omega)only[go_sem,Jt,aD,Ii h (v:=u) (w:=w) ⟨p.1,p.2.1⟩ ⟨r.1,r.2.1⟩,K]
 refine (Aq _ [u,w] n O N L (by simp) (SV.all rfl om G _) (Pv A B l k o)).mono ?_
 rintro _ s ⟨rfl,t⟩
 have j:=o.trans t
 simp(disch:=omega)only[go_sem]
 refine aW (λP=>(P rfl).elim) (λ_=>?_)
 simp(disch:=omega)only[go_sem]
 refine (Ce xH.ok w n b s om B (k.mono j)).mono ?_
 rintro x J m
 have i:=j.trans m.fr
 simp(disch:=omega)only[go_sem]
 refine (mY qL.ok x u (dA b) a J (by rw[B.inv.len];omega) (m.pv (W:=λ_=>False) id).si (l.mono i) (Is B.inv A)).mono ?_
 rintro y F f
 have c:=i.trans f.fr
 simp(disch:=omega)only[go_sem]
 refine (mY qL.ok y w (aX (dA b) a) b F (by rw[(B.inv.mul A).len];omega) (f.pv (W:=λ_=>False) id).si (k.mono c) (Is (B.inv.mul A) B)).mono ?_
 rintro z R d
 have:=c.next
 simp(disch:=omega)only[go_sem]
 exact⟨z,rfl,d.pv om,c.trans d.fr⟩
theorem SG (u w:V)(n:Nat)(a b:List Nat)(h:H)(n0:1<=n)(U:n<=64)(A:bE n a)(B:bE n b)(o:SI h u (zi a))(p:SI h w (zi b)):
  Ev T 123 [u,w] h (λv h'=> ∃x,v= .tup [x,aC 0]/\PV (λq=>q<h.next) h' x (jE a b)/\Fr h h'):=by
 refine cV Ka rfl ?_
 have G:=SV.cK o
 have J:=SV.cK p
 obtain⟨Y,R,n1,P,o1,K⟩:=dF (h:=h) rfl [u,w]
 simp(disch:=omega)only[go_sem,Ka,aD,Ii h (v:=u) (w:=w) ⟨G.1,G.2.1⟩ ⟨J.1,J.2.1⟩,R]
 refine (Aq _ [u,w] n Y n0 U (by simp) (SV.all rfl om P _) (Pv A B o p K)).mono ?_
 rintro _ L ⟨rfl,f2⟩
 have k:=K.trans f2
 simp(disch:=omega)only[go_sem]
 refine aW (λZ=>(Z rfl).elim) (λ_=>?_)
 simp(disch:=omega)only[go_sem]
 refine (Ce xH.ok u n a L om A (o.mono k)).mono ?_
 rintro x Q F
 have m:=k.trans F.fr
 simp(disch:=omega)only[go_sem]
 refine (Ce xH.ok w n b Q om B (p.mono m)).mono ?_
 rintro y h4 d
 have r:=m.trans d.fr
 simp(disch:=omega)only[go_sem]
 refine (mY qL.ok x y (dA a) (dA b) h4 (by rw[A.inv.len];omega) ((F.pv (W:=λ_=>False) id).si.mono d.fr) (d.pv (W:=λ_=>False) id).si (Is A.inv B.inv)).mono ?_
 rintro z N l
 have c:=r.trans l.fr
 simp(disch:=omega)only[go_sem]
 refine (mY qL.ok u w a b N (by rw[A.len];omega) (o.mono c) (p.mono c) (Is A B)).mono ?_
 rintro s O f
 have j:=c.trans f.fr
 simp(disch:=omega)only[go_sem]
 refine (mY qL.ok z s (aX (dA a) (dA b)) (aX a b) O (by rw[(A.inv.mul B.inv).len];omega) ((l.pv (W:=λ_=>False) id).si.mono f.fr) (f.pv (W:=λ_=>False) id).si (Is (A.inv.mul B.inv) (A.mul B))).mono ?_
 rintro t h7 i
 have:=j.next
 simp(disch:=omega)only[go_sem]
 exact⟨t,rfl,i.pv om,j.trans i.fr⟩
theorem aM.agS {α β:Type}{P:α->β->Prop}: ∀{a:List α} {b:List β},aM P a b->aM P (a.drop 1) (b.drop 1)
 | [], [],h=>h
 |_::_,_::_,h=>h.2
 | [],_::_,h=>h.elim
 |_::_, [],h=>h.elim
theorem Lk {n:Nat}{G:List Nat->Prop}{O:LN}{R:jI}(b:iX n G)(a:bC n G O R){i:Nat}(hi:i<n):1<=(R.getD i []).length/\(R.getD i []).length<=n:=by
 rw[a.rl i hi];have:=(a.mem i hi i).2 ⟨bL n,b.one,Fix.one n i om,fQ hi⟩;exact⟨HJ this,mT (uQ (λx c=>b.cU c) hi (a.asc i hi) (a.mem i hi)) om⟩
theorem qV {n:Nat}{G:List Nat->Prop}{O:LN}{R:jI}(b:iX n G)(a:bC n G O R):(bQ R).length<=n*n:=by
 have:=sY (n:=n) (R:=R) (i:=n) (by rw[a.lr];exact fM _) (λj c=>(Lk b a c).2);rwa [Tn (by rw[a.lr];exact fM _)] at this
theorem xV {W:Nat->Prop}(vc:V)(n:Nat)(O:LN)(R:jI)(G:List Nat->Prop)(x h:H)(r:GC W x vc n O R G)(f0:Fr x h):
  Ev T 122 [vc] h (λv h'=> ∃ws,cY h' v 1 ws h.next/\fW W x ws (bQ R)/\Fr h h'):=by
 obtain⟨vO,s,a2,l,rfl,sO,oO,pO,y,oR,aR⟩:=r.cw
 refine cV wK rfl ?_
 have q:=(SV.cK sO).2.1
 have p:=(SV.cK y).2.1
 have a:=r.isc
 have hG:=r.dN
 have n7:=r.n7
 have lR:=aM.length aR
 rw[a.lr] at lR
 obtain⟨B,Z⟩:=exI h.next
 obtain⟨h1,e1,n1,g1,o1,J⟩:=dF Z [aC n,vO,s]
 have bx:=bM h (v:= aC n) (u:=vO) (w:=s) rfl q p
 have Y:bT s=some (aC n):=by unfold bT;rw[SV.len y (n:=n) om om];rfl
 obtain⟨L,o,K,f,cR⟩:=SV.shape y n om om
 simp(disch:=omega)only[go_sem,wK,aD,bx,Z,e1,H.aF g1,Y]
 refine aH (λk' c t=> ∃(i:Nat) (N:V) (ws:List V),(∃g:Nat->V,c= [g 0,g 1,g 2,N,g 4,s,aC n,aC i,g 8])/\i<=n/\cY t N 1 ws h1.next/\fW W x ws (bQ (R.take i))/\Fr h1 t/\k'=n-i) n
  ⟨0,.aE, [],aB rfl,iJ _,cY.aE _ _ _,trivial,Fr.refl _,rfl⟩ ?_
 rintro k' c t ⟨i,N,ws,⟨g,rfl⟩,hi,ow,pv,F,rfl⟩
 have nF:=F.next
 by_cases d:(i:Int)<(n:Int)
 case neg=>
  have Q:=bH d;obtain rfl:i=n:=om
  rw[Tn (by rw[a.lr];exact fM _)] at pv;simp(disch:=omega)only[go_sem,Q];exact⟨ws,ow.le om,pv,J.trans F⟩
 have Q:=oQ d
 have b:i<n:=om
 obtain⟨wr,tr,U,z,k⟩:=aM.get aR i om (by rw[a.lr];exact b)
 have er:R[i]'(by rw[a.lr];exact b)=R.getD i []:=by rw[List.getD,dD (by rw[a.lr];exact b)];rfl
 rw[er] at z
 have lw:=aM.length z
 obtain⟨r1,r2⟩:=Lk hG a b
 have ci:t.cell L (o+i)=some (l[i]'om):=by
  rw[(f0.trans (J.trans F)).cell (f om),cR i om,dD om]
 generalize l[i]'om=vr at tr U k ci
 obtain⟨vt,P,tt⟩:=EV tr k om
 have a0:=aM.length pv
 have sl:(bQ (R.take i)).length<=i*n:=sY (by rw[a.lr];omega) (λj hj=>(Lk hG a om).2)
 have a1:i*n<=7*7:=Nat.mul_le_mul om n7
 obtain⟨v2,h2,ea,A⟩:=cY.app (bytes:=24) ow nF (tt.mono (f0.trans (J.trans F))) (n:=ws.length) (m:=wr.length- 1) om (by rw[AQ];omega) om om
 simp(disch:=omega)only[go_sem,Q,K.ixa,ci,P,ea]
 rw[eJ i]
 refine⟨n-(i+1),om,i+1,v2,_,aB rfl,om,A.own,?_,A.fr _ F (fM _),rfl⟩
 rw[Bf (by rw[a.lr];exact b)]
 exact aM.append pv (aM.agS z)
theorem rN {α:Type}{l:List α}{i:Nat}{d:α}(hi:i<l.length):l[i]=l.getD i d:=by rw[List.getD,dD hi];rfl
theorem FE {W:Nat->Prop}(D:Nat)(u vO Q:V)(n:Nat)(O:LN)(R:jI)(G:List Nat->Prop)(x:List Nat)(h:H)(B:GC W h (.agg [aC n,vO,Q]) n O R G)(hD:D<h.next)(gD:h.get D=some (.cells false [aC n,vO,Q]))(X:bE n x)(hu:SI h u (zi x)):
  Ev T 165 [.ptr D 0,u] h (λv h'=> ∃b,v= .bool b/\(b=true↔G x)/\Fr h h'):=by
 obtain⟨c2,c1,a1,N,e,sO,oO,pO,sR,oR,aR⟩:=B.cw
 cases e
 refine cV pN rfl ?_
 have c:=B.isc
 have q:=B.dN
 have n7:=B.n7
 have n0:=B.n0
 have lR:=aM.length aR
 have lO:=aM.length pO
 rw[c.lr] at lR
 rw[c.lo] at lO
 have b6:bT Q=some (aC n):=by unfold bT;rw[SV.len sR (n:=n) om om];rfl
 obtain⟨b0,P,a9,K,cR⟩:=SV.shape sR n om om
 obtain⟨b7,t,a5,U,cO⟩:=SV.shape sO n om om
 have b1: ∀d,Fr h d->d.get D=some (.cells false [aC n,vO,Q]):=λd f=>by rw[f.get D hD];exact gD
 simp(disch:=omega)only[go_sem,pN,aD,H.aF gD,b6]
 refine aH (λk' m d=> ∃(i:Nat) (vx:V) (y:List Nat),(∃g:Nat->V,m= [.ptr D 0,vx,g 2,g 3,g 4,g 5,g 6,g 7,Q,aC n,aC i,g 11,g 12])/\i<=n/\SI d vx (zi y)/\bE n y/\Fix i y/\(G y↔G x)/\Fr h d/\k'=n-i) n
  ⟨0,u,x,aB rfl,iJ _,hu,X,λk hk=>om,Iff.rfl,Fr.refl _,rfl⟩ ?_
 rintro k' m d ⟨i,vx,y,⟨g,rfl⟩,hi,sy,Y,l,o,F,rfl⟩
 by_cases A:(i:Int)<(n:Int)
 case neg=>
  have d1:=bH A;obtain rfl:i=n:=om
  simp(disch:=omega)only[go_sem,d1];exact⟨true,rfl,⟨λ_=>o.1 (by rw[Fix.all Y l];exact q.one),λ_=>rfl⟩,F⟩
 have d1:=oQ A
 have a:i<n:=om
 obtain⟨wr,tr,b5,pr,a7⟩:=aM.get aR i om (by rw[c.lr];exact a)
 have er:R[i]'(by rw[c.lr];exact a)=R.getD i []:=rN _
 rw[er] at pr
 have lw:=aM.length pr
 obtain⟨r1,r2⟩:=Lk q c a
 have ci: ∀d,Fr h d->d.cell b0 (P+i)=some (N[i]'om):=λd f=>by
  rw[f.cell (K om),cR i om,dD om]
 generalize N[i]'om=vr at tr b5 a7 ci
 have po:=aM.get pO i om (by rw[c.lo];exact a)
 have eo:O[i]'(by rw[c.lo];exact a)=O.getD i []:=rN _
 rw[eo] at po
 have co:d.cell b7 (t+i)=some (a1[i]'om):=by
  rw[F.cell (U om),cO i om,dD om]
 generalize a1[i]'om=vo at po co
 obtain⟨b2,a0,a2,w,L⟩:=sy.open
 rw[aQ,Y.len] at a2 w L
 obtain⟨p,hp⟩:=exI (y.getD i 0)
 have cy:d.cell b2 (a0+i)=some (aC p):=by rw[L i a];congr 2;simp [zi,Y.len,a,←hp]
 have c0:(O.getD i []).length<=n:=mT (uQ (λx hx=>q.cU hx) a (c.asc i a) (c.mem i a)) om
 have fb:Fr d (H.mk d.tr (d.next+18)):=(Fr.refl d).bA om
 simp(disch:=omega)only[go_sem,d1,a9.ixa,ci d F,H.aF (b1 d F),a5.ixa,co,a2.ixa,cy]
 refine (Es _ (O.getD i []) p _ om (c.asc i a) (po.si.mono (F.trans fb))).mono ?_
 rintro _ h2 ⟨k,f,rfl,b3,b4,f2⟩
 have r:=fb.trans f2
 have F2:=F.trans r
 cases f with
 |false=>
  have a3: ¬G x:=λhx=>by
   have:=b3.2 ((c.mem i a p).2 ⟨y,o.2 hx,l,hp⟩);cases this
  simp(disch:=omega)only[go_sem];exact⟨false,rfl,⟨λh=>(by cases h),λh=>absurd h a3⟩,F2⟩
 |true=>
  obtain⟨hk,a8⟩:=b4 rfl;have j:=c.rep i a k hk;rw[a8] at j;obtain⟨z,hz⟩:=exI ((R.getD i []).getD k []);rw[hz] at j;have Z:=q.cU j.mem;have a4:k<(R.getD i []).length:=by rw[c.rl i a];exact hk
  have pz:=aM.get pr k om a4;rw[show (R.getD i [])[k]=z from by rw[←hz];exact rN _] at pz;obtain⟨a6,s,b8,J,b9⟩:=tr.shape (R.getD i []).length om om;have ck:h2.cell a6 (s+k)=some (wr[k]'om):=by rw[F2.cell (J om),b9 k om,dD om]
  generalize wr[k]'om=vz at pz ck;simp(disch:=omega)only[go_sem,b8.ixa,ck];refine (ZK vz n z h2 n0 om Z (pz.si.mono F2)).mono ?_;rintro _ h3 ⟨vi,rfl,pi,f3⟩;simp(disch:=omega)only[go_sem];refine (XP vx vi n y (dA z) h3 n0 om Y Z.inv (sy.mono (r.trans f3)) pi.si).mono ?_;rintro _ h4 ⟨vm,rfl,pm,f4⟩;simp(disch:=omega)only[go_sem];rw[eJ i];refine⟨n-(i+1),om,i+1,vm,aX y (dA z),aB rfl,om,pm.si,Y.mul Z.inv,?_,?_,F.trans (r.trans (f3.trans f4)),rfl⟩
  ·refine (Fix.mul Y om l (Fix.inv Z om j.fix)).succ ?_
   rw[cM (by rw[Y.len];exact a),hp];have:=afU Z a;rwa [j.maps] at this
  ·rw[←o]
   refine⟨λhm=>?_,λhy=>q.mul hy (q.inv j.mem)⟩;have:=q.mul hm j.mem;rwa [aV Y Z.inv Z,iE Z,bZ Y] at this
section
variable {W W':Nat->Prop} {h h':H} {n D:Nat} {O l:LN} {G:List Nat->Prop}
theorem GC.congr {c:V}{R:jI}{G':List Nat->Prop}(g:GC W h c n O R G)(e: ∀x,G x↔G' x):GC W h c n O R G':=
 ⟨g.cw,g.isc.congr e,⟨λh=>g.dN.cU ((e _).2 h),(e _).1 g.dN.one,λa b=>(e _).1 (g.dN.mul ((e _).2 a) ((e _).2 b)),λa=>(e _).1 (g.dN.inv ((e _).2 a))⟩,g.n0,g.n7⟩
theorem GC.Fo {a:V}{R:jI}(g:GC W h a n O R G)(b: ∀id,id<h.next->W' id->W id):GC W' h a n O R G:=g.go (Fx.refl _ _) b
structure Qa (W:Nat->Prop)(h:H)(D n:Nat)(G:List Nat->Prop):Prop where
 ex: ∃vO vR O R,h.get D=some (.cells false [aC n,vO,vR])/\GC (λid=>W id∨id=D) h (.agg [aC n,vO,vR]) n O R G
 nx:D<h.next
 nW: ¬W D
theorem Qa.go (r:Qa W h D n G)(f:Fx W h h')(c: ∀q,q<h.next->W' q->W q):Qa W' h' D n G:=by
 obtain⟨j,d,O,R,g,i⟩:=r.ex;exact⟨⟨j,d,O,R,by rw[f.get D r.nx r.nW];exact g,i.go ⟨f.next,λid b a=>f.get id b λh=>a (.inl h)⟩ λq b a=>a.imp_left (c q b)⟩,iW r.nx f.next,λh=>r.nW (c _ r.nx h)⟩
theorem Qa.fx (r:Qa W h D n G)(f:Fx W h h'):Qa W h' D n G:=r.go f λ_ _ h=>h
theorem Qa.fr (r:Qa W h D n G)(f:Fr h h'):Qa W h' D n G:=r.fx (Fx.of f)
theorem Qa.Fo (r:Qa W h D n G)(a: ∀q,q<h.next->W' q->W q):Qa W' h D n G:=r.go (Fx.refl _ _) a
theorem Qa.congr {G':List Nat->Prop}(r:Qa W h D n G)(e: ∀x,G x↔G' x):Qa W h D n G':=by
 obtain⟨b,a,O,R,g,c⟩:=r.ex;exact⟨⟨b,a,O,R,g,c.congr e⟩,r.nx,r.nW⟩
theorem adW {x y z:V}(a:x.one=true)(c:y.one=true)(b:z.one=true):rO [aC 0,.aE,.aE] [(0,3,.agg [x,y,z])]=some (.agg [x,y,z]):=by
 simp [rO,iS,putAt,V.cells,a,c,b]
theorem VZ (n:Nat)(h:H)(n0:1<=n)(z:n<=7):
  Ev T 161 [aC n] h (λv h'=> ∃D,v= .ptr D 0/\h.next<=D/\Qa (λq=>q<h.next) h' D n (λx=>x=bL n)/\Fr h h'):=by
 refine cV Bi rfl ?_
 simp(disch:=omega)only[go_sem,Bi,aD]
 refine (Lo .aE n [] h n0 z (by decide) ⟨[],SV.aE _ _,trivial⟩ (λ_ h=>by cases h)).mono ?_
 rintro _ m ⟨vc,O,R,rfl,o,p⟩
 obtain⟨i,f,Y,a0,e,Z,oO,pO,J,oR,aR⟩:=o.cw
 subst e
 have d:=(SV.cK Z).2.1
 have c:=(SV.cK J).2.1
 obtain⟨A,r⟩:=exI m.next
 obtain⟨j,U,n2,g2,K,f2⟩:=dF r [aC 0,.aE,.aE]
 obtain⟨k,L,n3,B,N⟩:=pJ j A [aC n,i,f]
 obtain⟨P,s,n4,Q,y,f4⟩:=dF (h:=k) rfl [aC n,i,f]
 simp(disch:=omega)only[go_sem,r,U,bW j A 0 (v:= aC n) (u:=i) (w:=f) rfl d c,g2,cF,L,aI B,adW (x:= aC n) rfl d c,bM k (v:= aC n) (u:=i) (w:=f) rfl d c,s]
 have n1:=p.next
 have F:Fr m P:=⟨om,λq hq=>by rw[y q om,N q om,K q om]⟩
 refine⟨k.next,rfl,om,⟨⟨i,f,O,R,Q,?_⟩,om,om⟩,p.trans F⟩
 have t:=o.congr (G':=λx=>x=bL n) λx=>⟨λhx=>bX.le (G:=λx=>x=bL n) ⟨λe=>e▸bE.one n,rfl,λa b=>by rw[a,b,mN (bE.one n)],λa=>by rw[a,oJ]⟩ (λ_ h=>by cases h) hx,λe=>by rw[e];exact .one⟩
 exact (t.Fo (W':=λid=>id<h.next∨id=k.next) λid m j=>j.elim (λh=>h) λe=>om).mono F
def Jn (n:Nat)(G:List Nat->Prop)(l:LN):List Nat->Prop:=bX n (λg=>G g∨g∈l)
theorem Jn.dN (a:iX n G)(b: ∀g∈l,bE n g):iX n (Jn n G l):=bX.dN λg h=>h.elim (λh=>a.cU h) (b g)
theorem Jn.nil (a:iX n G)(x:List Nat):G x↔Jn n G [] x:=
 ⟨λh=>bX.of (λg h=>h.elim (λh=>a.cU h) λh=>by cases h) (.inl h),λh=>bX.le a (λg h=>h.elim (λh=>h) λh=>by cases h) h⟩
theorem Jn.in {x:List Nat}(b:iX n G)(a: ∀g∈l,bE n g)(c:Jn n G l x)(y:List Nat):Jn n G l y↔Jn n G (l++ [x]) y:=by
 have d:=Jn.dN b a;have f: ∀g∈l++ [x],bE n g:=λg h=>(pH.1 h).elim (a g) λh=>by rw[List.mem_singleton.1 h];exact d.cU c
 refine⟨λh=>bX.mono (λg h=>h.imp_right λh=>pH.2 (.inl h)) h,λh=>bX.le d (λg h=>?_) h⟩;rcases h with h|h
 ·exact bX.of (λg h=>h.elim (λh=>b.cU h) (a g)) (.inl h)
 ·rcases pH.1 h with h|h
  ·exact bX.of (λg h=>h.elim (λh=>b.cU h) (a g)) (.inr h)
  ·rw[List.mem_singleton.1 h];exact c
theorem Jn.push {x:List Nat}{R:jI}(a:iX n G)(f: ∀g∈l,bE n g)(X:bE n x)(c:bC n (Jn n G l) O R)(y:List Nat):bX n (· ∈bQ R++ [x]) y↔Jn n G (l++ [x]) y:=by
 have i:=Jn.dN a f;have b: ∀g∈l++ [x],bE n g:=λg h=>(pH.1 h).elim (f g) λh=>by rw[List.mem_singleton.1 h];exact X
 have j: ∀g,g∈bQ R++ [x]->bE n g:=λg h=>(pH.1 h).elim (λh=>i.cU (bV c h)) λh=>by rw[List.mem_singleton.1 h];exact X
 constructor
 ·refine λh=>bX.le (Jn.dN a b) (λg h=>?_) h
  rcases pH.1 h with h|h
  ·exact bX.mono (λg h=>h.imp_right λh=>pH.2 (.inl h)) (bV c h)
  ·exact bX.of (λg h=>h.elim (λh=>a.cU h) (b g)) (.inr (pH.2 (.inr h)))
 ·refine λh=>bX.le (bX.dN j) (λg h=>?_) h
  have d: ∀g,Jn n G l g->bX n (· ∈bQ R++ [x]) g:=λg h=>bX.mono (λg h=>pH.2 (.inl h)) (nJ i c h)
  rcases h with h|h
  ·exact d g (bX.of (λg h=>h.elim (λh=>a.cU h) (f g)) (.inl h))
  ·rcases pH.1 h with h|h
   ·exact d g (bX.of (λg h=>h.elim (λh=>a.cU h) (f g)) (.inr h))
   ·exact bX.of j (pH.2 (.inr h))
end
theorem LF (h:H)(a m:Nat)(ws:List V): ∃h',H.mk ((H.mk h.tr a).new (.cells false ws)).tr m=h'/\h'.next=m/\h'.get a=some (.cells false ws)/\ ∀q,q≠a->h'.get q=h.get q:=by
 obtain⟨j,f,k,c,d,i⟩:=dF (h:=H.mk h.tr a) rfl ws;rw[f];exact⟨_,rfl,rfl,c,λq b=>d q b⟩
theorem Bc (v:V):Mq (λ_=>False) v:=by cases v<;>first|exact id|trivial
theorem fW.KI {W:Nat->Prop}{h:H}{v:V}{ws:List V}{l:LN}(sv:SV h v 1 ws)(p:fW W h ws l):SP h v l:=by
 have a:=aM.length p
 exact⟨ws,sv,aM.mQ (by simpa using a) λi hi b=>by
  have:=(aM.get p i hi om).si
  simpa using this⟩
theorem Wv {W:Nat->Prop}(D:Nat)(vl:V)(ws:List V)(n:Nat)(G:List Nat->Prop)(l:LN)(h:H)(n0:1<=n)(n7:n<=7)(hG:iX n G)(hP: ∀g∈l,bE n g)(hl:l.length<1000000)(hW: ∀q,W q->q<h.next)(hr:Qa W h D n G)(sv:SV h vl 1 ws)(b4:Mq (· =D) vl)(pv:fW (· =D) h ws l):
  Ev T 162 [.ptr D 0,vl] h (λv h'=>v= .ptr D 0/\Qa W h' D n (Jn n G l)/\Fx (· =D) h h'):=by
 refine cV oT rfl ?_
 have lw:=aM.length pv
 have b3:bT vl=some (aC (l.length:Int)):=by unfold bT;rw[SV.len sv (n:=l.length) om om];rfl
 simp(disch:=omega)only[go_sem,oT,aD,b3]
 refine aH (λk' j Z=> ∃(i:Nat),(∃g:Nat->V,j= [.ptr D 0,g 1,g 2,g 3,vl,aC (l.length:Int),aC i,g 7,g 8])/\i<=l.length/\Qa W Z D n (Jn n G (l.take i))/\Fx (· =D) h Z/\k'=l.length-i) l.length
  ⟨0,aB rfl,iJ _,hr.congr λx=>by rw[List.take_zero];exact Jn.nil hG x,Fx.refl _ _,rfl⟩ ?_
 rintro k' j Z ⟨i,⟨g,rfl⟩,hi,r,F,rfl⟩
 by_cases J:(i:Int)<(l.length:Int)
 case neg=>
  have d1:=bH J;obtain rfl:i=l.length:=om
  simp(disch:=omega)only[go_sem,d1];exact⟨by rw[List.take_length] at r;exact r,F⟩
 have d1:=oQ J
 have s:i<l.length:=om
 obtain⟨id,P,sh,b8,hc⟩:=(sv.fx b4 F).shape l.length om om
 have px:=(aM.get pv i om s).fx F
 obtain⟨x,hx⟩:=exI (l.getD i [])
 rw[show l[i]=x from by rw[←hx];exact rN _] at px
 have cx:Z.cell id (P+i)=some (ws[i]'om):=by rw[hc i om,dD om]
 generalize ws[i]'om=vx at px cx
 have X:bE n x:=by rw[←hx];exact hP _ (bD s)
 have p: ∀g∈l.take i,bE n g:=λg hg=>hP g (List.mem_of_mem_take hg)
 have tk:l.take (i+1)=l.take i++ [x]:=by rw[←hx];exact cE [] s
 obtain⟨B,t,O,R,gD,K⟩:=r.ex
 have nD:=r.nx
 have nF:=F.next
 simp(disch:=omega)only[go_sem,d1,sh.ixa,cx]
 refine (FE D vx B t n O R _ x Z K nD gD X px.si).mono ?_
 rintro _ a ⟨bb,rfl,a9,A⟩
 have r2:=r.fr A
 have F2:Fx (· =D) h a:=F.trans (Fx.of (W:=(· =D)) A) λ_ _ h=>h
 cases bb with
 |true=>
  simp(disch:=omega)only[go_sem];rw[eJ i];exact⟨l.length-(i+1),om,i+1,aB rfl,om,r2.congr λy=>by rw[tk];exact Jn.in hG p (a9.1 rfl) y,F2,rfl⟩
 |false=>
  have a6:=K.mono A;have d:a.get D=some (.cells false [aC n,B,t]):=by rw[A.get D nD];exact gD
  have n2:=A.next;have fb:Fr a (H.mk a.tr (a.next+21)):=(Fr.refl a).bA om;simp(disch:=omega)only[go_sem,H.aF d,aI d];refine (xV _ n O R _ a (H.mk a.tr (a.next+21)) a6 fb).mono ?_;rintro vs h3 ⟨us,ow,pu,f3⟩;have L:=fb.trans f3;have n3:a.next+21<=h3.next:=f3.next;have a8:h3.get D=some (.cells false [aC n,B,t]):=by rw[L.get D om];exact d
  obtain⟨h4,e4,n4,g4,o4⟩:=LF h3 (a.next+12) h3.next [vx]
  have N:Fr a h4:=⟨om,λq o=>by rw[o4 q om];exact L.get q o⟩
  have lu:=aM.length pu;have gl:=Jn.dN hG p;have b7:=qV gl K.isc;have nn:n*n<=7*7:=Nat.mul_le_mul n7 n7;have wx:=SV.cK px.si;have a1:cY h4 vs 1 us (a.next+21):=ow.mono om λq _ _ _ _ h1 _=>o4 q (by have:a.next+21<=q:=h1;omega)
  obtain⟨U,a5,p5⟩:=a1.push (bytes:=24) (SV.one (v:=vx) (id:=a.next+12) om g4 (.kn 1)) (n:=us.length) (m:=1) om rfl om om om;have n5:=p5.next;have ap: ∀k,k<a.next+21->dL vs k:=λk hk b0 P m c e=>by have:a.next+21<=b0:=(a1.in _ _ _ _ e).2.1;omega
  have f:Fr a U:=⟨om,λq o=>by rw[p5.old q om (ap q om)];exact N.get q o⟩
  have b5:h4.get D=some (.cells false [aC n,B,t]):=by rw[N.get D om];exact d
  have a7:SP U (.sl h4.next 0 (us.length+1) (.un 1)) (bQ R++ [x]):=fW.KI (W:=λ_=>False) (p5.own om rfl (b:=0) om).sv
   (aM.append (aM.mono (λ_ _ k=>⟨(k.si.mono f),Bc _⟩) pu) ⟨⟨px.si.mono (A.trans f),Bc _⟩,trivial⟩)
  have a2:U.get D=some (.cells false [aC n,B,t]):=by rw[f.get D om];exact d
  have b1:okV (U.cell D 0) (aC n)=true:=by rw[H.aF a2];simp [okV,dE]
  simp(disch:=omega)only[go_sem,H.aF a8,cT _ (z:= .aE) wx.1 wx.2.1,e4,H.aF b5,a5];refine⟨b1,?_⟩;refine (Lo _ n (bQ R++ [x]) U n0 n7 (by rw[jZ];simp;omega) a7 (λg hg=>(pH.1 hg).elim (λh=>gl.cU (bV K.isc h)) λh=>by rw[List.mem_singleton.1 h];exact X)).mono ?_;rintro _ h6 ⟨vc,O2,R2,rfl,Q,f6⟩;obtain⟨uO,uR,_,_,e,sO,_,_,sR,_,_⟩:=Q.cw;subst e;have a0:=(SV.cK sO).2.1;have Y:=(SV.cK sR).2.1;have b2:=f.trans f6;have n6:=f6.next;have a3:h6.get D=some (.cells false [aC n,B,t]):=by rw[f6.get D om];exact a2
  obtain⟨h7,e7,b6,g7,o7⟩:=pJ h6 D [aC n,uO,uR];simp(disch:=omega)only[go_sem,bW h6 D 0 (v:= aC n) (u:=uO) (w:=uR) rfl a0 Y,a3,cF,e7];rw[eJ i]
  have F7:Fx (· =D) a h7:=⟨om,λq h1 o=>by rw[o7 q o,b2.get q h1]⟩
  refine⟨l.length-(i+1),om,i+1,aB rfl,om,⟨⟨uO,uR,O2,R2,g7,?_⟩,om,r.nW⟩,F2.trans F7 λ_ _ h=>h,rfl⟩;have a4:=(Q.congr (G':=Jn n G (l.take (i+1))) λy=>by rw[tk];exact Jn.push hG p X K.isc y).Fo (W':=λid=>W id∨id=D) λid h1 a=>a.elim (λh=>by have:=hW _ h;omega) λe=>om
  exact a4.go ⟨om,λq h1 o=>o7 q λe=>o (.inr e)⟩ λ_ _ h=>h
section
variable {n:Nat}
theorem Ef {x y b:List Nat}(X:bE n x)(Y:bE n y)(B:bE n b):cW (aX x y) b=aX (cW x b) (cW y b):=by
 unfold cW;have i:=B.inv;rw[aV (i.mul X) B ((i.mul Y).mul B),←aV B (i.mul Y) B,←aV B i Y,fC B,mN Y,←aV i X Y,aV (i.mul X) Y B]
theorem Ro {b:List Nat}(B:bE n b):cW (bL n) b=bL n:=by
 unfold cW;rw[bZ B.inv,iE B]
theorem YN {l:LN}{b:List Nat}(c: ∀g∈l,bE n g)(B:bE n b)(h: ∀x∈l,bX n (· ∈l) (cW x b)){x:List Nat}(a:bX n (· ∈l) x):bX n (· ∈l) (cW x b):=by
 induction a with
 |one=>rw[Ro B];exact .one
 |mul a hg ih=>rw[Ef (a.cU c) (c _ hg) B];exact ih.app c (h _ hg)
theorem MX {c l B:LN}(f: ∀b∈B,bE n b)(k: ∀g∈c,bE n g)(d: ∀g∈l,bE n g)(q: ∀g∈c,g∈l)(o: ∀g∈l,NC n (· ∈c) (· ∈B) g)(r: ∀x∈l,∀b∈B,bX n (· ∈l) (cW x b))(x:List Nat):bX n (· ∈l) x↔NC n (· ∈c) (· ∈B) x:=
 ⟨λh=>bX.le (NC.dN k f) o h,λh=>h.le (bX.dN d) (λa j=>bX.of d (q a j)) λ_ b p i=>YN d (f b i) (λz m=>r z m b i) p⟩
end
theorem QD (id Q O P:Nat)(m:V)(B:LN)(n M:Nat)(n0:1<=n)(hn:n<=64)(hB: ∀b∈B,bE n b)(a5:B.length<1000000)(hM:M<10000000)(h:H)(J:Nat->Nat->LN->H->Prop)(l0:LN)(K:J 0 0 l0 h)
  (jF: ∀i k l hh,J i k l hh->hh.get Q=aZ [.ptr P 0]/\hh.get O=aZ [m]/\(∃vl ws,hh.get P=aZ [vl]/\SV hh vl 1 ws/\aM (λv x=>SI hh v (zi x)) ws l)/\SP hh m B/\l.length<=M/\ ∀g∈l,bE n g)
  (jf: ∀i k l hh h',J i k l hh->Fr hh h'->J i k l h')
  (jn: ∀i l hh,J i B.length l hh->J (i+1) 0 l hh)
  (hy: ∀i k l K hh v,i<l.length->k<B.length->J i k l K->Fr K hh->PV (λq=>q<K.next) hh v (cW (l.getD i []) (B.getD k []))->Ey T id [v] hh (λv h'=>v= .bool true/\ ∃l',i<l'.length/\J i (k+1) l' h')):
  Ev T 206 [.yl id,.ptr Q 0,.ptr O 0] h (λ_ h'=> ∃l,J l.length 0 l h'):=by
 refine cV oZ rfl ?_
 simp(disch:=omega)only[go_sem,oZ,aD]
 refine aH (λu a hh=> ∃(i:Nat) (l:LN),(∃g:Nat->V,a= [.yl id,.ptr Q 0,.ptr O 0,aC i,g 4,g 5,g 6,g 7,g 8,g 9,g 10,g 11])/\i<=l.length/\J i 0 l hh/\u=M-i) M
  ⟨0,l0,aB rfl,iJ _,K,rfl⟩ ?_
 rintro u a h1 ⟨i,l,⟨g,rfl⟩,hi,U,rfl⟩
 obtain⟨c,j,⟨vl,ws,t,sv,z⟩,sB,lM,hP⟩:=jF _ _ _ _ U
 have lw:=aM.length z
 have p:bT vl=some (aC (l.length:Int)):=by unfold bT;rw[SV.len sv (n:=l.length) om om];rfl
 by_cases o:(i:Int)<(l.length:Int)
 case neg=>
  have R:=bH o;obtain rfl:i=l.length:=om
  simp(disch:=omega)only[go_sem,H.aF c,H.aF t,p,R];exact⟨l,U⟩
 have R:=oQ o
 have s:=sB.lens
 rw[jV] at s
 simp(disch:=omega)only[go_sem,H.aF c,H.aF t,p,R,H.aF j,s]
 refine aH (λu a hh=> ∃(k:Nat) (l:LN),(∃g:Nat->V,a= [.yl id,.ptr Q 0,.ptr O 0,aC i,g 4,g 5,g 6,m,aC (B.length:Int),aC k,g 10,g 11])/\k<=B.length/\i<l.length/\J i k l hh/\u=B.length-k) B.length
  ⟨0,l,aB rfl,iJ _,om,U,rfl⟩ ?_
 clear c j t sv z p R o
 rintro u a W ⟨k,l,⟨g,rfl⟩,hk,r,j2,rfl⟩
 obtain⟨c,j,⟨vl,ws,t,sv,z⟩,sB,lM,hP⟩:=jF _ _ _ _ j2
 by_cases F:(k:Int)<(B.length:Int)
 case neg=>
  have d2:=bH F;obtain rfl:k=B.length:=om
  simp(disch:=omega)only[go_sem,d2];rw[eJ i];exact⟨M-(i+1),om,i+1,l,aB rfl,om,jn _ _ _ j2,rfl⟩
 have d2:=oQ F
 have f:k<B.length:=om
 have lw:=aM.length z
 obtain⟨a2,G,a0,a4,Z⟩:=sv.shape l.length om om
 have sx:=aM.get z i om r
 rw[show l[i]=l.getD i [] from rN _] at sx
 have cl:W.cell a2 (G+i)=some (ws[i]'om):=by rw[Z i om,dD om]
 generalize ws[i]'om=vx at sx cl
 obtain⟨a7,a3,us,L,A,a6,a1,y⟩:=sB.open
 rw[jV] at L A
 have cB:=a1 k (by rw[jV];exact f)
 have sb:=Ml y f
 generalize us.getD k V.undef=vb at cB sb
 have X:=hP _ (bD (d:= []) r)
 have Y:=hB _ (bD (d:= []) f)
 simp(disch:=omega)only[go_sem,d2,L.ixa,cB,H.aF c,H.aF t,a0.ixa,cl]
 refine (PK vx vb n _ _ W n0 hn X Y sx sb).mono ?_
 rintro _ h3 ⟨w,rfl,pw,f3⟩
 simp(disch:=omega)only[go_sem]
 refine (hy i k l W h3 w r f j2 f3 pw).mono ?_
 rintro _ h4 ⟨rfl,l',N,j4⟩
 simp(disch:=omega)only[go_sem]
 rw[eJ k]
 exact⟨B.length-(k+1),om,k+1,l',aB rfl,om,N,j4,rfl⟩
set_option maxRecDepth 100000
set_option maxRecDepth 100000
structure Plc (l:LN)(x:List Nat)(k:Nat):Prop where
 le:k<=l.length
 lo: ∀i,i<k->yU (l.getD i []) x=true
 hi: ∀i,k<=i->i<l.length->yU (l.getD i []) x=false
theorem Gj {g:Nat}(W:T g=some jN.fn)(u w:V)(a b:List (List Int))(h:H)(hu:SR h u a)(hw:SR h w b)(la:a.length<1000000)(lb:b.length<1000000)(ra: ∀x∈a,x.length<1000000)(rb: ∀x∈b,x.length<1000000):
  Ev T g [u,w] h (λv h'=>v= .bool (decide (a=b))/\Fr h h'):=by
 refine Ko W rfl ?_
 have z:=hu.lens
 have lw:=hw.lens
 obtain⟨Z,sa,aa⟩:=hu
 obtain⟨P,sb,ab⟩:=hw
 have a1:=aM.length aa
 have a2:=aM.length ab
 obtain⟨id,s,sh,q,hc⟩:=SV.shape sa a.length om om
 obtain⟨m,f,Y,d,L⟩:=SV.shape sb b.length om om
 by_cases J:(a.length:Int)=(b.length:Int)
 case neg=>
  have K:=oQ J;simp(disch:=omega)only[go_sem,jN,aD,z,lw,K];exact⟨by rw[bH];intro e;exact J (by rw[e]),Fr.refl h⟩
 have a0:a.length=b.length:=om
 have K:decide ((a.length:Int)≠(b.length:Int))=false:=bH (by simpa using J)
 simp(disch:=omega)only[go_sem,jN,aD,z,lw,K]
 refine aH (λk' k c=> ∃(i:Nat),(∃g:Nat->V,k= [u,w,g 2,aC i,g 4,g 5,g 6])/\i<=a.length/\(∀j,j<i->a.getD j []=b.getD j [])/\Fr h c/\k'=a.length-i) a.length
  ⟨0,aB rfl,iJ _,λj hj=>om,Fr.refl h,rfl⟩ ?_
 rintro k' k c ⟨i,⟨g,rfl⟩,hi,hs,F,rfl⟩
 by_cases o:(i:Int)<(a.length:Int)
 case neg=>
  have G:=bH o;obtain rfl:i=a.length:=om
  simp(disch:=omega)only[go_sem,z,G]
  have:a=b:=by
   refine List.ext_getElem a0 λj h1 h2=>?_
   have:=hs j h1;rwa [List.getD,dD h1,List.getD,dD h2] at this
  exact⟨by rw[oQ this],F⟩
 have G:=oQ o
 have R:c.cell id (s+i)=some (Z.getD i .undef):=by
  rw[F.cell (q om),hc i om];simp [List.getD,show i<Z.length by omega]
 have A:c.cell m (f+i)=some (P.getD i .undef):=by
  rw[F.cell (d om),L i om];simp [List.getD,show i<P.length by omega]
 have U:=akD aa (i:=i) om
 have B:=akD ab (i:=i) om
 generalize Z.getD i .undef=va at R U
 generalize P.getD i .undef=vb at A B
 have r:=U.dE
 have l:=B.dE
 simp(disch:=omega)only[go_sem,z,G,sh.ixa,R,Y.ixa,A]
 refine (GV va vb _ _ _ (U.mono (F.trans ((Fr.refl c).bA om))) (B.mono (F.trans ((Fr.refl c).bA om))) (ra _ (bD om)) (rb _ (bD om))).mono ?_
 rintro _ t ⟨rfl,N⟩
 have F3:=F.trans (((Fr.refl c).bA om).trans N)
 have p:t.cell id (s+i)=some va:=by
  have O:Fr c t:=((Fr.refl c).bA om).trans N;rw[O.cell (by have:=q om;have:=F.next;omega)];exact R
 have n:t.cell m (f+i)=some vb:=by
  have O:Fr c t:=((Fr.refl c).bA om).trans N;rw[O.cell (by have:=d om;have:=F.next;omega)];exact A
 by_cases y:a.getD i []=b.getD i []
 ·have Q:=oQ y
  simp(disch:=omega)only[go_sem,Q,p,n,r,l]
  rw[eJ i]
  refine⟨a.length-(i+1),om,i+1,aB rfl,om,λj hj=>?_,F3,rfl⟩
  by_cases e:j=i
  ·rw[e];exact y
  ·exact hs j om
 ·have Q:=bH y
  simp(disch:=omega)only[go_sem,Q,p,n,r,l]
  exact⟨by rw[bH];intro e;exact y (by rw[e]),F3⟩
theorem Vt (u w:V)(a b:List (List Int))(h:H)(c:SR h u a)(d:SR h w b)(j:a.length<1000000)(lb:b.length<1000000)(i: ∀x∈a,x.length<1000000)(f: ∀x∈b,x.length<1000000):
  Ev T 90 [u,w] h (λv h'=>v= .bool (decide (a=b))/\Fr h h'):=Gj jN.ok u w a b h c d j lb i f
theorem Vi (u w:V)(a b:List (List Int))(h:H)(c:SR h u a)(d:SR h w b)(j:a.length<1000000)(lb:b.length<1000000)(i: ∀x∈a,x.length<1000000)(f: ∀x∈b,x.length<1000000):
  Ev T 41 [u,w] h (λv h'=>v= .bool (decide (a=b))/\Fr h h'):=Gj Kw.ok u w a b h c d j lb i f
theorem Ve (v1 v2:V)(J U:Int)(O1 O2:List (List Int))(b d:List (List (List Int)))(h:H)(c1:WI h v1 J O1 b)(c2:WI h v2 U O2 d)(b6:zV O1)(a9:zV O2)(N:Oi b)(Y:Oi d):
  Ev T 31 [v1,v2] h (λv h'=>v= .bool (decide (J=U/\O1=O2/\b=d))/\Fr h h'):=by
 obtain⟨vO,G,e,sO,sR⟩:=c1
 subst e
 obtain⟨uO,L,e,tO,tR⟩:=c2
 subst e
 refine cV rP rfl ?_
 have b8:vO.one=true:=oNs sO
 have b5:G.one=true:=oNt sR
 have Q:uO.one=true:=by obtain⟨_,t,_⟩:=tO;exact t.cK.2.1
 have P:L.one=true:=by obtain⟨_,t,_⟩:=tR;exact t.cK.2.1
 have a3:dE G G=true:=by obtain⟨_,t,_⟩:=sR;exact t.dE
 have K:dE L L=true:=by obtain⟨_,t,_⟩:=tR;exact t.dE
 obtain⟨A,hA⟩:=exI h.next
 obtain⟨h1,Z,n1,g1,o1,f1⟩:=dF hA [aC J,vO,G]
 obtain⟨c,e2,n2,g2,o2,f2⟩:=dF n1 [aC U,uO,L]
 have bx:=λa:H=>bM a (v:= aC J) (u:=vO) (w:=G) rfl b8 b5
 have b7:=λa:H=>bM a (v:= aC U) (u:=uO) (w:=L) rfl Q P
 have F2:=f1.trans f2
 have gA:c.get A=aZ [aC J,vO,G]:=by rw[o2 _ om];exact g1
 have a0: ∀a,Fr c a->a.cell A 0=some (aC J):=λa f=>by rw[f.cell om,H.aF gA];rfl
 have a1: ∀a,Fr c a->a.cell A 1=some vO:=λa f=>by rw[f.cell om,H.aF gA];rfl
 have a2: ∀a,Fr c a->a.cell A 2=some G:=λa f=>by rw[f.cell om,H.aF gA];rfl
 have b0: ∀a,Fr c a->a.cell (A+1) 0=some (aC U):=λa f=>by rw[f.cell om,H.aF g2];rfl
 have b1: ∀a,Fr c a->a.cell (A+1) 1=some uO:=λa f=>by rw[f.cell om,H.aF g2];rfl
 have b2: ∀a,Fr c a->a.cell (A+1) 2=some L:=λa f=>by rw[f.cell om,H.aF g2];rfl
 have r2:=Fr.refl c
 by_cases hd:J=U
 case neg=>
  have e3:=oQ hd;simp(disch:=omega)only[go_sem,rP,aD,bx,b7,hA,Z,n1,e2,a0 c r2,b0 c r2,e3,Ag];exact⟨by rw[bH];exact λx=>hd x.1,F2⟩
 have e3:decide (J≠U)=false:=bH (by simpa using hd)
 simp(disch:=omega)only[go_sem,rP,aD,bx,b7,hA,Z,n1,e2,a0 c r2,b0 c r2,a1 c r2,b1 c r2,e3]
 have mem: ∀{l:List (List Int)},(∀i,i<l.length->(l.getD i []).length<1000000)-> ∀x∈l,x.length<1000000:=λhl x y=>by
  obtain⟨i,hi,rfl⟩:=zF.1 y;have:=hl i hi;rwa [List.getD,dD hi] at this
 refine (Vt vO uO O1 O2 c (sO.mono F2) (tO.mono F2) b6.1 a9.1 (mem b6.2) (mem a9.2)).mono ?_
 rintro _ h3 ⟨rfl,f3⟩
 obtain⟨wR,c0,aR,_⟩:=sR
 obtain⟨zR,B,b9,_⟩:=tR
 have d3:=N.1
 have d0:=Y.1
 have d5:=aM.length aR
 have d4:=aM.length b9
 have m:bT G=some (aC (b.length:Int)):=by unfold bT;rw[SV.len c0 (n:=b.length) om om];rfl
 have a6:bT L=some (aC (d.length:Int)):=by unfold bT;rw[SV.len B (n:=d.length) om om];rfl
 have F3:=F2.trans f3
 by_cases hO:O1=O2
 case neg=>
  have e4:=bH hO;simp(disch:=omega)only[go_sem,e4,Ag];exact⟨by rw[bH];exact λx=>hO x.2.1,F3⟩
 have e4:=oQ hO
 by_cases hl:(b.length:Int)=(d.length:Int)
 case neg=>
  have e5:=oQ hl;simp(disch:=omega)only[go_sem,e4,a2 h3 f3,b2 h3 f3,m,a6,e5];exact⟨by rw[bH];exact λx=>hl (by rw[x.2.2]),F3⟩
 have e5:decide ((b.length:Int)≠(d.length:Int))=false:=bH (by simpa using hl)
 have c9:b.length=d.length:=om
 obtain⟨id,c4,sh,c6,hc⟩:=SV.shape c0 b.length om om
 obtain⟨c5,a4,c8,b4,c3⟩:=SV.shape B d.length om om
 simp(disch:=omega)only[go_sem,e4,a2 h3 f3,b2 h3 f3,m,a6,e5]
 refine aH (λk' z a=> ∃(i:Nat),(∃g:Nat->V,z= [g 0,g 1,.ptr A 0,.ptr (A+1) 0,g 4,aC i,g 6,g 7,g 8])/\i<=b.length/\(∀j,j<i->b.getD j []=d.getD j [])/\Fr h3 a/\k'=b.length-i) b.length
  ⟨0,aB rfl,iJ _,λj hj=>om,Fr.refl h3,rfl⟩ ?_
 rintro k' z a ⟨i,⟨g,rfl⟩,hi,hs,F,rfl⟩
 have q:=f3.trans F
 by_cases a5:(i:Int)<(b.length:Int)
 case neg=>
  have Z:=bH a5;obtain rfl:i=b.length:=om
  simp(disch:=omega)only[go_sem,a2 a q,m,Z]
  have:b=d:=by
   refine List.ext_getElem c9 λj h1 c=>?_
   have:=hs j h1;rwa [List.getD,dD h1,List.getD,dD c] at this
  exact⟨by rw[oQ ⟨hd,hO,this⟩],F3.trans F⟩
 have Z:=oQ a5
 have W:i<b.length:=om
 have p: ∀y,Fr h y->y.cell id (c4+i)=some (wR.getD i .undef):=λy f=>by
  rw[f.cell (c6 om),hc i om];simp [List.getD,show i<wR.length by omega]
 have r: ∀y,Fr h y->y.cell c5 (a4+i)=some (zR.getD i .undef):=λy f=>by
  rw[f.cell (b4 om),c3 i om];simp [List.getD,show i<zR.length by omega]
 have gg: ∀{ws:List V} {R:List (List (List Int))},aM (SR h) ws R->i<R.length->SR h (ws.getD i .undef) (R.getD i []):=λ{ws R} al a8=>by
  have h1:=aM.length al;have:=aM.get al i om a8;rw[List.getD,List.getD,dD om,dD a8];exact this
 have s1:=gg aR W
 have s2:=gg b9 om
 generalize wR.getD i .undef=va at p s1
 generalize zR.getD i .undef=vb at r s2
 have a7:dE va va=true:=by obtain⟨_,t,_⟩:=s1;exact t.dE
 have b3:dE vb vb=true:=by obtain⟨_,t,_⟩:=s2;exact t.dE
 have Fh:=F3.trans F
 simp(disch:=omega)only[go_sem,a2 a q,b2 a q,m,Z,sh.ixa,c8.ixa,p a Fh,r a Fh]
 refine (Vi va vb _ _ _ (s1.mono (Fh.trans ((Fr.refl a).bA om))) (s2.mono (Fh.trans ((Fr.refl a).bA om))) (N.2 i W).1 (Y.2 i om).1 (mem (N.2 i W).2) (mem (Y.2 i om).2)).mono ?_
 rintro _ s ⟨rfl,c7⟩
 have f4:Fr a s:=((Fr.refl a).bA om).trans c7
 have o:=q.trans f4
 have k:=Fh.trans f4
 by_cases he:b.getD i []=d.getD i []
 ·have O:decide (b.getD i []=d.getD i [])=true:=oQ he
  simp(disch:=omega)only[go_sem,O,a2 s o,b2 s o,p s k,r s k,a7,b3,a3,K]
  rw[eJ i]
  refine⟨b.length-(i+1),om,i+1,aB rfl,om,λj hj=>?_,F.trans f4,rfl⟩
  by_cases e:j=i
  ·rw[e];exact he
  ·exact hs j om
 ·have O:decide (b.getD i []=d.getD i [])=false:=bH he
  simp(disch:=omega)only[go_sem,O,a2 s o,b2 s o,p s k,r s k,a7,b3,a3,K]
  exact⟨by rw[bH];exact λx=>he (by rw[x.2.2]),k⟩
set_option maxRecDepth 100000
set_option maxRecDepth 100000
set_option maxRecDepth 100000
theorem Ye {b:List Cls.KE}{i:Nat}(hi:i<b.length):(uK b)[i*3]? =some b[i].rep/\(uK b)[i*3+1]? =some (aC (b[i].ord:Int))/\(uK b)[i*3+2]? =some (aC (b[i].size:Int)):=by
 induction b generalizing i with
 |nil=>simp at hi
 |cons a r ih=>
  have e:uK (a::r)= [a.rep,aC (a.ord:Int),aC (a.size:Int)]++uK r:=rfl
  cases i with
  |zero=>exact⟨rfl,rfl,rfl⟩
  |succ i=>
   have c:=ih (i:=i) (by simpa using hi);rw[e,show (i+1)*3=i*3+3 by omega];refine⟨?_,?_,?_⟩
   ·rw[Sj (by simp)];exact c.1
   ·rw[Sj (by simp)];exact c.2.1
   ·rw[Sj (by simp)];exact c.2.2
end Go.Proofs.YtcdbmkidaecdiaaGreat
namespace Go.Pm
set_option maxRecDepth 100000
section
variable {n:Nat} {t:rL}
theorem oK.gt (T:oK n t){i p:Nat}{y:List Nat}(h:t i p=some y):i<p:=by
 have Y:=T.cU _ _ _ h;have F:=T.fix _ _ _ h;obtain⟨c,b,d⟩:=T.lt _ _ _ h;have m:=T.maps _ _ _ h;rcases Nat.lt_or_ge p i with a|a
 ·exact absurd (Y.inj c b (m.trans (F p a).symm)) oq
 ·omega
def eR (t:rL)(i p:Nat):zI:=(List.range p).filterMap (t i)
def eB (n:Nat)(t:rL)(i:Nat):zI:=(List.range i).flatMap λi=>eR t i n
theorem HB (i p:Nat):eR t i (p+1)=eR t i p++(t i p).toList:=by
 unfold eR;rw[List.range_succ,List.filterMap_append];cases h:t i p<;>simp [h]
theorem FL (i:Nat):eB n t (i+1)=eB n t i++eR t i n:=by
 unfold eB;rw[List.range_succ,List.flatMap_append];simp
theorem Vw:eB n t n=fR n t 0:=by
 unfold eB fR eR;simp
theorem yE (T:oK n t):(fR n t 0).Nodup:=by
 have f: ∀i p c j y,t i p=some y->t c j=some y->i=c/\p=j:=λi p c j y k d=>by
  have v:=T.gt k;have u:=T.gt d;have o:=T.fix _ _ _ k;have m:=T.fix _ _ _ d;have s:=T.maps _ _ _ k;have r:=T.maps _ _ _ d
  have e:i=c:=by
   rcases Nat.lt_trichotomy i c with h|h|h
   ·have:=m i h;omega
   ·exact h
   ·have:=o c h;omega
  subst e;exact⟨rfl,s.symm.trans r⟩
 rw[←Vw];unfold eB;rw[List.Nodup,List.pairwise_flatMap];refine⟨λi _=>?_,?_⟩
 ·unfold eR
  rw[List.pairwise_filterMap];refine (List.nodup_range (n:=n)).imp ?_;intro p j a y l q b e;subst e;exact a (f _ _ _ _ _ l b).2
 ·refine (List.nodup_range (n:=n)).imp ?_
  intro i c a y l q b e;subst e;obtain⟨p,_,k⟩:=List.mem_filterMap.1 l;obtain⟨j,_,d⟩:=List.mem_filterMap.1 b;exact a (f _ _ _ _ _ k d).1
def frF (n:Nat)(t:rL)(l:zI):zI:=(fR n t 0).filter λy=>decide (y∉l)
def clF (n:Nat)(t:rL)(x:List Nat)(l:zI):zI:=if (fR n t 0).length<(fR n (jJ t n x) 0).length then l++frF n (jJ t n x) l else l
structure Cx (n:Nat)(L:List Nat->Prop)(t:rL)(l:zI):Prop where
 tl:Oo n L t
 nd:l.Nodup
 mem: ∀y,y∈l↔y∈fR n t 0
variable {L:List Nat->Prop} {l:zI}
theorem Cx.cU (c:Cx n L t l): ∀y∈l,bE n y:=λy a=>c.tl.tab.MK y ((c.mem y).1 a)
theorem Cx.bound (c:Cx n L t l):l.length<=n^n:=Be c.nd c.cU
theorem Cx.start (c:Oo n L t):Cx n L t (fR n t 0):=⟨c,yE c.tab,λ_=>Iff.rfl⟩
theorem Yv {a:rL}(s:Sub t a): ∀y,y∈fR n t 0->y∈fR n a 0:=λy f=>by
 obtain⟨i,p,h,b,d,c⟩:=fV.1 f;exact fV.2 ⟨i,p,h,b,d,s _ _ _ c⟩
theorem Cx.step (c:Cx n L t l)(B: ∀g,L g->bE n g){x:List Nat}(F:bX n L x):
  Cx n L (jJ t n x) (clF n t x l)/\Sub t (jJ t n x)/\ins (jJ t n x) n 0 x=none/\ ∃m,clF n t x l=l++m:=by
 obtain⟨a,f,O⟩:=c.tl.ins B F
 have s:=yE a.tab
 refine⟨?_,f,O,?_⟩
 ·cases h:ins t n 0 x with
  |none=>
   have e:jJ t n x=t:=by unfold jJ;rw[h]
   unfold clF;rw[e,if_neg (Nat.lt_irrefl _)];exact c
  |some q=>
   obtain⟨i,r⟩:=q;have e:jJ t n x=put t i (r.getD i 0) r:=by unfold jJ;rw[h]
   obtain⟨Z,A,Q,K,b5,U,_⟩:=Bu c.tl.tab n 0 x i r oq (F.cU B) (λk Y=>oq) h;have W:r∈fR n (jJ t n x) 0:=fV.2 ⟨i,r.getD i 0,Nat.zero_le _,A,Q.iN A,by rw[e];unfold put;rw[if_pos ⟨rfl,rfl⟩]⟩
   have v:r∉fR n t 0:=λh=>by
    obtain⟨j,q,_,_,_,d⟩:=fV.1 h;have o:=f _ _ _ d;have g1:=a.tab.gt o;have P:=a.tab.fix _ _ _ o;have R:=a.tab.maps _ _ _ o;have J:jJ t n x i (r.getD i 0)=some r:=by rw[e];unfold put;rw[if_pos ⟨rfl,rfl⟩]
    have g2:=a.tab.gt J
    have u:i=j:=by
     rcases Nat.lt_trichotomy i j with h|h|h
     ·have:=P i h;omega
     ·exact h
     ·have:=K j h;omega
    subst u;rw[←R] at d;rw[U] at d;cases d
   have p:(fR n t 0).length<(fR n (jJ t n x) 0).length:=by
    have:(r::fR n t 0).length<=(fR n (jJ t n x) 0).length:=List.Nodup.length_le_of_subset (List.nodup_cons.2 ⟨v,yE c.tl.tab⟩) (λy b=>by
     rcases List.mem_cons.1 b with rfl|b
     ·exact W
     ·exact Yv f y b)
    rw[List.length_cons] at this;omega
   unfold clF;rw[if_pos p];refine⟨a,List.nodup_append.2 ⟨c.nd,s.filter _,λy b z G N=>?_⟩,λy=>?_⟩
   ·subst N
    have:=(List.mem_filter.1 G).2;simp at this;exact this b
   ·rw[List.mem_append]
    unfold frF;rw[List.mem_filter];constructor
    ·rintro (h|h)
     ·exact Yv f y ((c.mem y).1 h)
     ·exact h.1
    ·intro h
     by_cases w:y∈l
     ·exact .inl w
     ·exact .inr ⟨h,by simpa using w⟩
 ·unfold clF
  split
  ·exact⟨_,rfl⟩
  ·exact⟨[],(List.append_nil _).symm⟩
theorem Cx.gen (c:Cx n L t l): ∀y∈l,bX n L y:=λy a=>c.tl.gen y ((c.mem y).1 a)
def Pr (n:Nat)(t:rL)(l:zI)(a b:Nat):Prop:=ins t n 0 (aX (l.getD a []) (l.getD b []))=none
theorem Pr.mono {c:rL}{m:zI}{a b:Nat}(h:Pr n t l a b)(s:Sub t c)(d:a<l.length)(i:b<l.length):Pr n c (l++m) a b:=by
 have e: ∀k,k<l.length->(l++m).getD k []=l.getD k []:=λk f=>by rw[List.getD,List.getD,List.getElem?_append_left f]
 unfold Pr;rw[e a d,e b i];exact Fg s _ _ _ h
theorem Cx.closed (c:Cx n L t l)(h: ∀a b,a<l.length->b<l.length->Pr n t l a b):Jh n t:=λa b f q=>by
 obtain⟨i,hi,k⟩:=List.mem_iff_getElem.1 ((c.mem a).2 f);obtain⟨j,d,p⟩:=List.mem_iff_getElem.1 ((c.mem b).2 q);have:=h i j hi d;unfold Pr at this;have o:l.getD i []=a:=by rw[List.getD,List.getElem?_eq_getElem hi,←k];rfl
 have m:l.getD j []=b:=by rw[List.getD,List.getElem?_eq_getElem d,←p];rfl
 rwa [o,m] at this
def BH (t:rL)(i k:Nat):List Nat:=(List.range k).filter λp=>p==i||(t i p).isSome
theorem BC (T:oK n t)(i:Nat):BH t i i= []:=by
 unfold BH;refine List.filter_eq_nil_iff.2 λp a=>?_
 have:=List.mem_range.1 a;simp only[Bool.or_eq_true,beq_iff_eq,not_or];refine⟨oq,λh=>?_⟩;obtain⟨y,b⟩:=Option.isSome_iff_exists.1 h;have:=T.gt b;omega
theorem JM (i k:Nat):BH t i (k+1)=BH t i k++if k=i∨(t i k).isSome then [k] else []:=by
 unfold BH;rw[List.range_succ,List.filter_append]
 by_cases h:k=i
 ·subst h;simp
 ·have e:(k==i)=false:=by simpa using h
  cases h2:t i k<;>simp [h,h2,List.filter,e]
theorem OM (i:Nat):BH t i n=(kX n t i).orb:=rfl
theorem QG (i k:Nat):(BH t i k).Pairwise (· < ·):=List.pairwise_lt_range.filter _
end
end Go.Pm
namespace Go.Proofs.YtcdbmkidaecdiaaGreat
open Go Go.Ay Go.Pm
set_option maxRecDepth 100000
theorem Us (h:H)(x:Int):lQ h 1 [aC 0] 1 [(0,1,aC x)]=some (.sl h.next 0 1 (.kn 1),h.new (.cells false (ints [x]))):=by
 have e:cX [aC 0] 1= [aC 0]:=rfl;simp [lQ,iS,e,putAt,V.cells,V.one,ints]
theorem TB {h:H}{v:V}{sz b:Nat}{ws:List V}(o:cY h v sz ws b): ∀id off len cap,v= .sl id off len cap->b<=id:=by
 rcases o with ⟨rfl,_⟩|⟨id,n,cap,a,rfl,_,_,c,_⟩
 ·intro _ _ _ _ e;cases e
 ·intro _ _ _ _ e;cases e;exact c
theorem We (l:List Nat)(x:Nat):zi (l++ [x])=zi l++ [(x:Int)]:=by simp [zi]
theorem Tg {l:List Nat}{i:Nat}(hi:i<l.length):l.take (i+1)=l.take i++ [l.getD i 0]:=by
 rw[List.take_add_one,dD hi,cJ hi];rfl
theorem Lj (u w:V)(a b:List Nat)(h:H)(hN:a.length<=1000)(P:SI h u (zi a))(hw:SI h w (zi b))(hr: ∀i,i<a.length->a.getD i 0<b.length):
  Ev T 40 [u,w] h (λv h'=>SI h' v (zi (aX a b))/\Fr h h'/\ ∀id off len cap,v= .sl id off len cap->h.next<=id):=by
 refine cV Qu rfl ?_
 have U:=P.lens
 rw[aQ] at U
 obtain⟨id,off,O,x,R⟩:=P.open
 rw[aQ] at O x R
 obtain⟨J,q,B,f,y⟩:=hw.open
 rw[aQ] at B f y
 simp(disch:=omega)only[go_sem,Qu,aD]
 refine aH (λW l Q=> ∃(i:Nat) (o:V),(∃j:Nat->V,l= [u,w,j 2,o,aC i,j 5])/\i<=a.length/\cY Q o 1 (ints (zi ((aX a b).take i))) h.next/\Fr h Q/\W=a.length-i) a.length
  ⟨0,.aE,aB rfl,iJ _,cY.aE _ _ _,Fr.refl h,rfl⟩ ?_
 rintro W l c ⟨i,o,⟨jk,rfl⟩,hi,G,F,rfl⟩
 simp(disch:=omega)only[go_sem,U]
 by_cases s:(i:Int)<(a.length:Int)
 ·rw[oQ s]
  have d:i<a.length:=om
  have ci:c.cell id (off+i)=some (aC (a.getD i 0:Nat)):=by rw[F.cell (x om),R i d];congr 2;simp [zi,d]
  have r:=hr i d
  have N:=cM (b:=b) d
  generalize hk:a.getD i 0=k at ci r N
  have ck:c.cell J (q+k)=some (aC (b.getD k 0:Nat)):=by rw[F.cell (f om),y k r];congr 2;simp [zi,r]
  simp(disch:=omega)only[go_sem,O.ixa,ci,B.ixa,ck,Us]
  have p:Fr c (c.new (.cells false (ints [((b.getD k 0:Nat):Int)]))):=(Fr.refl c).new _
  have z:(c.new (.cells false (ints [((b.getD k 0:Nat):Int)]))).get c.next=some (.cells false (ints [((b.getD k 0:Nat):Int)])):=H.aL ..
  have Y:(c.new (.cells false (ints [((b.getD k 0:Nat):Int)]))).next=c.next+1:=H.aU ..
  generalize c.new (.cells false (ints [((b.getD k 0:Nat):Int)]))=L at*
  have sx:SV L (.sl c.next 0 1 (.kn 1)) 1 (ints [((b.getD k 0:Nat):Int)]):=SV.all rfl om z _
  have nF:=F.next
  have hl:(aX a b).length=a.length:=eY a b
  obtain⟨Z,a0,K,t⟩:=(G.fr p).app (bytes:=8) (n:=i) (m:=1) om sx (by rw[fT,aQ,Fj,uW];omega) rfl om om
  simp(disch:=omega)only[go_sem,K]
  have A:=t.own
  rw[←uT,←N,←We,←Tg om] at A
  rw[eJ i]
  exact⟨a.length-(i+1),om,i+1,Z,aB rfl,om,A,t.fr h (F.trans p) (fM _),rfl⟩
 rw[bH s]
 obtain rfl:i=a.length:=om
 simp(disch:=omega)only[go_sem]
 rw[Tn (by rw[eY];omega)] at G
 exact⟨G.sv,F,TB G⟩
theorem aaW (n:Nat)(h:H)(K:n<=1000):
  Ev T 91 [aC n] h (λv h'=>SI h' v (zi (bL n))/\Fr h h'/\ ∀id off len cap,v= .sl id off len cap->h.next<=id):=by
 refine cV Qz rfl ?_
 simp(disch:=omega)only[go_sem,Qz,aD]
 refine aH (λt c w=> ∃(i:Nat) (o:V),(∃j:Nat->V,c= [aC n,j 1,o,aC i,j 4])/\i<=n/\cY w o 1 (ints (zi ((bL n).take i))) h.next/\Fr h w/\t=n-i) n
  ⟨0,.aE,aB rfl,iJ _,cY.aE _ _ _,Fr.refl h,rfl⟩ ?_
 rintro t c a ⟨i,o,⟨J,rfl⟩,hi,p,F,rfl⟩
 simp(disch:=omega)only[go_sem]
 by_cases k:(i:Int)<(n:Int)
 ·rw[oQ k]
  have s:i<n:=om
  simp(disch:=omega)only[go_sem,Us]
  have b:Fr a (a.new (.cells false (ints [(i:Int)]))):=(Fr.refl a).new _
  have d:(a.new (.cells false (ints [(i:Int)]))).get a.next=some (.cells false (ints [(i:Int)])):=H.aL ..
  have u:(a.new (.cells false (ints [(i:Int)]))).next=a.next+1:=H.aU ..
  generalize a.new (.cells false (ints [(i:Int)]))=r at*
  have B:SV r (.sl a.next 0 1 (.kn 1)) 1 (ints [(i:Int)]):=SV.all rfl om d _
  have G:=F.next
  have L:=jG n
  obtain⟨y,z,q,l⟩:=(p.fr b).app (bytes:=8) (n:=i) (m:=1) om B (by rw[fT,aQ,Fj,uW];omega) rfl om om
  simp(disch:=omega)only[go_sem,q]
  have f:=l.own
  have x:=fQ s
  have A:zi ((bL n).take i)++ [(i:Int)]=zi ((bL n).take (i+1)):=by rw[Tg om,We,x]
  rw[←uT,A] at f
  rw[eJ i]
  exact⟨n-(i+1),om,i+1,y,aB rfl,om,f,l.fr h (F.trans b) (fM _),rfl⟩
 rw[bH k]
 obtain rfl:i=n:=om
 simp(disch:=omega)only[go_sem]
 rw[Tn (by rw[jG];omega)] at p
 exact⟨p.sv,F,TB p⟩
theorem YV (u:V)(n:Nat)(a:List Nat)(h:H)(Y:n<=1000)(A:bE n a)(B:SI h u (zi a)):
  Ev T 39 [u] h (λv h'=>AM h h' v (dA a)):=by
 refine cV Sc rfl ?_
 have l:=A.len
 have x:=B.lens
 rw[aQ,l] at x
 obtain⟨id,off,z,p,J⟩:=B.open
 rw[aQ,l] at z p J
 simp(disch:=omega)only[go_sem,Sc,aD,x,sT h n om]
 have o:Fr h (h.new (.cells false (rc n λ_=> aC 0))):=(Fr.refl h).new _
 have f:(h.new (.cells false (rc n λ_=> aC 0))).get h.next=some (.cells false (rc n λ_=> aC 0)):=H.aL ..
 have d:(h.new (.cells false (rc n λ_=> aC 0))).next=h.next+1:=H.aU ..
 generalize h.new (.cells false (rc n λ_=> aC 0))=W at*
 obtain⟨S,q⟩:=exI h.next
 rw[q] at f d
 rw[q]
 refine aH (λK c w=> ∃(i:Nat),(∃j:Nat->V,c= [u,.aE,.sl S 0 n (.kn n),aC i,j 4])/\i<=n/\
   w.get S=some (.cells false (rc n λj=>if a.idxOf j<i then aC (a.idxOf j:Nat) else aC 0))/\w.next=S+1/\Fr h w/\K=n-i) n
  ⟨0,aB rfl,iJ _,by rw[f];rfl,d,o,rfl⟩ ?_
 clear f o d
 rintro K c y ⟨i,⟨Z,rfl⟩,hi,O,N,F,rfl⟩
 simp(disch:=omega)only[go_sem,x]
 by_cases m:(i:Int)<(n:Int)
 ·rw[oQ m]
  have b:i<n:=om
  have ci:y.cell id (off+i)=some (aC (a.getD i 0:Nat)):=by rw[F.cell (p om),J i b];congr 2;simp [zi,l,b]
  have r:=A.iN b
  have L:a.idxOf (a.getD i 0)=i:=A.inj (A.idx r).1 b (A.idx r).2
  generalize P:a.getD i 0=k at ci r L
  have Q:decide ((k:Int)<0)=false:=bH om
  have s:decide ((n:Int)<=(k:Int))=false:=bH om
  have G:=bN (vs:=rc n λj=>if a.idxOf j<i then aC (a.idxOf j:Nat) else aC 0) (off:=k) (by rw[Df];exact r) y S (aC i)
  rw[mS] at G
  simp(disch:=omega)only[go_sem,z.ixa,ci,Q,s,O,G]
  rw[eJ i]
  refine⟨n-(i+1),om,i+1,aB rfl,om,?_,N,F.set om _,rfl⟩
  congr 2
  refine dB λj t=>?_
  by_cases e:j=k
  ·rw[bF e,e,L,bF om]
  ·rw[bI e]
   have U:a.idxOf j≠i:=λR=>e (by rw[←(A.idx t).2,R,P])
   by_cases s:a.idxOf j<i
   ·rw[bF s,bF om]
   ·rw[bI s,bI om]
 rw[bH m]
 obtain rfl:i=n:=om
 simp(disch:=omega)only[go_sem]
 refine⟨by rw[jQ,l,q],?_,by rw[q];exact N,F⟩
 rw[q,O]
 congr 2
 rw[←Zu,jQ,l]
 exact dB λj t=>by rw[bF (A.idx t).1,xI (by rw[l];exact t)]
structure Ia (b:Nat)(W:Nat->Prop)(h:H)(n:Nat)(tv:V)(ρ:Nat->Nat)(F:Nat->Nat->V)(t:rL):Prop where
 sv:SV h tv 1 (rc n λi=> .sl (ρ i) 0 n (.kn n))
 off:Mq W tv
 row: ∀i,i<n->h.get (ρ i)=some (.cells false (rc n (F i)))
 wb: ∀i,i<n->W (ρ i)
 Nw: ∀id,W id->id<h.next
 low: ∀id,W id->b<=id
 inj: ∀i j,i<n->j<n->ρ i=ρ j->i=j
 ent: ∀i p,i<n->p<n->Slot W h (F i p) (t i p)
section
variable {b:Nat} {W:Nat->Prop} {h h':H} {n:Nat} {tv:V} {ρ:Nat->Nat} {F:Nat->Nat->V} {t:rL}
theorem Ia.open (R:Ia b W h n tv ρ F t):bT tv=some (aC n)/\ ∃id off,Sl tv 1 n id off/\ ∀i,i<n->h.cell id (off+i)=some (.sl (ρ i) 0 n (.kn n)):=by
 have s:=R.sv;have f:(rc n λi=>V.sl (ρ i) 0 n (.kn n)).length=n:=Df n _;refine⟨by unfold bT;rw[SV.len s (n:=n) om om];rfl,?_⟩;obtain⟨id,off,a,c,d⟩:=SV.shape s n om om;refine⟨id,off,a,λi hi=>?_⟩;rw[d i om,Mi hi]
theorem Ia.cell (R:Ia b W h n tv ρ F t){i p:Nat}(hi:i<n)(a:p<n):h.cell (ρ i) p=some (F i p):=Bw (R.row i hi) a
theorem Ia.mono (R:Ia b W h n tv ρ F t)(f:Fr h h'):Ia b W h' n tv ρ F t:=
 ⟨R.sv.mono f,R.off,λi hi=>by rw[f.get _ (R.Nw _ (R.wb i hi))];exact R.row i hi,R.wb,λid a=>iW (R.Nw id a) f.next,R.low,R.inj,λi p hi c=>(R.ent i p hi c).fx (Fx.of f)⟩
theorem Ia.go (R:Ia b W h n tv ρ F t){W':Nat->Prop}(f:Fx W h h')(d: ∀i,i<n->h'.get (ρ i)=h.get (ρ i))(c: ∀id,id<h.next->W' id->W id)(a: ∀id,W id->W' id)(Nw: ∀id,W' id->id<h'.next)(low: ∀id,W' id->b<=id):Ia b W' h' n tv ρ F t:=
 ⟨R.sv.fx R.off f,R.off.Fo R.sv c,λi hi=>by rw[d i hi];exact R.row i hi,λi hi=>a _ (R.wb i hi),Nw,low,R.inj,λi p hi j=>(R.ent i p hi j).go f c⟩
def WB (n:Nat)(ρ:Nat->Nat)(id:Nat):Prop:= ∃i,i<n/\ρ i=id
theorem Ia.wbx (R:Ia b W h n tv ρ F t){a c:H}(f:Fx (WB n ρ) a c):Fx W a c:=f.Fo λid _ d=>by
 obtain⟨i,hi,rfl⟩:=d;exact R.wb i hi
def F2 (F:Nat->Nat->V)(i p:Nat)(v:V):Nat->Nat->V:=λj q=>if j=i/\q=p then v else F j q
theorem Ia.put (R:Ia b W h n tv ρ F t){i p:Nat}(hi:i<n)(o:p<n){c:V}{x:List Nat}(l:PV W h c x):
  ∃h',dX (h.get (ρ i)) h (ρ i) p [c]=some h'/\Ia b W h' n tv ρ (F2 F i p c) (Pm.put t i p x)/\Fx (WB n ρ) h h'/\h'.next=h.next:=by
 have m:=bN (vs:=rc n (F i)) (off:=p) (by rw[Df];exact o) h (ρ i) c
 rw[R.row i hi,m,mS]
 refine⟨_,rfl,?_,Fx.set h (W:=WB n ρ) ⟨i,hi,rfl⟩ _,rfl⟩
 have f:Fx W h (h.set (ρ i) (some (.cells false (rc n λj=>if j=p then c else F i j)))):=Fx.set h (R.wb i hi) _
 refine⟨R.sv.fx R.off f,R.off,λj d=>?_,R.wb,R.Nw,R.low,R.inj,λj q d k=>?_⟩
 ·by_cases e:j=i
  ·subst e
   rw[H.aS]
   congr 2
   refine dB λq _=>?_
   unfold F2
   by_cases a:q=p
   ·rw[bF a,bF ⟨rfl,a⟩]
   ·rw[bI a,bI (λh=>a h.2)]
  ·rw[H.aG h (λa=>e (R.inj _ _ d hi a)),R.row j d]
   congr 2
   refine dB λq _=>?_
   unfold F2
   rw[bI (λh=>e h.1)]
 ·unfold F2 Pm.put
  by_cases e:j=i/\q=p
  ·rw[bF e,bF e]
   exact PV.fx l f
  ·rw[bI e,bI e]
   exact (R.ent j q d k).fx f
theorem PV.fresh {v:V}{l:List Nat}(s:SI h' v (zi l))(d: ∀id off len cap,v= .sl id off len cap->h.next<=id)(c: ∀id,W id->id<h.next):PV W h' v l:=by
 refine⟨s,?_⟩
 cases v with
 |sl id off len cap=>exact λa=>by have:=d _ _ _ _ rfl;have:=c id a;omega
 |_=>trivial
theorem Slot.nil {v:V}(s:Slot W h v none):v= .aE:=s
end
theorem Rw (b:Nat)(W:Nat->Prop)(h:H)(n:Nat)(tv:V)(ρ:Nat->Nat)(F:Nat->Nat->V)(t:rL)(vx:V)(x:List Nat)(hn:n<=64)(h0:0<n)(R:Ia b W h n tv ρ F t)(hx:PV W h vx x)(X:bE n x)(TI:oK n t):
  Ev T 87 [tv,vx] h (λv h'=> ∃F',v= .bool (ins t n 0 x).isSome/\Ia b W h' n tv ρ F' (jJ t n x)/\Fx (WB n ρ) h h'):=by
 refine cV rG rfl ?_
 obtain⟨O,id,a5,sh,_⟩:=R.open
 simp(disch:=omega)only[go_sem,rG,aD]
 refine aH (λk' k hh=> ∃(i:Nat) (y:List Nat) (r:V),(∃g:Nat->V,k= [tv,r,g 2,aC i,g 4,g 5,g 6,g 7])/\i<=n/\ins t (n-i) i y=ins t n 0 x/\PV W hh r y/\bE n y/\Fr h hh/\k'=n-i) n
  ⟨0,x,vx,aB rfl,iJ _,rfl,hx,X,Fr.refl h,rfl⟩ ?_
 rintro k' k h2 ⟨i,y,r,⟨g,rfl⟩,hi,u,s,Y,f,rfl⟩
 have o:=R.mono f
 by_cases B:(i:Int)<(n:Int)
 case neg=>
  have G:=bH B;obtain rfl:i=n:=om
  simp(disch:=omega)only[go_sem,O,G];rw[Nat.sub_self] at u;have a:ins t i 0 x=none:=u.symm;refine⟨F,by rw[a];rfl,?_,Fx.of f⟩;unfold jJ;rw[a];exact o
 have G:=oQ B
 have c:i<n:=om
 obtain⟨a1,L,d,A,K⟩:=s.si.open
 rw[aQ,Y.len] at d A K
 have ci:h2.cell a1 (L+i)=some (aC (y.getD i 0:Nat)):=by rw[K i c];congr 2;simp [zi,Y.len,c]
 have Q:=Y.iN c
 obtain⟨p,l⟩:=exI (y.getD i 0)
 rw[l] at ci Q
 have q:n-i=(n-(i+1))+1:=om
 rw[q] at u
 obtain⟨_,a6,a4,N,a0⟩:=o.open
 have cr:=a0 i c
 have U:=o.cell c Q
 have P:=o.ent i p c Q
 by_cases m:p=i
 ·have a:ins t (n-(i+1)) (i+1) y=ins t n 0 x:=by
   rw[←u]
   conv=>rhs;unfold ins
   rw[bF (l.trans m)]
  have e2:decide ((p:Int)=(i:Int))=true:=oQ om;simp(disch:=omega)only[go_sem,O,G,d.ixa,ci,e2];rw[eJ i];exact⟨n-(i+1),om,i+1,y,r,aB rfl,om,a,s,Y,f,rfl⟩
 have e2:decide ((p:Int)=(i:Int))=false:=bH om
 have e3:decide ((p:Int)<0)=false:=bH om
 have e4:decide ((n:Int)<=(p:Int))=false:=bH om
 cases hto:t i p with
 |none=>
  rw[hto] at P;have a2:=P.nil;rw[a2] at U
  have a:ins t n 0 x=some (i,y):=by
   rw[←u];unfold ins;rw[bI (by rw[l];exact m),l,hto]
  obtain⟨h3,pt,R3,J,n3⟩:=o.put c Q s;simp(disch:=omega)only[go_sem,O,G,d.ixa,ci,e2,e3,e4,N.ixa,cr,U,Fw s.fG.1 s.fG.2,pt];have e5:jJ t n x=Pm.put t i p y:=by unfold jJ;rw[a];simp only;rw[l]
  refine⟨F2 F i p r,by rw[a];rfl,by rw[e5];exact R3,(Fx.of f).trans J (λ_ _ h=>h)⟩
 |some z=>
  rw[hto] at P;have Z:=TI.cU _ _ _ hto;have hz:PV W h2 (F i p) z:=P;have sn:=Hv hz (bE.ne h0 Z) false
  have a:ins t (n-(i+1)) (i+1) (aX y (dA z))=ins t n 0 x:=by
   rw[←u]
   conv=>rhs;unfold ins
   rw[bI (by rw[l];exact m),l,hto]
  generalize F i p=vz at U hz sn;simp(disch:=omega)only[go_sem,O,G,d.ixa,ci,e2,e3,e4,N.ixa,cr,U,sn];refine (YV vz n z h2 om Z hz.si).mono ?_;rintro w h3 nw;have J:=nw.fr;have pw:=nw.pv (W:=W) (λhw=>by have:=o.Nw _ hw;omega);simp(disch:=omega)only[go_sem];refine (Lj r w y (dA z) h3 (by rw[Y.len];omega) (s.si.mono J) pw.si (λj hj=>by rw[jQ,Z.len];exact Y.iN (by rw[←Y.len];exact hj))).mono ?_;rintro v h4 ⟨s4,f4,l4⟩;simp(disch:=omega)only[go_sem];rw[eJ i];exact⟨n-(i+1),om,i+1,_,v,aB rfl,om,a,PV.fresh s4 l4 (λid a3=>iW (o.Nw id a3) J.next),Y.mul Z.inv,(f.trans J).trans f4,rfl⟩
end Go.Proofs.YtcdbmkidaecdiaaGreat
