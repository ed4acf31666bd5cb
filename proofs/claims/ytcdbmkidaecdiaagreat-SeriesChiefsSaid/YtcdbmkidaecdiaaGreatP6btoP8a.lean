/- Texts of the claim. -/
import Derived.Test.YtcdbmkidaecdiaaGreatAy18toP6a
import Derived.Sort.AssemblyPlain
set_option maxHeartbeats 64000000
set_option maxRecDepth 100000
namespace Go.Proofs.YtcdbmkidaecdiaaGreat
open Go Go.Ay Go.Pm
theorem aeA {h:H}{S k c:Nat}{vs:List V}{y w:V}(b:h.get S=some (.cells false vs))(l:vs.length=c)(j:k<c)(m:c<1000000)(a:SV h y 1 [w]):
  rD h 1 8 (.sl S 0 k (.kn c)) y=some (.sl S 0 (k+1) (.kn c),h.set S (some (.cells false (vs.set k w)))):=by
 have f:rD h 1 8 (.sl S 0 k (.kn c)) y=Ay.zL h 1 8 (.sl S 0 k (.kn c)) 1 [w]:=by
  simp only[rD,a.len (n:=1) rfl om,a.slice]
 rw[f]
 have i:h.slice 1 (.sl S 0 k (.kn c))=some (vs.take k):=by
  simp only[H.slice,H.row,b,sub];rw[bL om];simp
 have d:h.put S (0+k*1) [w]=some (h.set S (some (.cells false (vs.set k w)))):=by
  rw[H.put_eq,b,Nat.zero_add,qZ,cF om]
 unfold Ay.zL
 simp only[i,vT]
 rw[bV om,bL om,bL om,d]
theorem Zr {l:List Int}{a:List Nat}(c:l.Perm (zi a))(b:l.Pairwise (· <= ·)):l=zi (iR a):=by
 refine Tu ?_ b ?_
 .exact c.trans ((fX a).map _).symm
 .unfold zi
  rw[List.pairwise_map];exact (zB a).imp λh=>om
theorem yP (O:LN)(x:List Nat)(i:Nat):(eY O x i).length=(O.getD i []).length:=by simp [eY]
theorem CB {O:LN}{x:List Nat}{i k:Nat}(a:k<(O.getD i []).length):(eY O x i).getD k 0=x.getD ((O.getD i []).getD k 0) 0:=by
 unfold eY;rw[fO (λq=>x.getD q 0) (d:=0) a]
theorem AN {W:Nat->Prop}(vc vx:V)(n i:Nat)(O:LN)(R:iA)(G:List Nat->Prop)(x:List Nat)(h:H)(L:GC W h vc n O R G)(hi:i<n)(hx:SI h vx (zi x))(X:aY n x):
  Ev T 180 [vc,vx,aC i] h (λv h'=>wQ h h' v (zi (iR (eY O x i)))):=by
 obtain⟨vO,vR,e,sO,sR⟩:=L.ch
 subst e
 refine kV ?_
 have b:=L.isc
 have n7:=L.n7
 have⟨wO,tO,aO⟩:=sO
 have lO:=aO.length
 rw[fL,b.lo] at lO
 have P:=tO.cM.2.1
 have a3:vR.one=true:=Yb sR
 obtain⟨B,hB⟩:=exI h.next
 obtain⟨h1,e1,n1,g1,o1,f1⟩:=dF hB [aC n,vO,vR]
 have bx:=aU h (v:= aC n) (u:=vO) (w:=vR) rfl P a3
 have a:=gH aO (i:=i) (by rw[fL,b.lo];omega) .undef []
 rw[fO zi (d:= []) (by rw[b.lo];omega)] at a
 obtain⟨N,o,b1,K,a6⟩:=(tO.mono f1).shape n om om
 have co:h1.cell N (o+i)=some (wO.getD i .undef):=by rw[a6 i om,List.getD,dC om];rfl
 generalize wO.getD i .undef=vo at a co
 have lo:=a.lens
 rw[aL] at lo
 obtain⟨m,s⟩:=exI ((O.getD i []).length)
 rw[s] at lo
 have Q:=L.row (j:=i) hi
 rw[s] at Q
 have mk:Ct h1 1 8 [aC 0] (aC 0) (aC m)=some (.sl (B+1) 0 0 (.kn m),h1.new (.cells false (rc m λ_=> aC 0))):=by
  rw[qT om om om om,IF,qZ,Gr,show ints (List.replicate m 0)=rc m λ_=> aC 0 from (Gy (by simp [aN]) λi hi=>by simp [ints,hi]).symm,n1]
  rfl
 obtain⟨h2,e2,n2,g2,o2,f2⟩:=dF n1 (rc m λ_=> aC 0)
 rw[e2] at mk
 have b2:h2.get B=some (.cells false [aC n,vO,vR]):=by rw[o2 _ om];exact g1
 have a9:h2.cell N (o+i)=some vo:=by rw[f2.cell (by have:=K om;omega)];exact co
 simp(disch:=omega)only[go_sem,aI,bx,hB,e1,H.cell_of g1,b1.ixa,co,lo,mk,H.cell_of b2,a9]
 obtain⟨b0,a2,a1,c,t⟩:=a.open
 rw[aL,s] at a1 c t
 obtain⟨idx,a0,Y,f,y⟩:=hx.open
 rw[aL,X.len] at Y f y
 refine aH (λk' l hh=> ∃(k:Nat),(∃g:Nat->V,l= [g 0,vx,g 2,g 3,g 4,.sl (B+1) 0 k (.kn m),g 6,vo,aC m,aC k,g 10])/\k<=m/\hh.get (B+1)=some (.cells false (rc m λj=>if j<k then aC ((eY O x i).getD j 0:Nat) else aC 0))/\B+1<hh.next/\Fr h hh/\k'=m-k) m
  ⟨0,aB rfl,fE _,by rw[g2];rfl,om,f1.trans f2,rfl⟩ ?_
 rintro k' l p ⟨k,⟨g,rfl⟩,hk,gS,nx,F,rfl⟩
 by_cases Z:(k:Int)<(m:Int)
 .have d1:=cJ Z
  have A:k<m:=om
  have cq:p.cell b0 (a2+k)=some (aC ((O.getD i []).getD k 0:Nat)):=by rw[F.cell (c om),t k A];congr 2;rw[zi,fO _ (d:=0) om]
  have hq:=yK L.cX b hi (q:=(O.getD i []).getD k 0) (aV om)
  have J:=CB (O:=O) (x:=x) (i:=i) (k:=k) om
  generalize (O.getD i []).getD k 0=q at cq hq J
  have cx:p.cell idx (a0+q)=some (aC (x.getD q 0:Nat)):=by rw[F.cell (f om),y q hq];congr 2;simp [zi,X.len,hq]
  obtain⟨h5,e5,n5,g5,o5,r⟩:=dF (h:=p) rfl [aC (x.getD q 0:Nat)]
  have a7:h5.get (B+1)=some (.cells false (rc m λj=>if j<k then aC ((eY O x i).getD j 0:Nat) else aC 0)):=by rw[r.get _ nx];exact gS
  have ap:=aeA a7 (iK _ _) A om (SV.one (v:= aC (x.getD q 0:Nat)) (id:=p.next) om g5 (.kn 1))
  rw[jL] at ap
  refine qL d1 @a1.ixa cq @Y.ixa cx (cQ p (z:= aC 0) (v:= aC (x.getD q 0:Nat)) rfl rfl) e5 ap ?_
  rw[eJ k]
  refine⟨m-(k+1),om,k+1,aB rfl,om,?_,om,(F.trans r).set om _,rfl⟩
  congr 2
  refine cT λj hj=>?_
  by_cases e:j=k
  .subst e;rw[bL rfl,bL om,J]
  .rw[bV e]
   by_cases e2:j<k
   .rw[bL e2,bL om]
   .rw[bV e2,bV om]
 have d1:=bT Z
 obtain rfl:k=m:=om
 have a4:(zi (eY O x i)).length=k:=by rw[aL,yP,s]
 have a8:p.get (B+1)=some (.cells false (ints (zi (eY O x i)))):=by
  rw[gS,<-Uh,yP,s];congr 2;exact cT λj hj=>by rw[bL hj]
 have so:=Ib p (B+1) (zi (eY O x i)) (.kn k) om a8 nx
 rw[a4] at so
 refine bE d1 ?_
 refine so.mono ?_
 rintro _ h5 ⟨l',g5,p5,a5,r⟩
 have el:=Zr p5 a5
 subst el
 have ls:(zi (iR (eY O x i))).length=k:=by rw[aL,(fX _).length_eq,yP,s]
 refine aM ?_
 refine⟨⟨B+1,_,by rw[ls],om,kQ nx r.next,g5,.inr (by rw[ls])⟩,⟨kP F.next r.next,λid U=>?_⟩⟩
 rw[r.get id (kQ U F.next) (λe=>by have:id=B+1:=e;omega)]
 exact F.get id U
theorem NM:{l:List Nat}->{k im:Nat}->l[k]? =some im->l.idxOf im<=k
 | [],k,im,h=>by simp at h
 |a::l,0,im,h=>by
  have:a=im:=by simpa using h
  subst this;simp [List.idxOf_cons]
 |a::l,k+1,im,h=>by
  rw[List.idxOf_cons]
  by_cases e:a=im
  .subst e;simp
  .have b:(a==im)=false:=by simpa using e
   rw[b];have:=NM (l:=l) (k:=k) (im:=im) (by simpa using h);simp only[cond_false];omega
theorem adD (L B:V)(a b:Nat)(o x:List Nat)(im:Nat)(h:H)(hn:o.length<1000000)(P:SI h L (zi o))(hx:SI h B (zi x))(ha:h.get a=some (.cells false [B]))(W:h.get b=some (.cells false [aC im]))(A:a<h.next)(N:b<h.next)(hr: ∀q∈o,q<x.length)(u:im∈o.map λq=>x.getD q 0):
  Ev T 222 [L,.fn 223 [] [.ptr a 0,.ptr b 0]] h (λv h'=>v= aC ((o.map λq=>x.getD q 0).idxOf im:Nat)/\Fr h h'):=by
 have U:=P.lens
 rw[aL] at U
 obtain⟨K,y,w,i,n⟩:=P.open
 rw[aL] at w i n
 obtain⟨idx,r,p,j,s⟩:=hx.open
 rw[aL] at p j s
 have z:=iLL.2 u
 rw[fL] at z
 refine yF U ?_
 refine aH (λO l f=> ∃(k:Nat),(∃g:Nat->V,l= [L,.fn 223 [] [.ptr a 0,.ptr b 0],g 2,g 3,aC (o.length:Int),aC k,g 6,g 7])/\k<=(o.map λq=>x.getD q 0).idxOf im/\Fr h f/\O=o.length-k) o.length
  ⟨0,aB rfl,fE _,Fr.refl h,rfl⟩ ?_
 rintro O l f ⟨k,⟨g,rfl⟩,hk,F,rfl⟩
 have c:k<o.length:=om
 have Z:decide ((k:Int)<(o.length:Int))=true:=cJ om
 have Q:f.cell K (y+k)=some (aC (o.getD k 0:Nat)):=by rw[F.cell (i om),n k c];congr 2;rw[zi,fO _ (d:=0) c]
 have G:=hr _ (aV (d:=0) c)
 have m:(o.map λq=>x.getD q 0)[k]'(by simpa using c)=x.getD (o.getD k 0) 0:=by simp [List.getD,c]
 generalize o.getD k 0=q at Q G m
 have Y:f.cell idx (r+q)=some (aC (x.getD q 0:Nat)):=by rw[F.cell (j om),s q G];congr 2;simp [zi,G]
 have ca:f.cell a 0=some B:=by rw[H.cell_of (by rw[F.get _ A];exact ha)];rfl
 have cb:f.cell b 0=some (aC im):=by rw[H.cell_of (by rw[F.get _ N];exact W)];rfl
 have cl:Ev T 223 [aC q,.ptr a 0,.ptr b 0] f (λv h'=>v= .bool (decide (((x.getD q 0:Nat):Int)=(im:Int)))/\Fr f h'):=by
  refine pY ca @p.ixa Y cb ?_;exact (Fr.refl f).bU om
 refine dQ Z @w.ixa Q ?_
 refine cl.mono ?_
 rintro _ h2 ⟨rfl,R⟩
 by_cases t:((x.getD q 0:Nat):Int)=(im:Int)
 .rw[cJ t]
  refine aM ?_
  have:(o.map λq=>x.getD q 0).idxOf im=k:=by
   have J:(o.map λq=>x.getD q 0).idxOf im<=k:=NM (by
    rw[dC (by simpa using c),m]
    congr 1;omega)
   omega
  rw[this]
  exact⟨rfl,F.trans R⟩
 .rw[bT t]
  refine aM ?_
  rw[eJ k]
  refine⟨o.length-(k+1),om,k+1,aB rfl,?_,F.trans R,rfl⟩
  have:(o.map λq=>x.getD q 0).idxOf im≠k:=λe=>by
   have J:=List.getElem_idxOf (iLL.2 u);simp only[e] at J;rw[m] at J;omega
  omega
theorem aaU {W:Nat->Prop}(vc m:V)(n i im:Nat)(O:LN)(R:iA)(G:List Nat->Prop)(x:List Nat)(h:H)(l:GC W h vc n O R G)(hi:i<n)(P:SI h m (zi x))(X:aY n x)(p:im∈eY O x i):
  Ev T 181 [vc,m,aC i,aC im] h (λv h'=>wQ h h' v (zi (gO O R x i im))):=by
 obtain⟨K,L,e,sO,sR⟩:=l.ch
 subst e
 refine kV ?_
 have a:=l.isc
 have n7:=l.n7
 have⟨wO,tO,aO⟩:=sO
 have⟨wR,tR,aR,kR⟩:=sR
 have lO:=aO.length
 have lR:=aR.length
 rw[fL,a.lo] at lO
 rw[fL,a.lr] at lR
 have s:=tO.cM.2.1
 have J:=tR.cM.2.1
 obtain⟨B,hB⟩:=exI h.next
 obtain⟨h1,e1,n1,g1,o1,f1⟩:=dF hB [aC n,K,L]
 obtain⟨h2,e2,n2,g2,o2,f2⟩:=dF n1 [m]
 obtain⟨N,e3,n3,g3,o3,f3⟩:=dF n2 [aC im]
 have Q:=(f1.trans f2).trans f3
 have bx:=aU h (v:= aC n) (u:=K) (w:=L) rfl s J
 have a7:=mH P.cM.1 P.cM.2.1 h1
 have a9:=Ju h2 .i64 (im:Int)
 have A:N.get B=some (.cells false [aC n,K,L]):=by rw[o3 _ om,o2 _ om];exact g1
 have r:N.get (B+1)=some (.cells false [m]):=by rw[o3 _ om];exact g2
 have b:=gH aO (i:=i) (by rw[fL,a.lo];omega) .undef []
 rw[fO zi (d:= []) (by rw[a.lo];omega)] at b
 obtain⟨a0,z,a8,b5,U⟩:=(tO.mono Q).shape n om om
 have co:N.cell a0 (z+i)=some (wO.getD i .undef):=by rw[U i om,List.getD,dC om];rfl
 generalize wO.getD i .undef=vo at b co
 simp(disch:=omega)only[go_sem,aI,bx,hB,e1,a7,n1,e2,a9,n2,e3,H.cell_of A,a8.ixa,co]
 have row:=l.row (j:=i) hi
 refine (adD vo m (B+1) (B+1+1) (O.getD i []) x im N om (b.mono Q) (P.mono Q) r g3 om om (λq hq=>by rw[X.len];exact yK l.cX a hi hq) p).mono ?_
 rintro _ f ⟨rfl,f4⟩
 obtain⟨k,hk,ek,_,b1,es,Y,_⟩:=lY l.cX a X hi p
 have a5:(List.map (λq=>x.getD q 0) (O.getD i [])).idxOf im=k:=ek
 rw[a5,es]
 have o:=Q.trans f4
 have a2:f.get B=some (.cells false [aC n,K,L]):=by rw[f4.get _ om];exact A
 have b0:f.get (B+1)=some (.cells false [m]):=by rw[f4.get _ om];exact r
 have c:=gH aR (i:=i) (by rw[fL,a.lr];omega) .undef []
 rw[fO (List.map zi) (d:= []) (by rw[a.lr];omega)] at c
 obtain⟨a6,y,b2,b4,b3⟩:=(tR.mono o).shape n om om
 have cr:f.cell a6 (y+i)=some (wR.getD i .undef):=by rw[b3 i om,List.getD,dC om];rfl
 generalize wR.getD i .undef=vr at c cr
 have⟨wr,tr,ar⟩:=c
 have lr:=ar.length
 rw[fL] at lr
 have t:k<(R.getD i []).length:=by rw[a.rl i hi];exact hk
 have sz:=gH ar (i:=k) (by rw[fL];exact t) .undef []
 rw[fO zi (d:= []) t] at sz
 obtain⟨a1,F,a3,b6,a4⟩:=(tr.mono o).shape (R.getD i []).length om om
 have cz:f.cell a1 (F+k)=some (wr.getD k .undef):=by rw[a4 k om,List.getD,dC om];rfl
 generalize wr.getD k .undef=vz at sz cz
 have b7:(k:Int)<((R.getD i []).length:Int):=om
 have Z:=l.cX.bM b1.mem
 have fb:Fr f (H.mk f.tr (f.next+11)):=(Fr.refl f).bU om
 simp(disch:=omega)only[go_sem,H.cell_of a2,b2.ixa,cr,a3.ixa,cz,H.cell_of b0]
 refine (nU Zu.ok vz m _ x (H.mk f.tr (f.next+11)) (by rw[Z.len];omega) (sz.mono (o.trans fb)) (P.mono (o.trans fb)) (λj hj=>by rw[X.len];exact Z.fZ (by rw[<-Z.len];exact hj))).mono ?_
 rintro v h5 nw
 refine aM ?_
 exact (uS nw).le (o.trans fb)
def Kept (b:Nat)(W:Nat->Prop)(hh h':H):Prop:=hh.next<=h'.next/\ ∀id,id<hh.next->(id<b\/W id)->h'.get id=hh.get id
theorem Kept.fr {b:Nat}{W:Nat->Prop}{hh h':H}(f:Fr hh h'):Kept b W hh h':=⟨f.next,λid h _=>f.get id h⟩
structure Rdr (id b:Nat)(L:LN)(W0:Nat->Prop)(J:Nat->(Nat->Prop)->H->Prop)(D:(Nat->Prop)->H->Prop):Prop where
 kJ: ∀k W hh h',J k W hh->Kept b W hh h'->J k W h'
 kD: ∀W hh h',D W hh->Kept b W hh h'->D W h'
 y: ∀k W hh v,k<L.length->J k W hh->PV W hh v (L.getD k [])->(∀id,W id->id<hh.next)->b<=hh.next->(∀id,id<b->W id->W0 id)->
  Ey T id [v] hh (λv h'=> ∃W2,(∀id,id<hh.next->W2 id->W id)/\(∀id,W2 id->id<h'.next)/\Fx W hh h'/\(v= .bool true/\J (k+1) W2 h'\/v= .bool false/\D W2 h'))
def ElC (n:Nat)(vO vR:V)(O:LN)(R:iA)(G:List Nat->Prop)(d:Nat):Prop:=
 ∀(i:Nat) (x:List Nat) (vx:V) (id bi bc bx:Nat) (h:H) (W:Nat->Prop) (J:Nat->(Nat->Prop)->H->Prop) (D:(Nat->Prop)->H->Prop),i+d=n->aY n x->
  h.get bi=bG [aC i]->h.get bc=bG [aC n,vO,vR]->h.get bx=bG [vx]->PV W h vx x->bi<h.next->bc<h.next->bx<h.next-> ¬W bi-> ¬W bc-> ¬W bx->
  GC W h (.agg [aC n,vO,vR]) n O R G->(∀id,W id->id<h.next)->J 0 W h->Rdr id h.next (bZ O R d i x) W J D->
  Ev T 179 [.yl id,.ptr bi 0,.ptr bc 0,.ptr bx 0] h (λ_ h'=> ∃W2,(∀id,id<h.next->W2 id->W id)/\(∀id,W2 id->id<h'.next)/\Fx W h h'/\(J (bZ O R d i x).length W2 h'\/D W2 h'))
theorem XM (n:Nat)(s w:V)(O:LN)(R:iA)(G:List Nat->Prop):ElC n s w O R G 0:=by
 intro i x q id z u l h W J D hi X Z F L o li lc lx wi wc wx g r K rd;obtain rfl:i=n:=om
 obtain⟨B,k⟩:=exI h.next;obtain⟨a,Q,n1,A,f,d⟩:=dF k [.yl id];have c:=mH (x:= .yl id) rfl rfl h;have ci:=H.cell_of (h:=a) (id:=z) (by rw[f _ om];exact Z);have p:=H.cell_of (h:=a) (id:=u) (by rw[f _ om];exact F);have t:=H.cell_of (h:=a) (id:=l) (by rw[f _ om];exact L);have d1:decide ((i:Int)=(i:Int))=true:=cJ rfl;refine aeG c k Q ci p ?_;refine bI (λ_=>?_) (λY=>(Y (by first|rfl|trivial)).elim);simp(disch:=omega)only[go_sem,H.cell_of A,t];refine (rd.y 0 W a q (by simp [bZ]) (rd.kJ 0 W h a K (Kept.fr d)) (o.mono d) (λid h=>by have:=r id h;omega) om (λid _ h=>h)).mono ?_;rintro v j ⟨N,m,U,P,b⟩;refine aM ?_;refine⟨N,λid a j=>m id om j,U,(Fx.of d).trans P (λ_ _ h=>h),?_⟩;rcases b with ⟨_,b⟩|⟨_,b⟩
 .exact .inl b
 .exact .inr b
theorem NF (d:Int)(c b a:V)(i:Int)(L:c.one=true)(J:b.one=true)(l:a.cells= [a])(k:a.one=true)(h:H):Ev T 136 [.agg [aC d,c,b],a,aC i] h (λv h'=>v= .fn 179 [] [.ptr (h.next+1+1) 0,.ptr h.next 0,.ptr (h.next+1) 0]/\
  h'.get h.next=bG [aC d,c,b]/\h'.get (h.next+1)=bG [a]/\h'.get (h.next+1+1)=bG [aC i]/\h'.next=h.next+3/\Fr h h'):=by
 refine kV ?_
 obtain⟨B,o⟩:=exI h.next
 obtain⟨K,z,n,r,R,A⟩:=dF o [aC d,c,b]
 obtain⟨s,O,p,y,N,x⟩:=dF n [a]
 obtain⟨Q,F,t,P,m,G⟩:=dF p [aC i]
 have q:=aU h (v:= aC d) (u:=c) (w:=b) rfl L J
 have j:=mH l k K
 have f:=Ju s .i64 i
 simp(disch:=omega)only[go_sem,aI,q,o,z,j,n,O,f,p,F]
 exact⟨by rw[m _ om,N _ om];exact r,by rw[m _ om];exact y,P,t,(A.trans x).trans G⟩
theorem Lw {α β:Type}{l:List α}{f:α->List β}{m:Nat}(a:m<l.length)(d:α):((l.take (m+1)).flatMap f).length=((l.take m).flatMap f).length+(f (l.getD m d)).length:=by
 rw[dJ d a,List.flatMap_append];simp
theorem EJ {α β:Type}{f:α->List β}{e:β}(d:α):{l:List α}->{m k:Nat}->m<l.length->k<(f (l.getD m d)).length->(l.flatMap f).getD (((l.take m).flatMap f).length+k) e=(f (l.getD m d)).getD k e/\((l.take m).flatMap f).length+k<(l.flatMap f).length
 | [],m,k,h,_=>by simp at h
 |a::l,0,k,_,b=>by
  have b:k<(f a).length:=b;constructor
  .simp only[List.take_zero,List.flatMap_nil,List.length_nil,Nat.zero_add,List.flatMap_cons]
   rw[List.getD,List.getD,wU b];rfl
  .simp;omega
 |a::l,m+1,k,h,b=>by
  have j:m<l.length:=by simpa using h
  have c:k<(f (l.getD m d)).length:=by simpa using b
  obtain⟨i,n⟩:=EJ (e:=e) d (l:=l) j c;constructor
  .simp only[List.take_succ_cons,List.flatMap_cons,iB]
   rw[Nat.add_assoc,List.getD,zT om,Nat.add_sub_cancel_left];exact i
  .simp only[List.take_succ_cons,List.flatMap_cons,iB];omega
structure InJ (off id2 b4 id:Nat)(r:fR)(J:Nat->(Nat->Prop)->H->Prop)(W0:Nat->Prop)(k:Nat)(W:Nat->Prop)(hh:H):Prop where
 ex: ∃W3,(∀id,W id↔(W3 id\/id=id2))/\ ¬W3 id2/\ ¬W3 b4/\J (off+k) W3 hh/\(∀id,W3 id->id<hh.next)/\ ∀id,id<id2->W3 id->W0 id
 gr:hh.get id2=some (.loop r)
 g4:hh.get b4=bG [.yl id]
 nx:id2<hh.next
structure InD (id2 b4:Nat)(r:fR)(D:(Nat->Prop)->H->Prop)(W0:Nat->Prop)(W:Nat->Prop)(hh:H):Prop where
 ex: ∃W3,(∀id,W id↔(W3 id\/id=id2))/\ ¬W3 id2/\D W3 hh/\(∀id,W3 id->id<hh.next)/\ ∀id,id<id2->W3 id->W0 id
 gr:hh.get id2=some (.loop (sH r .ret))
 nx:id2<hh.next
theorem UQ (n:Nat)(F K:V)(O:LN)(R:iA)(G:List Nat->Prop)(d:Nat)(ih:ElC n F K O R G d):ElC n F K O R G (d+1):=by
 intro i x vx id bi bc bx h W J D hi X gi gc gx px li lc lx wi wc wx gC hW hJ rd;refine kV ?_;have a8:i<n:=om
 have n7:=gC.n7
 obtain⟨c4,d4⟩:F.one=true/\K.one=true:=by
  obtain⟨a,b,e,s1,s2⟩:=gC.ch;cases e;have⟨_,t1,_⟩:=s1;have⟨_,t2,_⟩:=s2;exact⟨t1.cM.2.1,t2.cM.2.1⟩
 obtain⟨B,hB⟩:=exI h.next;obtain⟨p,e1,n1,g1,o1,f1⟩:=dF hB [.yl id];have e8:=mH (x:= .yl id) rfl rfl h;have c2:p.get bi=bG [aC i]:=by rw[o1 _ om];exact gi
 have b7:p.get bc=bG [aC n,F,K]:=by rw[o1 _ om];exact gc
 have c3:p.get bx=bG [vx]:=by rw[o1 _ om];exact gx
 have d1:decide ((i:Int)=(n:Int))=false:=bT om;have e9:=aE b7;simp(disch:=omega)only[go_sem,aI,e8,hB,e1,H.cell_of c2,H.cell_of b7,d1,e9,H.cell_of c3];refine (AN (.agg [aC n,F,K]) vx n i O R G x p (gC.mono f1) a8 (px.mono f1).si X).mono ?_;rintro v8 c b4;obtain⟨w,a4⟩:=exI (iR (eY O x i));rw[a4] at b4;have f2:=b4.fr;have F2:=f1.trans f2
 have i4:w.length<=7:=by
  have:=(gC.row (j:=i) a8).2;rw[<-a4,(fX _).length_eq,yP];omega
 have e4: ∀q,q∈w->q∈eY O x i:=λq h=>(fX _).mem_iff.1 (by rw[a4];exact h)
 have hL:bZ O R (d+1) i x=w.flatMap λq=>bZ O R d (i+1) (gO O R x i q):=by rw[<-a4];rfl
 obtain⟨P,cp,b3,i1,g2,gP,_⟩:=b4.ex;rw[aL] at b3;have l8:bH v8=some (aC (w.length:Int)):=by rw[b3];rfl
 have e0:J 0 W c:=rd.kJ 0 W h c hJ (Kept.fr F2);have n2:=f2.next;refine bE l8 ?_;refine aH (λk' a9 hh=> ∃(m:Nat) (s:Nat->Prop),(∃g:Nat->V,a9= [.yl id,.ptr bi 0,.ptr bc 0,.ptr bx 0,.ptr B 0,g 5,g 6,g 7,v8,aC (w.length:Int),aC m,g 11,g 12,g 13,g 14])/\m<=w.length/\J ((w.take m).flatMap λq=>bZ O R d (i+1) (gO O R x i q)).length s hh/\Fx W c hh/\(∀id,id<c.next->s id->W id)/\(∀id,s id->id<hh.next)/\k'=w.length-m) w.length
  ⟨0,W,aB rfl,fE _,e0,Fx.refl _ _,λ_ _ h=>h,λid h=>by have:=hW id h;omega,rfl⟩ ?_
 rintro k' a9 u ⟨m,s,⟨g,rfl⟩,hm,a7,F3,w1,w2,rfl⟩
 by_cases c5:(m:Int)<(w.length:Int)
 case neg=>
  have d2:=bT c5;obtain rfl:m=w.length:=om
  refine bE d2 ?_;rw[List.take_length,<-hL] at a7;exact⟨s,λid p c=>w1 id om c,w2,(Fx.of F2).trans F3 (λ_ _ h=>h),.inl a7⟩
 have d2:=cJ c5;have a3:m<w.length:=om
 obtain⟨q,U⟩:=exI (w.getD m 0);have b0:q∈eY O x i:=e4 q (by rw[<-U];exact aV a3);obtain⟨_,_,_,_,_,_,Y,_⟩:=lY gC.cX gC.isc X a8 b0;have n3:=F3.next;have qX: ∀k,k<c.next-> ¬W k->u.get k=c.get k:=λk p c=>F3.get k p c
 have wB: ¬W B:=λh=>by have:=hW B h;omega
 have wP: ¬W P:=λh=>by have:=hW P h;omega
 have c9:u.get bi=bG [aC i]:=by rw[qX _ om wi,f2.get _ om];exact c2
 have c0:u.get bc=bG [aC n,F,K]:=by rw[qX _ om wc,f2.get _ om];exact b7
 have d6:u.get bx=bG [vx]:=by rw[qX _ om wx,f2.get _ om];exact c3
 have e6:u.get B=bG [.yl id]:=by rw[qX _ om wB,f2.get _ om];exact g1
 have cP:u.cell P m=some (aC q):=by rw[H.cell_of (by rw[qX _ g2 wP];exact gP),Fq a3,U]
 have f7:=aE c0
 have eO:dM F F=true:=by
  obtain⟨a,b,e,s1,s2⟩:=gC.ch;cases e;have⟨_,t1,_⟩:=s1;exact t1.dM
 have eR:dM K K=true:=by
  obtain⟨a,b,e,s1,s2⟩:=gC.ch;cases e;have⟨_,t2,_⟩:=s2;exact t2.dM
 have g8:GC W u (.agg [aC n,F,K]) n O R G:=(gC.mono F2).go F3 (λ_ _ h=>h);have d9:PV W u vx x:=(px.mono F2).fx F3;have fb:Fr u (H.mk u.tr (u.next+9)):=(Fr.refl u).bU om;rw[b3];have d5:(i:Int)+1=((i+1:Nat):Int):=om
 simp(disch:=omega)only[go_sem,d2,cP,f7,aE (h:=H.mk u.tr (u.next+9)) c0,H.cell_of d6,H.cell_of c9,d5];refine (aaU (.agg [aC n,F,K]) vx n i q O R G x (H.mk u.tr (u.next+9)) (g8.mono fb) a8 (d9.mono fb).si X b0).mono ?_;rintro b5 h4 d3;have f4:=fb.trans d3.fr;have n4:=f4.next;have f3:h4.get bi=bG [aC i]:=by rw[f4.get _ om];exact c9
 have f8:h4.get bc=bG [aC n,F,K]:=by rw[f4.get _ om];exact c0
 have b8:PV s h4 b5 (gO O R x i q):=d3.pv λid h=>by have:=w2 id h;simp;omega
 simp(disch:=omega)only[go_sem,H.cell_of f3,aE f8,eO,eR];refine (NF (n:Int) F K b5 ((i+1:Nat):Int) c4 d4 b8.eZ.1 b8.eZ.2 h4).mono ?_;rintro _ h5 ⟨rfl,g3,d8,e7,n5,f5⟩;refine aM ?_;refine⟨rfl,tG λr hr=>?_⟩;obtain⟨o,b9⟩:=exI h5.next;rw[b9];have jE:r.st= .ready:=by rw[hr]
 have c6:r.pend=none:=by rw[hr]
 obtain⟨h6,a6⟩: ∃h6,h6=h5.new (.loop r):=⟨_,rfl⟩
 have g6:h6.get o=some (.loop r):=by rw[a6,<-b9,H.aQ]
 have n6:h6.next=o+1:=by rw[a6,H.aZ,b9]
 have f6:Fr h5 h6:=by rw[a6];exact (Fr.refl h5).new _
 rw[<-a6];have b6:=(f4.trans f5).trans f6;obtain⟨Q,N⟩:=exI (((w.take m).flatMap λq=>bZ O R d (i+1) (gO O R x i q)).length);rw[N] at a7;have h8:=f5.next;have f0: ¬s o:=λh=>by have:=w2 o h;omega
 have g5: ¬s B:=λh=>wB (w1 B om h)
 have d7: ∀k,k<(bZ O R d (i+1) (gO O R x i q)).length->(bZ O R (d+1) i x).getD (Q+k) []=(bZ O R d (i+1) (gO O R x i q)).getD k []/\Q+k<(bZ O R (d+1) i x).length:=λk hk=>by
  rw[hL,<-N];have:=EJ (f:=λq=>bZ O R d (i+1) (gO O R x i q)) (e:=([]:List Nat)) 0 (l:=w) (m:=m) (k:=k) a3 (by rw[U];exact hk);rw[U] at this;exact this
 have c7:Fx W h h6:=((Fx.of F2).trans F3 (λ_ _ h=>h)).trans (Fx.of b6) (λ_ _ h=>h)
 have g7:Rdr o h6.next (bZ O R d (i+1) (gO O R x i q)) (λk=>s k\/k=o) (InJ Q o B id r J s) (InD o B r D s):=by
  refine⟨λk W2 hh h' j L=>?_,λW2 hh h' j L=>?_,λk W2 hh v hk j pv h0 i3 i2=>?_⟩
  .obtain⟨W3,t,Z,q3,q4,q5,q6⟩:=j.ex
   have nx:=j.nx;exact⟨⟨W3,t,Z,q3,rd.kJ _ _ _ _ q4 ⟨L.1,λid p c=>L.2 id p (by rcases c with c|c;exact .inl om;exact .inr ((t id).2 (.inl c)))⟩,λid h=>kQ (q5 id h) L.1,q6⟩,by rw[L.2 _ nx (.inl om)];exact j.gr,by rw[L.2 _ om (.inl om)];exact j.g4,kQ nx L.1⟩
  .obtain⟨W3,t,Z,q4,q5,q6⟩:=j.ex
   have nx:=j.nx;exact⟨⟨W3,t,Z,rd.kD _ _ _ q4 ⟨L.1,λid p c=>L.2 id p (by rcases c with c|c;exact .inl om;exact .inr ((t id).2 (.inl c)))⟩,λid h=>kQ (q5 id h) L.1,q6⟩,by rw[L.2 _ nx (.inl om)];exact j.gr,kQ nx L.1⟩
  .obtain⟨W3,t,Z,q3,q4,q5,q6⟩:=j.ex
   have nx:=j.nx;obtain⟨g0,e3⟩:=d7 k hk;refine sW j.gr (by rw[hr];rfl) jE λh9 g9 n9 o9=>?_
   rw[congrArg fR.assign hr,congrArg fR.vars hr,congrArg fR.pars hr];simp(disch:=omega)only[go_sem,List.zip_cons_cons,List.zip_nil_left];rw[congrArg fR.body hr];have d0:h9.get B=bG [.yl id]:=by rw[o9 _ om];exact j.g4
   have f9:Fx W2 hh h9:=⟨om,λk _ c=>o9 k λe=>c ((t k).2 (.inr e))⟩
   have k9:Kept h.next W3 hh h9:=⟨om,λk p c=>o9 k λe=>by
    subst e;rcases c with c|c
    .omega
    .exact Z c⟩
   simp(disch:=omega)only[go_sem,H.cell_of d0];refine (rd.y (Q+k) W3 h9 v e3 (rd.kJ _ _ _ _ q4 k9) (by rw[g0];exact PV.go pv f9 λid _ h=>(t id).2 (.inl h)) (λid h=>by rw[n9];exact q5 id h) om (λid p c=>w1 id om (q6 id om c))).mono ?_;rintro v' z ⟨W4,u1,u2,a5,hv⟩;have i0:=a5.next;have c1: ¬W4 o:=λh=>Z (u1 o om h)
   have e5: ¬W4 B:=λh=>q3 (u1 B om h)
   have b1:z.get o=some (.loop (pL r)):=by rw[a5.get o om Z];exact g9
   have c8:z.get B=bG [.yl id]:=by rw[a5.get B om q3];exact d0
   have b2:Fx W2 hh z:=f9.trans a5 λid _ h=>(t id).2 (.inl h)
   have low: ∀k,k<o->W4 k->s k:=λk p c=>q6 k p (u1 k om c)
   have kk: ∀r2:fR,Kept h.next W4 z (z.set o (some (.loop r2))):=λr2=>⟨eU _,λk p c=>H.aF _ (λe=>by
    subst e;rcases c with c|c
    .omega
    .exact c1 c) _⟩
   rcases hv with ⟨rfl,hv⟩|⟨rfl,hv⟩
   .refine aM ?_
    refine pD jE c6 b1 ⟨λk=>W4 k\/k=o,λk p c=>?_,λk c=>?_,b2.trans (Fx.set z ((t o).2 (.inr rfl)) _) (λ_ _ h=>h),.inl ⟨rfl,⟨W4,λk=>Iff.rfl,c1,e5,?_,u2,low⟩,by rw[H.aW],by rw[H.aF _ om];exact c8,by simp only[H.dE];omega⟩⟩
    .rcases c with c|c
     .exact (t k).2 (.inl (u1 k om c))
     .exact (t k).2 (.inr c)
    .rcases c with c|c
     .exact u2 k c
     .simp only[H.dE];omega
    .exact rd.kJ _ _ _ _ hv (kk r)
   .refine aM ?_
    refine Mk b1 ⟨λk=>W4 k\/k=o,λk p c=>?_,λk c=>?_,b2.trans (Fx.set z ((t o).2 (.inr rfl)) _) (λ_ _ h=>h),.inr ⟨rfl,⟨W4,λk=>Iff.rfl,c1,?_,u2,low⟩,by rw[H.aW],by simp only[H.dE];omega⟩⟩
    .rcases c with c|c
     .exact (t k).2 (.inl (u1 k om c))
     .exact (t k).2 (.inr c)
    .rcases c with c|c
     .exact u2 k c
     .simp only[H.dE];omega
    .exact rd.kD _ _ _ hv (kk _)
 have A: ∀k,k<h5.next->h6.get k=h5.get k:=λk hk=>f6.get k hk
 have e2:GC (λk=>s k\/k=o) h6 (.agg [aC n,F,K]) n O R G:=gC.go c7 λk p c=>by
  rcases c with c|c
  .exact w1 k om c
  .omega
 refine (ih (i+1) (gO O R x i q) b5 o (h4.next+1+1) h4.next (h4.next+1) h6 (λk=>s k\/k=o) (InJ Q o B id r J s) (InD o B r D s) om Y (by rw[A _ om];exact e7) (by rw[A _ om];exact g3) (by rw[A _ om];exact d8)
  (((b8.mono f5).jK λk p c=>(by rcases c with c|c;exact c;omega)).mono f6) om om om (λh=>by rcases h with h|h;have:=w2 _ h;omega;omega) (λh=>by rcases h with h|h;have:=w2 _ h;omega;omega) (λh=>by rcases h with h|h;have:=w2 _ h;omega;omega) e2 (λk h=>by rcases h with h|h;have:=w2 _ h;omega;omega)
  ⟨⟨s,λk=>Iff.rfl,f0,g5,rd.kJ _ _ _ _ a7 (Kept.fr b6),λk h=>by have:=w2 _ h;omega,λ_ _ h=>h⟩,g6,by rw[A _ om,f5.get _ om,f4.get _ om];exact e6,om⟩ g7).mono ?_
 rintro _ h7 ⟨W7,a1,a2,F7,j|j⟩
 .obtain⟨W3,t,Z,q3,q4,q5,q6⟩:=j.ex
  have nx:=j.nx;refine⟨r,j.gr,by rw[jE];simp,?_⟩;have en:r.pend.getD .norm= .norm:=by rw[c6];rfl
  rw[en];refine aM ?_;rw[eJ m]
  have a0:Fx W c h7:=F3.trans ((Fx.of (W:=λk=>s k\/k=o) b6).trans F7 (λ_ _ h=>h)) λk p c=>by
   rcases c with c|c
   .exact w1 k p c
   .omega
  refine⟨w.length-(m+1),om,m+1,W3,aB rfl,om,?_,⟨a0.next,λk p c=>by rw[H.aF _ om];exact a0.get k p c⟩,λk p c=>w1 k p (q6 k om c),q5,rfl⟩;rw[Lw a3 0,U,N]
  refine rd.kJ _ _ _ _ q4 ⟨eU _,λk p c=>H.aF _ (λe=>by
   subst e;rcases c with c|c
   .omega
   .exact Z c) _⟩
 .obtain⟨W3,t,Z,q4,q5,q6⟩:=j.ex
  have nx:=j.nx;refine⟨_,j.gr,by simp [sH],?_⟩;have en:(sH r .ret).pend.getD .norm= .ret:=rfl;rw[en];refine aM ?_
  have a0:Fx W h h7:=c7.trans F7 λk p c=>by
   rcases c with c|c
   .exact w1 k om c
   .omega
  refine⟨W3,λk p c=>w1 k om (q6 k om c),q5,⟨a0.next,λk p c=>by rw[H.aF _ om];exact a0.get k p c⟩,.inr ?_⟩
  refine rd.kD _ _ _ q4 ⟨eU _,λk p c=>H.aF _ (λe=>by
   subst e;rcases c with c|c
   .omega
   .exact Z c) _⟩
theorem MZ (n:Nat)(a b:V)(O:LN)(R:iA)(G:List Nat->Prop): ∀d,ElC n a b O R G d
 |0=>XM n a b O R G
 |d+1=>UQ n a b O R G d (MZ n a b O R G d)
def agG (W M:Nat->Prop)(b:Nat)(hh:H)(w:V)(x:List Nat):Prop:= ∃id cap,w= .sl id 0 x.length cap/\W id/\ ¬M id/\b<=id/\id<hh.next/\hh.get id=bG (ints (zi x))
structure LsJ (h:H)(b0 A B id2:Nat)(r:fR)(l:LN)(W:Nat->Prop)(hh:H):Prop where
 ex: ∃va ws M,hh.get A=bG [va]/\cW hh va 1 ws (id2+1)/\aJ (agG W M (id2+1) hh) ws l/\Dp M va/\(∀id,M id->W id)/\(∀id,M id->id<hh.next)/\M A/\ ∀id off n c,va= .sl id off n c->id≠id2/\id≠A
 gr:hh.get id2=some (.loop r)
 wA:W A
 w2:W id2
 g1:hh.get (B+1)=bG [.aD]
 g2:hh.get (B+1+1)=bG [aC 0]
 nx:id2<hh.next
 nA:A<hh.next
 fr:Fr h hh
theorem LsJ.kept {h:H}{i b A B d:Nat}{r:fR}{l:LN}{W:Nat->Prop}{hh h':H}(j:LsJ h i A B d r l W hh)(k:Kept b W hh h')(F:B+1+1<b)(G:h.next<=b)(v:b<=hh.next):LsJ h i A B d r l W h':=by
 obtain⟨p,z,M,q,s,el,f,m,t,u,ne⟩:=j.ex
 refine⟨⟨p,z,M,by rw[k.2 A j.nA (.inr j.wA)];exact q,s.mono k.1 λid o n c e _ y=>k.2 id y (.inr (m _ (f _ _ _ _ e))),el.mono λw x ⟨id,cap,e,e1,e2,e3,e4,e5⟩=>⟨id,cap,e,e1,e2,e3,kQ e4 k.1,by rw[k.2 id e4 (.inr e1)];exact e5⟩,f,m,λid h=>kQ (t id h) k.1,u,ne⟩,
  by rw[k.2 _ j.nx (.inr j.w2)];exact j.gr,j.wA,j.w2,by rw[k.2 _ om (.inl om)];exact j.g1,by rw[k.2 _ om (.inl om)];exact j.g2,kQ j.nx k.1,kQ j.nA k.1,⟨kP j.fr.next k.1,λid a=>by rw[k.2 id (kQ a j.fr.next) (.inl om)];exact j.fr.get id a⟩⟩
theorem dX {W:Nat->Prop}{h:H}{c:V}{n:Nat}{O:LN}{R:iA}{G:List Nat->Prop}(g:GC W h c n O R G):iC O n 0<=5040:=by
 have f: ∀i,i<n->(O.getD i []).length<=n-i:=λi hi=>kC (λx m=>g.cX.bM m) hi (g.isc.asc i hi) (g.isc.mem i hi)
 have a: ∀d i,i+d=n->iC O d i<= [1,1,2,6,24,120,720,5040].getD d 0:=by
  intro d
  induction d with
  |zero=>intro i _;simp [iC]
  |succ d ih=>
   intro i hi;unfold iC;have k:=ih (i+1) om;have o:=f i om;have l:(O.getD i []).length<=d+1:=om
   have b:=g.n7;have j:=Nat.mul_le_mul l k;refine kP j ?_;have:d<=6:=om
   match d,this with
   |0,_=>decide
   |1,_=>decide
   |2,_=>decide
   |3,_=>decide
   |4,_=>decide
   |5,_=>decide
   |6,_=>decide
 have b:=g.n7;refine kP (a n 0 om) ?_
 match n,b with
 |0,_=>decide
 |1,_=>decide
 |2,_=>decide
 |3,_=>decide
 |4,_=>decide
 |5,_=>decide
 |6,_=>decide
 |7,_=>decide
theorem OI (s:V)(d:Int)(O:List (List Int))(R:List (List (List Int)))(h:H)(A:Hd h s d O R)(F:d<=7\/64<d)(J:mY O)(sr:qB R)(L:lE d O R≠0):
  Ev T 98 [s] h (λv h'=>v= .tup [.aD,aC (lE d O R)]/\Fr h h'):=by
 have k:=A
 have⟨c,f,e,K,W⟩:=A
 subst e
 refine kV ?_
 have a:c.one=true:=EB K
 have b:f.one=true:=Yb W
 obtain⟨B,y⟩:=exI h.next
 obtain⟨h1,e1,t,g1,o1,Q⟩:=dF y [aC d,c,f]
 obtain⟨h2,Y,z,P,Z,f2⟩:=dF t [.aD]
 obtain⟨r,e3,n3,g3,q,f3⟩:=dF z [aC 0]
 have x:=(Q.trans f2).trans f3
 have G:=aU h (v:= aC d) (u:=c) (w:=f) rfl a b
 have m:r.get B=bG [aC d,c,f]:=by rw[q _ om,Z _ om];exact g1
 have l:=aE m
 refine uG @aI G y e1 t Y z e3 l ?_
 refine (Sy _ d O R r (k.mono x) F J sr).mono ?_
 rintro _ p ⟨rfl,j⟩
 have o:p.get (B+1)=bG [.aD]:=by rw[j.get _ om,q _ om];exact P
 have n:p.get (B+1+1)=bG [aC 0]:=by rw[j.get _ om];exact g3
 have U:=cJ L
 have N:(i:H)->(id:Nat)->(u w:V)->eH (bG [u]) i id 0 [w]=some (i.set id (bG [w])):=λi id u w=>cF siM i _ _
 have n4:=j.next
 refine gX U o n N ?_
 exact ((x.trans j).set om _).set om _
theorem Pa {W0:Nat->Prop}(vc:V)(n:Nat)(O:LN)(R:iA)(G:List Nat->Prop)(h:H)(gc:GC W0 h vc n O R G):
  Ev T 98 [vc] h (λv h'=> ∃vl,v= .tup [vl,aC 0]/\JS h h' vl (bZ O R n 0 (bC n))):=by
 obtain⟨vO,vR,e,sO,sR⟩:=gc.ch
 subst e
 refine kV ?_
 have i7:=gc.isc
 have n0:=gc.n0
 have n7:=gc.n7
 have b3:vO.one=true:=EB sO
 have b5:vR.one=true:=Yb sR
 have eO:dM vO vO=true:=by have⟨_,t,_⟩:=sO;exact t.dM
 have eR:dM vR vR=true:=by have⟨_,t,_⟩:=sR;exact t.dM
 obtain⟨L,hL⟩:=exI (bZ O R n 0 (bC n))
 obtain⟨c7,ll⟩:=dA gc.cX i7
 have j5:=dX gc
 rw[hL] at c7 ll
 have LP: ∀k,k<L.length->aY n (L.getD k []):=λk hk=>gc.cX.bM ((c7.mem _).1 (aV hk))
 obtain⟨B,hB⟩:=exI h.next
 obtain⟨h1,e1,n1,g1,o1,f1⟩:=dF hB [aC n,vO,vR]
 obtain⟨p,e2,n2,g2,o2,f2⟩:=dF n1 [.aD]
 obtain⟨h3,e3,n3,g3,o3,f3⟩:=dF n2 [aC 0]
 have F3:=(f1.trans f2).trans f3
 have bx:=aU h (v:= aC n) (u:=vO) (w:=vR) rfl b3 b5
 have d4:h3.get B=bG [aC n,vO,vR]:=by rw[o3 _ om,o2 _ om];exact g1
 have i9:=aE d4
 refine uG @aI bx hB e1 n1 e2 n2 e3 i9 ?_
 refine ((gc.mono F3).check).mono ?_
 rintro _ h4 ⟨rfl,f4⟩
 have n4:=f4.next
 obtain⟨A,hA⟩:=exI h4.next
 obtain⟨Z,e5,n5,g5,o5,f5⟩:=dF hA [.aD]
 have b0:Z.get B=bG [aC n,vO,vR]:=by rw[f5.get _ om,f4.get _ om];exact d4
 have e8:Z.get (B+1)=bG [.aD]:=by rw[f5.get _ om,f4.get _ om,o3 _ om];exact g2
 have f9:Z.get (B+1+1)=bG [aC 0]:=by rw[f5.get _ om,f4.get _ om];exact g3
 have F5:=(F3.trans f4).trans f5
 have g6:=aE b0
 have c4:=aE (h:=H.mk Z.tr (Z.next+5)) b0
 refine aM ?_
 refine bI (λhc=>(hc (by first|rfl|trivial)).elim) (λ_=>?_)
 simp(disch:=omega)only[go_sem,hA,e5,g6,c4,H.cell_of b0]
 refine (Qa BO.ok n (H.mk Z.tr (Z.next+5)) om).mono ?_
 rintro v6 h6 nw
 have fb:Fr Z (H.mk Z.tr (Z.next+5)):=(Fr.refl Z).bU om
 have f6:=fb.trans nw.fr
 have n6:=f6.next
 have i8:h6.get B=bG [aC n,vO,vR]:=by rw[f6.get _ om];exact b0
 have c6:=uS nw
 have c2:=c6.own
 simp(disch:=omega)only[go_sem,aE i8,eO,eR]
 refine (NF (n:Int) vO vR v6 0 b3 b5 c2.sv.cM.1 c2.sv.cM.2.1 h6).mono ?_
 rintro _ h7 ⟨rfl,i4,g8,e6,j4,f7⟩
 refine aM ?_
 refine⟨rfl,tG λr hr=>?_⟩
 obtain⟨a,b9⟩:=exI h7.next
 rw[b9]
 have jE:r.st= .ready:=by rw[hr]
 have c9:r.pend=none:=by rw[hr]
 obtain⟨h8,b2⟩: ∃h8,h8=h7.new (.loop r):=⟨_,rfl⟩
 have g0:h8.get a=some (.loop r):=by rw[b2,<-b9,H.aQ]
 have n8:h8.next=a+1:=by rw[b2,H.aZ,b9]
 have f8:Fr h7 h8:=by rw[b2];exact (Fr.refl h7).new _
 have Q: ∀k,k<h7.next->h8.get k=h7.get k:=λk hk=>f8.get k hk
 rw[<-b2]
 have d1:=(f6.trans f7).trans f8
 have F8:=F5.trans d1
 have c0: ∀k,k<Z.next->h8.get k=Z.get k:=λk hk=>d1.get k hk
 have J0:LsJ h B A B a r (L.take 0) (λk=>k=A\/k=a) h8:=
  ⟨⟨.aD, [],λk=>k=A,by rw[c0 _ om];exact g5,cW.aD _ _ _,trivial,λ_ _ _ _ e=>(by cases e),λk h=> .inl h,λk h=>by have:k=A:=h;omega,rfl,λ_ _ _ _ e=>(by cases e)⟩,g0,.inl rfl,.inr rfl,by rw[c0 _ om];exact e8,by rw[c0 _ om];exact f9,om,om,F8⟩
 have j0: ∀k,(k=A\/k=a)->k<h8.next:=λk h=>by rcases h with h|h<;>omega
 have j1:GC (λk=>k=A\/k=a) h8 (.agg [aC n,vO,vR]) n O R G:=gc.go (Fx.of F8) λk h1 p=>by rcases p with p|p<;>omega
 have p6:PV (λk=>k=A\/k=a) h8 v6 (bC n):=by
  obtain⟨i5,c5,ev,a1,a2,a3,a4⟩:=c6.ex;simp only at a1;rw[ev];exact⟨SV.all (by rw[aN,qZ]) (by have:=(f7.trans f8).next;omega) (by rw[Q _ (by have:=f7.next;omega),f7.get _ a2];exact a3) _,λh=>by have:i5=A\/i5=a:=h;have:=f7.next;omega⟩
 refine (MZ n vO vR O R G n 0 (bC n) v6 a (h6.next+1+1) h6.next (h6.next+1) h8 (λk=>k=A\/k=a) (λk W J=>LsJ h B A B a r (L.take k) W J) (λ_ _=>False) om (aY.one n)
  (by rw[Q _ om];exact e6) (by rw[Q _ om];exact i4) (by rw[Q _ om];exact g8) p6 om om om (λh=>by rcases h with h|h<;>omega) (λh=>by rcases h with h|h<;>omega) (λh=>by rcases h with h|h<;>omega) j1 j0 J0 ?_).mono ?_
 .rw[hL]
  refine⟨λk W J h' j kp=>j.kept kp om (by have:=F8.next;omega) (by have:=j.nx;omega),λ_ _ _ h=>h.elim,λk W J v hk j pv i2 j7 j3=>?_⟩
  obtain⟨va,ws,M,gA,ow,el,bl,mw,mn,mA,ne⟩:=j.ex
  have nx:=j.nx
  have nA:=j.nA
  have d0:=aJ.length el
  rw[wH,Nat.min_eq_left om] at d0
  refine sW j.gr (by rw[hr];rfl) jE λF g9 n9 o9=>?_
  rw[congrArg fR.assign hr,congrArg fR.vars hr,congrArg fR.pars hr]
  simp(disch:=omega)only[go_sem,List.zip_cons_cons,List.zip_nil_left]
  rw[congrArg fR.body hr]
  have c1:F.get A=bG [va]:=by rw[o9 _ om];exact gA
  have i3:Fx W J F:=⟨om,λk _ p=>o9 k λe=>p (e▸j.w2)⟩
  have d7:=pv.fx i3
  obtain⟨x,hx⟩:=exI (L.getD k [])
  rw[hx] at d7
  have X:aY n x:=by rw[<-hx];exact LP k hk
  have b6:cW F va 1 ws (a+1):=ow.mono om λid i m c e _ _=>o9 id (ne _ _ _ _ e).1
  have f0:=cW.lens b6 d0
  have i0:=b6.sv.dM
  have d5:decide ((k:Int)=5040)=false:=bT om
  have c8:Fr F (H.mk F.tr (F.next+6)):=(Fr.refl F).bU om
  simp(disch:=omega)only[go_sem,H.cell_of c1,f0,d5]
  refine (Ky v (zi x) (H.mk F.tr (F.next+6)) (by rw[aL,X.len];omega) (by rw[aL,X.len];omega) (d7.mono c8).si).mono ?_
  rintro b7 d U
  have a8:=c8.trans U.fr
  obtain⟨i5,c5,ev,a1,a2,a3,a4⟩:=U.ex
  simp only at a1
  have a7:d.get A=bG [va]:=by rw[a8.get _ om];exact c1
  have b4:=U.own
  simp(disch:=omega)only[go_sem,H.cell_of a7,i0,cQ _ (z:= .aD) b4.sv.cM.1 b4.sv.cM.2.1]
  obtain⟨f,l⟩: ∃f:H,f=H.mk ((H.mk d.tr (F.next+3)).new (Ob.cells false [b7])).tr d.next:=⟨_,rfl⟩
  rw[<-l]
  have e7:f.get (F.next+3)=bG [b7]:=by rw[l];exact H.aQ (H.mk d.tr (F.next+3)) _
  have g4:f.next=d.next:=by rw[l]
  have a5: ∀k,k≠F.next+3->f.get k=d.get k:=λk hk=>by rw[l];exact H.bN (H.mk d.tr (F.next+3)) (by simpa using hk) _
  have N:Fr F f:=⟨by have:=a8.next;omega,λk hk=>by rw[a5 k om];exact a8.get k hk⟩
  obtain⟨a6,g7,s⟩:=(b6.fr N).push (bytes:=24) (SV.one (by have:=a8.next;have:=U.fr.next;simp only at this;omega) e7 (.kn 1)) (n:=k) (m:=1) om rfl om om om
  have j2:=s.next
  have i1:dS va A:=λid i m c e e2=>(ne _ _ _ _ e).2 e2.symm
  have e9:dS va a:=λid i m c e e2=>(ne _ _ _ _ e).1 e2.symm
  have i6:=a8.next
  have d9:a6.get A=bG [va]:=by rw[s.old A om i1,N.get A om];exact c1
  have c3:a6.get a=some (.loop (pL r)):=by rw[s.old a om e9,N.get a om];exact g9
  have h0:(J:H)->(y:V)->eH (bG [va]) J A 0 [y]=some (J.set A (bG [y])):=λJ y=>cF siM J _ _
  refine dQ g7 d9 h0 ?_
  obtain⟨Y,K⟩: ∃Y,Y=(a6.set A (bG [.sl f.next 0 (k+1) (.un 1)])).set a (some (.loop r)):=⟨_,rfl⟩
  have d3:A≠a:=om
  have P: ∀q,q≠A->q≠a->Y.get q=a6.get q:=λq h1 p=>by rw[K,H.aF _ p,H.aF _ h1]
  have j6:Y.next=a6.next:=by rw[K];rfl
  refine pD jE c9 (by rw[H.aF _ (Ne.symm d3)];exact c3) ?_
  rw[<-K]
  have d2: ∀q,q<J.next-> ¬W q->Y.get q=J.get q:=λq h1 p=>by
   rw[P q (λe=>p (e▸j.wA)) (λe=>p (e▸j.w2)),s.old q om (λid i m c e e2=>p (e2▸mw _ (bl _ _ _ _ e))),N.get q om,o9 q (λe=>p (e▸j.w2))]
  refine⟨λq=>W q\/q=f.next\/q=i5,λq h1 p=>by rcases p with p|p|p;exact p;omega;omega,λq h=>by rcases h with h|h|h;have:=i2 q h;omega;omega;omega,⟨om,d2⟩,.inl ⟨rfl,?_⟩⟩
  refine⟨⟨.sl f.next 0 (k+1) (.un 1),ws++ [b7],λq=>M q\/q=f.next,by rw[K,H.aF _ d3,H.aW],?_,?_,λid i m c e=>by cases e;exact .inr rfl,λq h=>by rcases h with h|h;exact .inl (mw q h);exact .inr (.inl h),λq h=>by rcases h with h|h;have:=mn q h;omega;omega,.inl mA,λid i m c e=>by cases e;exact⟨om,om⟩⟩,
   by rw[K,H.aW],.inl j.wA,.inl j.w2,?_,?_,om,om,?_⟩
  .exact (s.own (b:=a+1) om rfl om).mono om λid i m c e h1 p=>by cases e;exact P _ om om
  .rw[dJ [] hk,hx]
   have b8:(q:Nat)->(o:Option Ob)->q<J.next-> ¬M q->q≠a->Y.get q=J.get q:=λq _ h1 p h3=>by
    rw[P q (λe=>p (e▸mA)) h3,s.old q om (λb1 i m c e e2=>p (e2▸bl _ _ _ _ e)),N.get q om,o9 q h3]
   have e4: ∀q z,J.get q=bG z->q≠a:=λq z h e=>by rw[e,j.gr] at h;cases h
   refine (el.mono λw z ⟨id,e0,e,q1,q2,q3,q4,q5⟩=>⟨id,e0,e,.inl q1,(λh=>by rcases h with h|h;exact q2 h;omega),q3,om,(by rw[b8 id none q4 q2 (e4 _ _ q5)];exact q5)⟩).append ⟨⟨i5,c5,by rw[ev,aL],.inr (.inr rfl),λh=>by rcases h with h|h;have:=mn i5 h;omega;omega,om,om,?_⟩,trivial⟩
   rw[P i5 om om,s.old i5 om (λb1 i m c e e2=>by have:=mn _ (bl _ _ _ _ e);omega),a5 i5 om]
   exact a3
  .rw[P _ om om,s.old _ om (λb1 i m c e e2=>by have:=(ow.in _ _ _ _ e).2.1;omega),N.get _ om,o9 _ om];exact j.g1
  .rw[P _ om om,s.old _ om (λb1 i m c e e2=>by have:=(ow.in _ _ _ _ e).2.1;omega),N.get _ om,o9 _ om];exact j.g2
  .refine⟨by have:=j.fr.next;omega,λq hq=>?_⟩
   have:=j.fr.next
   rw[P q om om,s.old q om (λb1 i m c e e2=>by have:=(ow.in _ _ _ _ e).2.1;omega),N.get q om,o9 q om]
   exact j.fr.get q hq
 .rintro _ F ⟨W2,a1,a2,F9,j|hf⟩
  case inr=>exact hf.elim
  rw[hL,List.take_length] at j
  obtain⟨va,ws,M,gA,ow,el,bl,mw,mn,mA,ne⟩:=j.ex
  have nx:=j.nx
  have nA:=j.nA
  have pt:(J:H)->(id:Nat)->(u w:V)->eH (bG [u]) J id 0 [w]=some (J.set id (bG [w])):=λJ id u w=>cF siM J _ _
  refine⟨r,j.gr,by rw[jE];simp,?_⟩
  have en:r.pend.getD .norm= .norm:=by rw[c9];rfl
  rw[en]
  obtain⟨d,a9⟩: ∃d,d=F.set a (some (.loop {r with st:= .out})):=⟨_,rfl⟩
  have a0: ∀q,q≠a->d.get q=F.get q:=λq hq=>by rw[a9,H.aF _ hq]
  have i6:d.next=F.next:=by rw[a9];rfl
  have a7:d.get A=bG [va]:=by rw[a0 _ om];exact gA
  have d8:d.get (B+1)=bG [.aD]:=by rw[a0 _ om];exact j.g1
  have d6:d.get (B+1+1)=bG [aC 0]:=by rw[a0 _ om];exact j.g2
  rw[<-a9]
  simp(disch:=omega)only[go_sem,H.cell_of a7,d8,d6,pt,kO ow.sv.cM.1 ow.sv.cM.2.1]
  obtain⟨f,l⟩: ∃f,f=(d.set (B+1) (bG [va])).set (B+1+1) (bG [aC 0]):=⟨_,rfl⟩
  rw[<-l]
  have a5: ∀q,q≠B+1->q≠B+1+1->f.get q=d.get q:=λq h1 p=>by rw[l,H.aF _ p,H.aF _ h1]
  have g4:f.next=d.next:=by rw[l];rfl
  have hn:=j.fr.next
  refine⟨va,rfl,⟨ws,λq=>M q\/q<h.next,?_,?_,λid i n c e=> .inl (bl _ _ _ _ e),λq h=> .inr h⟩,⟨om,λq hq=>?_⟩⟩
  .refine (ow.mono om λid i m c e h1 _=>?_).le om
   rw[a5 id om om,a0 id om]
  .rw[hL]
   refine aJ.mono (R:=agG W2 M (a+1) F) (λw z hw=>?_) el
   have⟨id,e0,e,q1,q2,q3,q4,q5⟩:=hw
   rw[e]
   exact⟨SV.all (by rw[aN,aL,qZ]) om (by rw[a5 id om om,a0 id om];exact q5) _,λh=>by rcases h with h|h;exact q2 h;omega⟩
  .rw[a5 q om om,a0 q om]
   exact j.fr.get q hq
end Go.Proofs.YtcdbmkidaecdiaaGreat
namespace Go.Pm
section
variable {i:Nat}
def it (a:List Nat):Nat->Nat->Nat
 |0,i=>i
 |t+1,i=>a.getD (it a t i) 0
section
variable {n:Nat} {a:List Nat}
theorem Ab (A:aY n a){i:Nat}(hi:i<n): ∀t,it a t i<n
 |0=>hi
 |t+1=>A.fZ (Ab A hi t)
theorem sV (a:List Nat)(s i:Nat): ∀t,it a (s+t) i=it a t (it a s i)
 |0=>rfl
 |t+1=>by
  show a.getD (it a (s+t) i) 0=a.getD (it a t (it a s i)) 0;rw[sV a s i t]
theorem DK (A:aY n a){i:Nat}(hi:i<n): ∀t,it a t i=(pw n a t).getD i 0
 |0=>(fW hi).symm
 |t+1=>by
  show a.getD (it a t i) 0=(aS (pw n a t) a).getD i 0;rw[dI (by rw[(gY A t).len];exact hi),DK A hi t]
theorem AZ (A:aY n a){i j:Nat}(hi:i<n)(b:j<n): ∀t,it a t i=it a t j->i=j
 |0,h=>h
 |t+1,h=>AZ A hi b t (A.inj (Ab A hi t) (Ab A b t) h)
noncomputable def rS (a:List Nat)(i:Nat):Nat:=by
 classical exact if h: ∃t,0<t/\it a t i=i/\ ∀s,0<s->s<t->it a s i≠i then h.choose else 1
theorem aeP (A:aY n a)(hi:i<n): ∃t,0<t/\it a t i=i:=by
 obtain⟨k,c,_,b⟩:=Kf A;exact⟨k,c,by rw[DK A hi,b,fW hi]⟩
theorem nG (A:aY n a)(hi:i<n):0<rS a i/\it a (rS a i) i=i/\ ∀t,0<t->t<rS a i->it a t i≠i:=by
 classical
 have h: ∃t,0<t/\it a t i=i/\ ∀s,0<s->s<t->it a s i≠i:=by
  obtain⟨t,k,j⟩:=aeP A hi
  induction t using Nat.strongRecOn with
  |_ t ih=>
   by_cases f: ∃s,0<s/\s<t/\it a s i=i
   .have⟨s,b,c,d⟩:=f
    exact ih s c b d
   .exact⟨t,k,j,λs b c d=>f ⟨s,b,c,d⟩⟩
 have e:rS a i=h.choose:=by unfold rS;rw[dif_pos h]
 rw[e];exact h.choose_spec
theorem Ro (A:aY n a){i:Nat}(hi:i<n): ∀k,it a (rS a i*k) i=i
 |0=>rfl
 |k+1=>by rw[Nat.mul_succ,sV,Ro A hi k,(nG A hi).2.1]
theorem Yp (A:aY n a)(hi:i<n)(t:Nat):it a t i=it a (t%rS a i) i:=by
 have:=sV a (rS a i*(t/rS a i)) i (t%rS a i);rw[Nat.div_add_mod,Ro A hi] at this;exact this
theorem Au (A:aY n a)(hi:i<n)(t:Nat):it a t i=i↔rS a i∣t:=by
 obtain⟨b,d,c⟩:=nG A hi;constructor
 .intro h
  rw[Yp A hi] at h;refine Nat.dvd_of_mod_eq_zero (Classical.byContradiction λf=>c _ oq (Nat.mod_lt _ b) h)
 .rintro⟨k,rfl⟩;exact Ro A hi k
theorem abQ (A:aY n a)(hi:i<n){s t:Nat}(j:s<rS a i)(d:t<rS a i)(h:it a s i=it a t i):s=t:=by
 have b: ∀s t,s<=t->t<rS a i->it a s i=it a t i->s=t:=λs t jE d h=>by
  have e:it a t i=it a s (it a (t-s) i):=by rw[<-sV];congr 1;omega
  rw[e] at h;have:=AZ A hi (Ab A hi (t-s)) s h;have f:=(Au A hi (t-s)).1 this.symm;have:=Nat.eq_zero_of_dvd_of_lt f oq;omega
 rcases Nat.le_total s t with c|c
 .exact b s t c d h
 .exact (b t s c j h.symm).symm
noncomputable def Tl (a:List Nat)(i:Nat):List Nat:=(List.range (rS a i)).map λt=>it a t i
theorem vI (a:List Nat)(i:Nat):(Tl a i).length=rS a i:=by simp [Tl]
theorem abN (A:aY n a)(hi:i<n){j:Nat}:j∈Tl a i↔ ∃t,it a t i=j:=by
 unfold Tl;rw[List.mem_map];constructor
 .rintro⟨t,_,h⟩;exact⟨t,h⟩
 .rintro⟨t,h⟩;exact⟨t%rS a i,List.mem_range.2 (Nat.mod_lt _ (nG A hi).1),by rw[<-Yp A hi];exact h⟩
theorem GI (A:aY n a)(hi:i<n):(Tl a i).Nodup:=by
 unfold Tl;rw[List.nodup_iff_pairwise_ne,List.pairwise_map,List.pairwise_iff_getElem];intro s t c b jE h;simp only[List.length_range] at c b;simp only[List.getElem_range] at h;have:=abQ A hi c b h;omega
theorem Qv (A:aY n a)(hi:i<n):rS a i<=n:=by
 rw[<-vI a i]
 have:=List.Nodup.length_le_of_subset (GI A hi) (l₂:=List.range n) λj b=>by
  obtain⟨t,rfl⟩:=(abN A hi).1 b;exact List.mem_range.2 (Ab A hi t)
 simpa using this
theorem Ic (A:aY n a)(hi:i<n)(t:Nat): ∃s,it a s (it a t i)=i:=by
 obtain⟨b,_,_⟩:=nG A hi;refine⟨rS a i*(t/rS a i+1)-t,?_⟩;rw[<-sV,show t+(rS a i*(t/rS a i+1)-t)=rS a i*(t/rS a i+1) from ?_,Ro A hi];have:=Nat.div_add_mod t (rS a i);have:=Nat.mod_lt t b;rw[Nat.mul_succ];omega
theorem SL (A:aY n a)(hi:i<n)(t:Nat):rS a (it a t i)=rS a i:=by
 have c:=Ab A hi t
 have b: ∀k,it a k (it a t i)=it a t i↔it a k i=i:=λk=>by
  rw[<-sV,Nat.add_comm,sV];exact⟨λh=>AZ A (Ab A hi k) hi t h,λh=>by rw[h]⟩
 refine Nat.dvd_antisymm ?_ ?_
 .rw[<-Au A c,b,Au A hi];exact Nat.dvd_refl _
 .rw[<-Au A hi,<-b,Au A c];exact Nat.dvd_refl _
def jH (a:List Nat)(n i:Nat):Prop:= ∀t,i<=it a t i
open Classical in
noncomputable def Lc (a:List Nat)(n:Nat):List Nat:=(List.range n).filter λi=>decide (jH a n i)
noncomputable def rQ (a:List Nat)(n:Nat):wW:=(Lc a n).map (Tl a)
theorem aeS (A:aY n a)(hi:i<n): ∃j,j<n/\jH a n j/\ ∃t,it a t j=i:=by
 induction i using Nat.strongRecOn with
 |_ i ih=>
  by_cases h:jH a n i
  .exact⟨i,hi,h,0,rfl⟩
  .have: ∃t,it a t i<i:=Classical.byContradiction λl=>h λt=>Nat.le_of_not_lt λb=>l ⟨t,b⟩
   have⟨t,f⟩:=this;obtain⟨j,c,b,s,k⟩:=ih _ f (Ab A hi t);obtain⟨u,d⟩:=Ic A hi t;exact⟨j,c,b,s+u,by rw[sV,k,d]⟩
theorem yV (A:aY n a)(hi:i<n):jH a n i↔ ∀j,j<i-> ∀t,it a t j≠i:=by
 constructor
 .intro h j d t e
  obtain⟨s,b⟩:=Ic A (show j<n by omega) t;rw[e] at b;have:=h s;omega
 .intro h t
  refine Nat.le_of_not_lt λc=>?_
  obtain⟨s,b⟩:=Ic A hi t;exact h _ c s b
def pZ (l:List Nat):Nat:=l.foldl (λm c=>m/Nat.gcd m c*c) 1
theorem LW (m c:Nat):m/Nat.gcd m c*c=Nat.lcm m c:=by
 unfold Nat.lcm;rw[Nat.mul_comm,<-Nat.mul_div_assoc _ (Nat.gcd_dvd_left m c),Nat.mul_comm]
theorem Vx:(l:List Nat)->(m k:Nat)->l.foldl (λm c=>m/Nat.gcd m c*c) m∣k↔m∣k/\ ∀c∈l,c∣k
 | [],m,k=>by simp
 |c::l,m,k=>by
  rw[List.foldl_cons,Vx l,LW,Nat.lcm_dvd_iff];simp only[List.mem_cons,forall_eq_or_imp,and_assoc]
theorem uN (l:List Nat)(k:Nat):pZ l∣k↔ ∀c∈l,c∣k:=by
 unfold pZ;rw[Vx];simp
noncomputable def oD (a:List Nat)(n:Nat):Nat:=pZ ((rQ a n).map List.length)
theorem xY (A:aY n a)(k:Nat):oD a n∣k↔pw n a k=bC n:=by
 unfold oD;rw[uN];constructor
 .intro h
  refine uD (by rw[(gY A k).len,jB]) λi hi=>?_
  rw[(gY A k).len] at hi;rw[<-DK A hi,fW hi,Au A hi];obtain⟨j,d,m,t,o⟩:=aeS A hi;have:=h (rS a j) (List.mem_map.2 ⟨Tl a j,List.mem_map.2 ⟨j,by unfold Lc;rw[List.mem_filter];exact⟨List.mem_range.2 d,by simpa using m⟩,rfl⟩,vI a j⟩);rw[<-SL A d t,o] at this;exact this
 .rintro h c p
  obtain⟨l,f,rfl⟩:=List.mem_map.1 p;obtain⟨j,d,rfl⟩:=List.mem_map.1 f
  have b:j<n:=by
   unfold Lc at d;exact List.mem_range.1 (List.mem_filter.1 d).1
  rw[vI,<-Au A b,DK A b,h,fW b]
theorem Wn (A:aY n a):0<oD a n:=by
 obtain⟨k,c,_,b⟩:=Kf A;have:=(xY A k).2 b;refine Nat.pos_of_ne_zero λe=>?_
 rw[e] at this;have:=Nat.eq_zero_of_zero_dvd this;omega
theorem BZ (A:aY n a):oD a n<=n^n:=by
 obtain⟨k,d,b,c⟩:=Kf A;exact Nat.le_trans (Nat.le_of_dvd d ((xY A k).2 c)) b
end
end
end Go.Pm
namespace Go.Proofs.YtcdbmkidaecdiaaGreat
open Go Go.Ay Go.Pm
section
variable {a:List Nat} {i n:Nat}
theorem acV {g:Nat}(k:T g=some Bi.fn)(a b:Nat)(h:H)(t:a<1000000)(q:b<1000000):Ev T g [aC a,aC b] h (λv h'=>v= aC (Nat.gcd a b:Nat)/\Fr h h'):=by
 refine mG k rfl ?_;simp(disch:=omega)only[go_sem,Bi,aI];refine aH (λc d m=> ∃(x y:Nat),(∃g:Nat->V,d= [aC x,aC y,g 2,g 3])/\x<1000000/\y<1000000/\Nat.gcd x y=Nat.gcd a b/\Fr h m/\c=y) b
  ⟨a,b,aB rfl,t,q,rfl,Fr.refl h,rfl⟩ ?_
 rintro c d m ⟨x,y,⟨g,rfl⟩,w,p,o,F,s⟩;subst s
 by_cases f:(0:Int)<(c:Int)
 .have l:=cJ f
  have u:(c:Int)≠0:=om
  have r:(x:Int).tmod (c:Int)=((x%c:Nat):Int):=Th x c;have j:=Nat.mod_lt x (show c>0 by omega);refine dQ l u r ?_;exact⟨x%c,j,c,x%c,aB rfl,p,om,by rw[Nat.gcd_comm,<-Nat.gcd_rec,Nat.gcd_comm];exact o,F.bU om,rfl⟩
 .have l:=bT f
  obtain rfl:c=0:=om
  refine bE l ?_;rw[<-o,Nat.gcd_zero_right];exact⟨rfl,F⟩
open Classical in
noncomputable def zO (a:List Nat)(i s j:Nat):Bool:=decide ((∃i0,i0<i/\ ∃t,it a t i0=j)\/ ∃t,t<s/\it a t i=j)
theorem nX {s j:Nat}:zO a i s j=true↔(∃i0,i0<i/\ ∃t,it a t i0=j)\/ ∃t,t<s/\it a t i=j:=by classical unfold zO;simp only[decide_eq_true_eq]
theorem Uj (a:List Nat)(j:Nat):zO a 0 0 j=false:=by
 rw[<-Bool.not_eq_true,nX];rintro (⟨b,h,_⟩|⟨t,h,_⟩)<;>omega
theorem Wr (a:List Nat)(i s j:Nat):zO a i (s+1) j=if j=it a s i then true else zO a i s j:=by
 by_cases e:j=it a s i
 .rw[bL e,nX];exact .inr ⟨s,om,e.symm⟩
 .rw[bV e,Lf,nX,nX]
  constructor
  .rintro (h|⟨t,c,b⟩)
   .exact .inl h
   .exact .inr ⟨t,by have:t≠s:=λd=>e (by rw[<-d];exact b.symm);omega,b⟩
  .rintro (h|⟨t,c,b⟩)
   .exact .inl h
   .exact .inr ⟨t,om,b⟩
theorem Xr (A:aY n a)(hi:i<n)(j:Nat):zO a i (rS a i) j=zO a (i+1) 0 j:=by
 rw[Lf,nX,nX];constructor
 .rintro (⟨c,d,b⟩|⟨t,d,b⟩)
  .exact .inl ⟨c,om,b⟩
  .exact .inl ⟨i,om,t,b⟩
 .rintro (⟨c,d,t,b⟩|⟨t,d,_⟩)
  .by_cases e:c=i
   .subst e;exact .inr ⟨t%rS a c,Nat.mod_lt _ (nG A hi).1,by rw[<-Yp A hi];exact b⟩
   .exact .inl ⟨c,om,t,b⟩
  .omega
theorem Tc (A:aY n a)(hi:i<n)(h: ¬jH a n i)(j:Nat):zO a i 0 j=zO a (i+1) 0 j:=by
 have b: ∃c,c<i/\ ∃t,it a t c=i:=zQ λo=>h ((yV A hi).2 λc k t e=>o ⟨c,k,t,e⟩)
 obtain⟨c,m,p,l⟩:=b;rw[Lf,nX,nX];constructor
 .rintro (⟨d,f,b⟩|⟨t,f,_⟩)
  .exact .inl ⟨d,om,b⟩
  .omega
 .rintro (⟨d,f,t,b⟩|⟨t,f,_⟩)
  .by_cases e:d=i
   .subst e;exact .inl ⟨c,m,p+t,by rw[sV,l];exact b⟩
   .exact .inl ⟨d,om,t,b⟩
  .omega
theorem Hr (A:aY n a){s:Nat}(hi:i<n)(f:jH a n i)(o:s<=rS a i):(zO a i s (it a s i)=false↔s<rS a i):=by
 obtain⟨l,j,m⟩:=nG A hi;constructor
 .intro h
  refine zQ λp=>?_
  have e:s=rS a i:=om
  subst e;rw[j] at h;have:zO a i (rS a i) i=true:=nX.2 (.inr ⟨0,l,rfl⟩);rw[h] at this;cases this
 .intro h
  rw[<-Bool.not_eq_true,nX];rintro (⟨d,c,t,b⟩|⟨t,c,b⟩)
  .obtain⟨u,k⟩:=Ic A hi s
   have:=(yV A hi).1 f d c (t+u);rw[sV,b,k] at this;exact this rfl
  .have:=abQ A hi (show t<rS a i by omega) h b
   omega
theorem VB (A:aY n a)(hi:i<n)(c: ¬jH a n i):zO a i 0 i=true:=by
 have f: ∃b,b<i/\ ∃t,it a t b=i:=zQ λh=>c ((yV A hi).2 λb d t e=>h ⟨b,d,t,e⟩)
 exact nX.2 (.inl f)
theorem Nw (hi:i<=n):((Lc a n).filter λj=>decide (j<i))=(open Classical in (List.range i).filter λj=>decide (jH a n j)):=by
 classical
 unfold Lc;have:List.range n=List.range i++(List.range (n-i)).map (i+ ·):=by rw[<-List.range_add];congr 1;omega
 rw[this,List.filter_append,List.filter_append]
 have c:(((List.range (n-i)).map (i+ ·)).filter λj=>decide (jH a n j)).filter (λj=>decide (j<i))= []:=by
  rw[List.filter_eq_nil_iff];intro x b;obtain⟨y,_,rfl⟩:=qU.1 (Re.1 b).1;simp
 rw[c,qV];rw[List.filter_eq_self];intro x b;simpa using wY.1 (Re.1 b).1
noncomputable def DR (a:List Nat)(n i:Nat):LN:=((Lc a n).filter λj=>decide (j<i)).map (Tl a)
theorem BW (a:List Nat)(n:Nat):DR a n n=rQ a n:=by
 classical
 unfold DR rQ;congr 1;rw[List.filter_eq_self];intro x b;unfold Lc at b;simpa using wY.1 (Re.1 b).1
theorem Cb (hi:i<n):(jH a n i->DR a n (i+1)=DR a n i++ [Tl a i])/\(¬jH a n i->DR a n (i+1)=DR a n i):=by
 classical
 unfold DR;rw[Nw (show i+1<=n by omega),Nw (show i<=n by omega),List.range_succ,List.filter_append];constructor
 .intro h
  rw[show ([i]:List Nat).filter (λj=>decide (jH a n j))= [i] by simp [h],List.map_append];rfl
 .intro h
  rw[show ([i]:List Nat).filter (λj=>decide (jH a n j))= [] by simp [h],qV]
theorem VA: ∀i,i<=n->DR a n i<+:rQ a n:=by
 intro i hi
 obtain⟨d,f⟩: ∃d,i+d=n:=⟨n-i,om⟩
 induction d generalizing i with
 |zero=>
      have:i=n:=om
      subst this;rw[BW];exact List.prefix_rfl
 |succ d ih=>
  have b:=ih (i+1) om om
  by_cases c:jH a n i
  .rw[(Cb om).1 c] at b
   exact (List.prefix_append _ _).trans b
  .rw[(Cb om).2 c] at b
   exact b
theorem LL (a:List Nat)(n:Nat):DR a n 0= []:=by
 unfold DR;rw[show (Lc a n).filter (λj=>decide (j<0))= [] by rw[List.filter_eq_nil_iff];intro x _;simp];rfl
theorem SO {α:Type}{l m:List α}(h:l<+:m)(hi:i<l.length)(d:α):m.getD i d=l.getD i d:=by
 obtain⟨t,rfl⟩:=h;rw[List.getD,wU hi];rfl
theorem AT (id b:Nat)(Z:V)(n:Nat)(a:List Nat)(h:H)(a8:1<=n)(hn:n<=64)(A:aY n a)(F:Nat)(b1:F<=h.next)(a9:b<F)(hb:h.get b=some (.cells false [Z]))(b3:b<h.next)(hv:SI h Z (zi a))(J:Nat->H->Prop)(h0:J 0 h)
  (kJ: ∀k hh h',J k hh->hh.next<=h'.next->(∀q,q<F->h'.get q=hh.get q)->J k h') (jb: ∀k hh,J k hh->hh.get b=some (.cells false [Z])/\SI hh Z (zi a))
  (hy: ∀k hh v,k<(rQ a n).length->J k hh->SI hh v (zi ((rQ a n).getD k []))->F<=hh.next->Ey T id [v] hh (λv h'=>v= .bool true/\J (k+1) h'/\Fx (λq=>q<F) hh h')):
  Ev T 246 [.yl id,.ptr b 0] h (λ_ h'=>J (rQ a n).length h'):=by
 obtain⟨S,hS⟩:=exI h.next
 obtain⟨h1,e1,n1,g1,o1,f1⟩:=dF hS (rc 64 λ_=>V.bool false)
 have a0:=H.cell_of (h:=h1) (id:=b) (by rw[o1 _ om];exact hb)
 have N:=hv.lens
 rw[aL,A.len] at N
 refine aeG @BV hS e1 a0 N ?_
 have a5:h1.get S=some (.cells false (rc 64 λj=> .bool (zO a 0 0 j))):=by
  rw[g1,show (λj=>V.bool (zO a 0 0 j))=λ_=>V.bool false from funext λj=>by rw[Uj]]
 refine aH (λO o hh=> ∃(i:Nat),(∃g:Nat->V,o= [.yl id,.ptr b 0,.ptr S 0,g 3,g 4,g 5,aC n,aC i,g 8,g 9,g 10])/\i<=n/\J (DR a n i).length hh/\hh.get S=some (.cells false (rc 64 λj=> .bool (zO a i 0 j)))/\S<hh.next/\O=n-i) n
  ⟨0,aB rfl,fE _,by rw[LL];exact kJ _ _ _ h0 f1.next (λq hq=>o1 q om),a5,om,rfl⟩ ?_
 rintro O o h2 ⟨i,⟨g,rfl⟩,hi,p,u,x,rfl⟩
 by_cases P:(i:Int)<(n:Int)
 case neg=>
  have d1:=bT P;obtain rfl:i=n:=om
  refine bE d1 ?_;rw[BW] at p;exact p
 have d1:=cJ P
 have l:i<n:=om
 refine bE d1 ?_
 obtain⟨p0,p1,p2⟩:=nG A l
 have b2:=Qv A l
 refine bY (λvs hh=> ∃(r:V) (c:List Nat),(∃g:Nat->V,vs= [.yl id,.ptr b 0,.ptr S 0,g 3,r,g 5,aC n,aC i,g 8,g 9,g 10])/\cW hh r 1 (ints (zi c)) (S+1)/\(jH a n i/\c=Tl a i\/ ¬jH a n i/\c= [])/\
   J (DR a n i).length hh/\hh.get S=some (.cells false (rc 64 λj=> .bool (zO a (i+1) 0 j)))/\S<hh.next) ?_ ?_
 .refine aH (λO vs hh=> ∃(s:Nat) (r:V),(∃g:Nat->V,vs= [.yl id,.ptr b 0,.ptr S 0,g 3,r,aC (it a s i:Nat),aC n,aC i,g 8,g 9,g 10])/\s<=rS a i/\(0<s->jH a n i)/\cW hh r 1 (ints (zi ((List.range s).map λt=>it a t i))) (S+1)/\
    J (DR a n i).length hh/\hh.get S=some (.cells false (rc 64 λj=> .bool (zO a i s j)))/\S<hh.next/\O=rS a i-s) (rS a i)
   ⟨0,.aD,aB rfl,fE _,λh=>om,cW.aD _ _ _,p,u,x,rfl⟩ ?_
  clear p u x
  rintro O o G ⟨s,r,⟨g,rfl⟩,hs,hf,B,p,u,x,rfl⟩
  have hp:=Ab A l s
  have cS:=iJ u (i:=it a s i) om
  cases hsn:zO a i s (it a s i) with
  |true=>
   rw[hsn] at cS;refine bE cS ?_
   by_cases f:jH a n i
   .have e:s=rS a i:=zQ λK=>by
     have:=(Hr A l f hs).2 om;rw[hsn] at this;cases this
    refine⟨r,Tl a i,aB rfl,by rw[e] at B;exact B,.inl ⟨f,rfl⟩,p,?_,x⟩;rw[u,e];congr 2;exact cT λj _=>by rw[Xr A l]
   .have e:s=0:=zQ λK=>f (hf om)
    subst e;refine⟨r, [],aB rfl,B,.inr ⟨f,rfl⟩,p,?_,x⟩;rw[u];congr 2;exact cT λj _=>by rw[Tc A l f]
  |false=>
   rw[hsn] at cS
   have f:jH a n i:=zQ λf=>by
    have e:s=0:=zQ λK=>f (hf om)
    subst e;have:=VB A l f;have h2:zO a i 0 i=false:=hsn;rw[h2] at this;cases this
   have a7:=(Hr A l f hs).1 hsn;have pt:=cF (vs:=rc 64 λj=> .bool (zO a i s j)) (off:=it a s i) (by rw[iK];omega);obtain⟨h4,e4,n4,g4,o4⟩:=lU G S ((rc 64 λj=> .bool (zO a i s j)).set (it a s i) (.bool true));obtain⟨h5,e5,n5,g5,o5,f5⟩:=dF (h:=h4) (ID:=G.next) n4 [aC (it a s i:Nat)];have a1:cW h5 r 1 (ints (zi ((List.range s).map λt=>it a t i))) (S+1):=B.mono om λk off m c e h1 h2=>by rw[o5 k om,o4 k om]
   obtain⟨h6,a6,p6⟩:=a1.push (bytes:=8) (SV.one (v:= aC (it a s i:Nat)) (id:=G.next) om g5 (.kn 1)) (n:=s) (m:=1) (by rw[aN,aL];simp) rfl om om om;have n6:=p6.next;have ap: ∀q,q<=S->dS r q:=λq hq k off m c e e2=>by have:=(B.in _ _ _ _ e).2.1;omega
   have o6: ∀q,q<F->h6.get q=G.get q:=λq hq=>by rw[p6.old q om (ap q om),o5 q om,o4 q om]
   have J6:=kJ _ _ h6 p om o6;obtain⟨a4,a3⟩:=jb _ _ J6;obtain⟨idx,R,Q,U,L⟩:=a3.open;rw[aL,A.len] at Q U L
   have cx:h6.cell idx (R+it a s i)=some (aC (it a (s+1) i:Nat)):=by
    rw[L _ hp];congr 2;rw[zi,fO _ (d:=0) (by rw[A.len];exact hp)];rfl
   simp(disch:=omega)only[go_sem,cS,u,pt,e4,cQ h4 (z:= aC 0) (v:= aC (it a s i:Nat)) rfl rfl,n4,e5,a6,H.cell_of a4,Q.ixa,cx]
   have a2:h6.get S=some (.cells false (rc 64 λj=> .bool (zO a i (s+1) j))):=by
    rw[p6.old S om (ap S (eU _)),o5 S om,g4,jL];congr 2
    exact cT λj _=>by
     rw[Wr]
     by_cases e:j=it a s i
     .rw[bL e,bL e]
     .rw[bV e,bV e]
   have el:ints (zi ((List.range (s+1)).map λt=>it a t i))=ints (zi ((List.range s).map λt=>it a t i))++ [aC (it a s i:Nat)]:=by
    rw[List.range_succ,List.map_append];simp [zi,ints]
   refine⟨rS a i-(s+1),om,s+1,_,aB rfl,om,λ_=>f,by rw[el];exact p6.own (by rw[aN,aL];simp) rfl om,J6,a2,om,rfl⟩
 clear p u x
 rintro o G ⟨r,c,⟨g,rfl⟩,B,hc,p,u,x⟩
 have W:=cW.lens B (n:=c.length) (by rw[aN,aL])
 rcases hc with ⟨f,rfl⟩|⟨f,rfl⟩
 .have d2:decide ((0:Int)<((Tl a i).length:Int))=true:=cJ (by rw[vI];omega)
  have w:=VA (a:=a) (n:=n) (i+1) om
  have Y:=(Cb l).1 f
  rw[Y] at w
  have hg:(rQ a n).getD (DR a n i).length []=Tl a i:=by rw[SO w siM];exact kB
  have y:=w.length_le
  rw[iB] at y
  refine cU W d2 ?_
  refine (hy _ G r (by simp at y;omega) p (by rw[hg];exact B.sv) om).mono ?_
  rintro _ h4 ⟨rfl,J4,f4⟩
  refine aM ?_
  rw[eJ i]
  refine⟨n-(i+1),om,i+1,aB rfl,om,by rw[Y,iB];exact J4,by rw[f4.get S x (λh=>by have:S<F:=h;omega)];exact u,kQ x f4.next,rfl⟩
 .have d2:decide ((0:Int)<((0:Nat):Int))=false:=rfl
  refine cU W d2 ?_
  rw[eJ i]
  exact⟨n-(i+1),om,i+1,aB rfl,om,by rw[(Cb l).2 f];exact p,u,x,rfl⟩
end
theorem yJ (u:V)(ws:List V)(n:Nat)(h:H)(N:1<=n)(W:n<=64)(R:ws.length<1000000)(K:SV h u 1 ws)(z: ∀i,i<ws.length-> ∃a,aY n a/\SI h (ws.getD i .undef) (zi a)):Ev T 158 [u] h (λv h'=>v= aC 0/\Fr h h'):=by
 have J:bH u=some (aC (ws.length:Int)):=by unfold bH;rw[SV.len K (n:=ws.length) om om];rfl
 obtain⟨id,d,y,p,x⟩:=SV.shape K ws.length om om;have q: ∀i:Nat,i<ws.length->h.cell id (d+i)=some (ws.getD i .undef):=λi hi=>by rw[x i om];simp [List.getD,hi]
 refine yF J ?_;refine bY (λk m=>(∃g:Nat->V,k= [u,aC 0,g 2,g 3,g 4,g 5,g 6,g 7,g 8,g 9,g 10,g 11,g 12,g 13,g 14])/\Fr h m) ?_ ?_
 .refine aH (λw k m=> ∃(i:Nat),(∃g:Nat->V,k= [u,aC 0,g 2,g 3,g 4,u,aC (ws.length:Int),aC i,g 8,g 9,g 10,g 11,g 12,g 13,g 14])/\i<=ws.length/\Fr h m/\w=ws.length-i) ws.length
   ⟨0,aB rfl,fE _,Fr.refl h,rfl⟩ ?_
  rintro w c r ⟨i,⟨g,rfl⟩,hi,f,rfl⟩
  by_cases b:(i:Int)<(ws.length:Int)
  .have o:=cJ b
   have l:i<ws.length:=om
   have ci:r.cell id (d+i)=some (ws.getD i .undef):=by rw[f.cell (p om),q i om]
   obtain⟨a,X,t⟩:=z i l;generalize ws.getD i .undef=B at ci t;refine dQ o @y.ixa ci ?_;refine (tW B _ r (by rw[aL,X.len];omega) (t.mono f)).mono ?_;rw[Am X om om];rintro _ O ⟨rfl,P⟩;refine aM ?_;refine bI (λq=>(q rfl).elim) (λ_=>?_);refine aM ?_;rw[eJ i];exact⟨ws.length-(i+1),om,i+1,aB rfl,om,f.trans P,rfl⟩
  .have o:=bT b
   refine bE o ?_;exact⟨aB rfl,f⟩
 rintro c r ⟨⟨g,rfl⟩,f⟩;refine bE J ?_;refine bY (λk m=>(∃g:Nat->V,k= [u,aC 0,g 2,g 3,g 4,g 5,g 6,g 7,g 8,g 9,g 10,g 11,g 12,g 13,g 14])/\Fr h m) ?_ ?_
 .refine aH (λw k m=> ∃(i:Nat),(∃g:Nat->V,k= [u,aC 0,g 2,g 3,g 4,g 5,g 6,g 7,g 8,g 9,u,aC (ws.length:Int),aC i,g 13,g 14])/\i<=ws.length/\Fr h m/\w=ws.length-i) ws.length
   ⟨0,aB rfl,fE _,f,rfl⟩ ?_
  clear f;rintro w c r ⟨i,⟨g,rfl⟩,hi,f,rfl⟩
  by_cases b:(i:Int)<(ws.length:Int)
  .have o:=cJ b
   have l:i<ws.length:=om
   have ci:r.cell id (d+i)=some (ws.getD i .undef):=by rw[f.cell (p om),q i om]
   have A:r.cell id (d+0)=some (ws.getD 0 .undef):=by rw[f.cell (p om),q 0 om]
   obtain⟨a,X,t⟩:=z i l;obtain⟨Q,L,s⟩:=z 0 om;generalize ws.getD i .undef=B at ci t;generalize ws.getD 0 .undef=U at A s;have G:=t.lens;have F:=s.lens;rw[aL,X.len] at G;rw[aL,L.len] at F;have j:El 1 u (aC 0)=some (.ptr id (d+0)):=y.ixa .i64 0 om om;rw[Nat.add_zero] at j A;refine uA o @y.ixa ci j A G F ?_;refine bI (λq=>(q rfl).elim) (λ_=>?_);refine aM ?_;rw[eJ i];exact⟨ws.length-(i+1),om,i+1,aB rfl,om,f,rfl⟩
  .have o:=bT b
   refine bE o ?_;exact⟨aB rfl,f⟩
 rintro c O ⟨⟨g,rfl⟩,f⟩;refine aM ?_;exact f
theorem Cn (l:List Nat)(k:Nat):pZ (l.take k)∣pZ l:=(uN _ _).2 λc a=>(uN l _).1 (Nat.dvd_refl _) c (List.mem_of_mem_take a)
theorem Lh (l:List Nat)(k:Nat)(a:k<l.length):pZ (l.take (k+1))=pZ (l.take k)/Nat.gcd (pZ (l.take k)) (l.getD k 0)*l.getD k 0:=by
 unfold pZ;rw[dJ 0 a,List.foldl_append];rfl
theorem On {n:Nat}(a:n<=7):n^n<=823543:=by
 have: ∀m,m<8->m^m<=823543:=deC
 exact this n om
structure OrJ (h:H)(A b id2:Nat)(va:V)(a:List Nat)(r:fR)(m:Nat)(hh:H):Prop where
 gr:hh.get id2=some (.loop r)
 gA:hh.get A=bG [aC m]
 gb:hh.get b=bG [va]
 si:SI hh va (zi a)
 nx:id2<hh.next
 fr:Fr h hh
theorem IW (a:V)(h:H)(k:a.cells= [a])(j:a.one=true):Ev T 225 [a] h (λv h'=> ∃b,v= .fn 246 [] [.ptr b 0]/\b=h.next/\h'.get b=bG [a]/\h'.next=h.next+1/\Fr h h'):=by
 obtain⟨l,c,i,d,m,f⟩:=dF (h:=h) rfl [a];refine Px (mH k j h) c ?_;exact⟨h.next,rfl,rfl,d,i,f⟩
theorem LA (x:V)(n:Nat)(a:List Nat)(h:H)(a2:1<=n)(hn:n<=7)(A:aY n a)(P:SI h x (zi a)):
  Ev T 185 [x] h (λv h'=>v= .tup [aC (oD a n:Nat),aC 0]/\Fr h h'):=by
 obtain⟨S,hS⟩:=exI h.next
 obtain⟨h1,e1,n1,g1,o1,f1⟩:=dF hS [x]
 have on:=(SV.cM P).2.1
 refine Ku (cQ h (z:= .aD) (v:=x) (SV.cM P).1 on) hS e1 ?_
 have b8: ∀i,i< [x].length-> ∃a,aY n a/\SI h1 ([x].getD i .undef) (zi a):=λi hi=>by
  obtain rfl:i=0:=by simp at hi;omega
  exact⟨a,A,P.mono f1⟩
 refine (yJ (.sl S 0 1 (.kn 1)) [x] n h1 a2 om siM (SV.one om g1 _) b8).mono ?_
 rintro _ Q ⟨rfl,f2⟩
 refine aM ?_
 refine bI (λhc=>(hc rfl).elim) (λ_=>?_)
 obtain⟨B,hB⟩:=exI Q.next
 obtain⟨h3,e3,n3,g3,o3,f3⟩:=dF hB [aC 0]
 obtain⟨h4,e4,n4,g4,o4⟩:=lU h3 B [aC 1]
 have b4:(w:H)->(y:V)->eH (bG [aC 0]) w B 0 [y]=some (w.set B (bG [y])):=λw y=>cF siM w _ _
 refine iT hB e3 g3 b4 e4 ?_
 refine (IW x h4 (SV.cM P).1 on).mono ?_
 rintro _ h5 ⟨b,rfl,hb,g5,n5,f5⟩
 refine aM ?_
 refine⟨rfl,tG λr Z=>?_⟩
 obtain⟨o,R⟩:=exI h5.next
 rw[R]
 have jE:r.st= .ready:=by rw[Z]
 have b2:r.pend=none:=by rw[Z]
 obtain⟨O,N⟩: ∃O,O=h5.new (.loop r):=⟨_,rfl⟩
 have c2:O.get o=some (.loop r):=by rw[N,<-R,H.aQ]
 have n6:O.next=o+1:=by rw[N,H.aZ,R]
 have f6:Fr h5 O:=by rw[N];exact (Fr.refl h5).new _
 rw[<-N]
 have F2:=f1.trans f2
 have F3:=F2.trans f3
 have hs:=F2.next
 have F4:Fr h h4:=⟨by rw[n4];exact F3.next,λq u=>by rw[o4 q om];exact F3.get q u⟩
 have F6:=(F4.trans f5).trans f6
 have c3:o=b+1:=om
 have b5:O.get B=bG [aC 1]:=by rw[f6.get _ om,f5.get _ om];exact g4
 have a7:O.get b=bG [x]:=by rw[f6.get _ om];exact g5
 have J0:OrJ h B b o x a r (pZ (((rQ a n).map List.length).take 0)) O:=⟨c2,b5,a7,P.mono F6,om,F6⟩
 refine (AT o b x n a O a2 om A (o+1) om om a7 om (P.mono F6) (λk w=>OrJ h B b o x a r (pZ (((rQ a n).map List.length).take k)) w) J0
  (λk w h' j hx u=>⟨by rw[u _ om];exact j.gr,by rw[u _ om];exact j.gA,by rw[u _ om];exact j.gb,P.mono ⟨kP j.fr.next hx,λq a0=>by rw[u _ om];exact j.fr.get q a0⟩,kQ j.nx hx,⟨kP j.fr.next hx,λq a0=>by rw[u _ om];exact j.fr.get q a0⟩⟩)
  (λk w j=>⟨j.gb,j.si⟩) ?_).mono ?_
 .intro k w v hk j a4 c8
  obtain⟨m,hm⟩:=exI (pZ (((rQ a n).map List.length).take k))
  obtain⟨c,U⟩:=exI ((rQ a n).getD k [])
  have a3:((rQ a n).map List.length).getD k 0=c.length:=by rw[fO _ (d:= []) hk,U]
  have b7:k<((rQ a n).map List.length).length:=by rw[fL];exact hk
  have F:=Lh ((rQ a n).map List.length) k b7
  rw[hm,a3] at F
  have hp:=Wn A
  have a8:=kP (BZ A) (On hn)
  have c7:m<=823543:=kP (by rw[<-hm];exact Nat.le_of_dvd hp (Cn _ k)) a8
  have b0:pZ (((rQ a n).map List.length).take (k+1))<=823543:=kP (Nat.le_of_dvd hp (Cn _ (k+1))) a8
  have c4:1<=c.length/\c.length<=7:=by
   have:=aV (l:=rQ a n) (d:= []) hk;rw[U] at this;obtain⟨i,hi,rfl⟩:=qU.1 this;have b1:i<n:=by unfold Lc at hi;exact wY.1 (Re.1 hi).1
   rw[vI];have:=(nG A b1).1;have:=Qv A b1;omega
  rw[U] at a4
  have lv:=a4.lens
  rw[aL] at lv
  rw[hm] at j
  refine sW j.gr (by rw[Z];rfl) jE λL g9 n9 o9=>?_
  rw[congrArg fR.assign Z,congrArg fR.vars Z,congrArg fR.pars Z]
  simp(disch:=omega)only[go_sem,List.zip_cons_cons,List.zip_nil_left]
  rw[congrArg fR.body Z]
  have nx:=j.nx
  have a6:L.get B=bG [aC m]:=by rw[o9 _ om];exact j.gA
  simp(disch:=omega)only[go_sem,H.cell_of a6,lv]
  refine (acV Bi.ok m c.length _ om om).mono ?_
  rintro _ f ⟨rfl,a9⟩
  have b3:L.next+10<=f.next:=a9.next
  have s: ∀q,q<L.next->f.get q=L.get q:=λq u=>a9.get q (by show q<L.next+10;omega)
  have t:f.get B=bG [aC m]:=by rw[s _ om];exact a6
  obtain⟨G,hG⟩:=exI (Nat.gcd m c.length)
  rw[hG] at F
  rw[hG]
  have c5:0<G:=by rw[<-hG];exact Nat.gcd_pos_of_pos_right _ om
  have c0:(G:Int)≠0:=om
  have a5:(m:Int).tdiv (G:Int)=((m/G:Nat):Int):=by rw[Int.tdiv_eq_ediv_of_nonneg om];rfl
  have c1:m/G<=m:=Nat.div_le_self _ _
  have Y:((m/G:Nat):Int)*(c.length:Int)=((pZ (((rQ a n).map List.length).take (k+1)):Nat):Int):=by rw[F,Int.natCast_mul]
  generalize pZ (((rQ a n).map List.length).take (k+1))=m2 at Y b0 F
  generalize m/G=q at a5 c1 Y F
  have pt:(w:H)->(y:V)->eH (bG [aC m]) w B 0 [y]=some (w.set B (bG [y])):=λw y=>cF siM w _ _
  simp(disch:=omega)only[go_sem,c0,a5,Y,lv,H.cell_of t,t,pt]
  refine pD jE b2 (by rw[H.aF _ om];rw[s _ om];exact g9) ?_
  obtain⟨J,p⟩: ∃J,J=(f.set B (bG [aC m2])).set o (some (.loop r)):=⟨_,rfl⟩
  rw[<-p]
  have c6:J.next=f.next:=by rw[p];rfl
  have W: ∀q,q≠B->q≠o->J.get q=f.get q:=λq h1 Q=>by rw[p,H.aF _ Q,H.aF _ h1]
  have b6:=j.fr.next
  have a1:Fr h J:=⟨om,λq u=>by rw[W q om om,s q om,o9 q om];exact j.fr.get q u⟩
  exact⟨rfl,⟨by rw[p,H.aW],by rw[p,H.aF _ om,H.aW],by rw[W b om om,s b om,o9 b om];exact j.gb,P.mono a1,om,a1⟩,⟨om,λq h1 Q=>by rw[W q (λe=>Q om) (λe=>Q om),s q om,o9 q (λe=>Q om)]⟩⟩
 .rintro _ L j
  rw[show (rQ a n).length=((rQ a n).map List.length).length from (fL _).symm,List.take_length] at j
  have b0:oD a n<=823543:=kP (BZ A) (On hn)
  have j':OrJ h B b o x a r (oD a n) L:=j
  refine⟨r,j'.gr,by rw[jE];simp,?_⟩
  have en:r.pend.getD .norm= .norm:=by rw[b2];rfl
  rw[en]
  obtain⟨f,K⟩: ∃f,f=L.set o (some (.loop {r with st:= .out})):=⟨_,rfl⟩
  have s: ∀q,q≠o->f.get q=L.get q:=λq u=>by rw[K,H.aF _ u]
  have b3:f.next=L.next:=by rw[K];rfl
  have t:f.get B=bG [aC (oD a n:Nat)]:=by rw[s _ om];exact j'.gA
  have b6:=j'.fr.next
  have b9:Fr h f:=⟨om,λq u=>by rw[s q om];exact j'.fr.get q u⟩
  rw[<-K]
  simp(disch:=omega)only[go_sem,H.cell_of t]
  exact b9
theorem Oy (h:H)(n:Nat)(a:n<=100000):Ct h 1 1 [.int .u8 0] (aC n) (aC n)=some (.sl h.next 0 n (.kn n),h.new (.cells false (rc n λ_=> .int .u8 0))):=by
 rw[qT om (Int.le_refl _) om om,IF,qZ]
 have e:dT [V.int .u8 0] n=rc n λ_=> .int .u8 0:=by
  symm;refine Gy ?_ λi hi=>?_
  .simp [dT]
  .simp [dT,hi,Nat.mod_one]
 rw[e]
theorem Ax: ∀l:List Nat,(∀x∈l,x<256)->pV (l.map λ(x:Nat)=>V.int .u8 (x:Int))=some l
 | [],_=>rfl
 |x::r,h=>by
  have b:=h x siM;show (if 0<=(x:Int)/\(x:Int)<256 then (pV (r.map λ(x:Nat)=>V.int .u8 (x:Int))).map ((x:Int).toNat:: ·) else none)=_;rw[bL ⟨om,om⟩,Ax r λy a=>h y (by simp [a])]
  rfl
theorem DI (u:V)(a:List Nat)(h:H)(W:a.length<=1000)(z: ∀x∈a,x<256)(L:SI h u (zi a)):
  Ev T 182 [u] h (λv h'=>v= .str a/\Fr h h'):=by
 refine kV ?_
 obtain⟨n,s⟩:=exI a.length
 have K:=L.lens
 rw[aL,s] at K
 obtain⟨id,off,B,q,P⟩:=L.open
 rw[aL,s] at B q P
 simp(disch:=omega)only[go_sem,aI,K,Oy h n om]
 have o:Fr h (h.new (.cells false (rc n λ_=> .int .u8 0))):=(Fr.refl h).new _
 have f:(h.new (.cells false (rc n λ_=> .int .u8 0))).get h.next=some (.cells false (rc n λ_=> .int .u8 0)):=H.aQ ..
 have c:(h.new (.cells false (rc n λ_=> .int .u8 0))).next=h.next+1:=H.aZ ..
 generalize h.new (.cells false (rc n λ_=> .int .u8 0))=U at*
 obtain⟨S,O⟩:=exI h.next
 rw[O] at f c
 rw[O]
 refine aH (λJ b t=> ∃(i:Nat),(∃j:Nat->V,b= [u,j 1,.sl S 0 n (.kn n),j 3,j 4,u,aC n,aC i,j 8])/\i<=n/\
   t.get S=some (.cells false (rc n λj=>if j<i then .int .u8 ((a.getD j 0:Nat):Int) else .int .u8 0))/\t.next=S+1/\Fr h t/\J=n-i) n
  ⟨0,aB rfl,fE _,by rw[f];rfl,c,o,rfl⟩ ?_
 clear f o c
 rintro J b m ⟨i,⟨Y,rfl⟩,hi,y,R,F,rfl⟩
 refine aM ?_
 by_cases l:(i:Int)<(n:Int)
 .rw[cJ l]
  have d:i<n:=om
  have ci:m.cell id (off+i)=some (aC (a.getD i 0:Nat)):=by rw[F.cell (q om),P i d];congr 2;simp [zi,s,d]
  have r:=z (a.getD i 0) (aV om)
  generalize Q:a.getD i 0=k at ci r
  have A:=cF (vs:=rc n λj=>if j<i then .int .u8 ((a.getD j 0:Nat):Int) else .int .u8 0) (off:=i) (by rw[iK];exact d) m S (.int .u8 (k:Int))
  rw[jL] at A
  refine iT @B.ixa ci y @wC A ?_
  rw[eJ i]
  refine⟨n-(i+1),om,i+1,aB rfl,om,?_,R,F.set om _,rfl⟩
  congr 2
  refine cT λj N=>?_
  by_cases e:j=i
  .rw[bL e,bL om,e,Q]
  .rw[bV e]
   by_cases G:j<i
   .rw[bL G,bL om]
   .rw[bV G,bV om]
 rw[bT l]
 obtain rfl:i=n:=om
 have p:m.row S 0 i=some (a.map λ(x:Nat)=>V.int .u8 (x:Int)):=by
  have e:(rc i λj=>if j<i then V.int .u8 ((a.getD j 0:Nat):Int) else .int .u8 0)=a.map λ(x:Nat)=>V.int .u8 (x:Int):=Gy (by rw[fL,s]) λj N=>by
   rw[bL N,Jj,dC om,List.getD,dC om];rfl
  unfold H.row;rw[y,e];simp only[sub];rw[bL (by rw[fL];omega)];rw[List.drop_zero,Bo (by rw[fL];omega)]
 have w:GY m (.sl S 0 i (.kn i))=some (.str a):=by
  show (match m.row S 0 i with|some ys=>(pV ys).map V.str|none=>none)=_;rw[p];show (pV (a.map λ(x:Nat)=>V.int .u8 (x:Int))).map V.str=_;rw[Ax a z];rfl
 refine cU @CM w ?_
 exact F
section
variable {y x g:List Nat}
section
variable {n:Nat} {G:List Nat->Prop} {O:LN} {R:iA}
theorem one_le (Y:aY n y):Le (bC n) y:=by
 by_cases h: ∃k,k<n/\y.getD k 0≠k
 .obtain⟨k,⟨b,o⟩,c⟩: ∃k,(k<n/\y.getD k 0≠k)/\ ∀j,j<k-> ¬(j<n/\y.getD j 0≠j):=by
   obtain⟨k,b⟩:=h
   induction k using Nat.strongRecOn with
   |_ k ih=>
    by_cases l: ∃j,j<k/\(j<n/\y.getD j 0≠j)
    .obtain⟨j,q,p⟩:=l;exact ih j q p
    .exact⟨k,b,λj d r=>l ⟨j,d,r⟩⟩
  have a: ∀j,j<k->y.getD j 0=j:=λj d=>zQ λi=>c j d ⟨om,i⟩
  refine .inr ⟨k,by rw[jB];exact b,λj d=>by rw[fW om,a j d],?_⟩;rw[fW b];refine zQ λm=>?_
  have f:y.getD k 0<k:=om
  have:=Y.inj om b (a _ f);omega
 .exact .inl ((Fix.all Y λk b=>zQ λi=>h ⟨k,b,i⟩).symm)
theorem Gf (f:eM n G)(c:bA n G O R){i:Nat}(hi:i<n):0<(R.getD i []).length/\(R.getD i []).getD 0 []=bC n:=by
 have o:i∈O.getD i []:=(c.mem i hi i).2 ⟨bC n,f.one,Fix.one n i om,fW hi⟩;have b:0<(O.getD i []).length:=Ss o;have a:=c.rep i hi 0 b
 have r:(O.getD i []).getD 0 0=i:=by
  have d:(O.getD i []).getD 0 0∈O.getD i []:=aV b;obtain⟨x,s,fx,e⟩:=(c.mem i hi _).1 d
  have p: ¬(O.getD i []).getD 0 0<i:=λh=>by
   have X:=f.bM s;have:=X.inj (i:=(O.getD i []).getD 0 0) (j:=i) om hi (by rw[fx _ h,e]);omega
  obtain⟨k,t,v⟩:=rV.1 o;have m:=Sr.1 (c.asc i hi);have u:(O.getD i []).getD 0 0=(O.getD i [])[0]:=Pm.bJ b
  by_cases l:k=0
  .subst l;omega
  .have:=m 0 k b t om
   omega
 rw[r] at a;refine⟨by rw[c.rl i hi];exact b,a.uniq ⟨f.one,Fix.one n i om,fW hi,λy q _ _=>one_le (f.bM q)⟩⟩
theorem cH (c:bA n G O R)(a:x∈cI R):G x:=by
 unfold cI at a;obtain⟨r,b,d⟩:=List.mem_flatMap.1 a;exact iD c x (List.mem_flatten.2 ⟨r,b,List.mem_of_mem_drop d⟩)
theorem lX (d:eM n G)(c:bA n G O R)(m:G x):bX n (λg=>g∈cI R) x:=by
 have h:=(mT d c x).2 m;have v: ∀g,g∈cI R->aY n g:=λg b=>d.bM (cH c b)
 clear m
 induction h with
 |one=>exact .one
 | @mul y g _ b ih=>
  obtain⟨r,l,q⟩:=List.mem_flatten.1 b;obtain⟨i,hi,s⟩:=rV.1 l;have f:i<n:=by have:=c.lr;omega
  have a:R.getD i []=r:=by rw[List.getD,dC hi,<-s];rfl
  obtain⟨u,o⟩:=Gf d c f;rw[a] at u o;obtain⟨k,t,p⟩:=rV.1 q
  by_cases j:k=0
  .subst j
   have:g=bC n:=by rw[<-o,List.getD,dC t,<-p];rfl
   rw[this,bD (ih.bM v)];exact ih
  .refine ih.mul ?_
   unfold cI;refine List.mem_flatMap.2 ⟨r,l,rV.2 ⟨k- 1,by rw[Nx];omega,?_⟩⟩;rw[List.getElem_drop];simp only[show 1+(k- 1)=k by omega,p]
def aX (x g:List Nat):List Nat:=aS (aS (cK g) x) g
theorem dL (X:aY n x)(g':aY n g):aY n (aX x g):=(g'.inv.mul X).mul g'
theorem kZ (X:aY n x):aX x (bC n)=x:=by
 unfold aX;rw[oZ,cV X,bD X]
theorem iP {k:List Nat}(X:aY n x)(A:aY n g)(B:aY n k):aX x (aS g k)=aX (aX x g) k:=by
 unfold aX;rw[xQ A B];have a:=A.inv;have b:=B.inv;rw[aG b a X,<-aG (b.mul (a.mul X)) A B,<-aG b (a.mul X) A|>.symm]
theorem jW (X:aY n x)(A:aY n g):aX (aX x g) (cK g)=x:=by
 rw[<-iP X A A.inv,dB A,kZ X]
def cj (G:List Nat->Prop)(x y:List Nat):Prop:= ∃g,G g/\aX x g=y
theorem WX (a:eM n G)(X:aY n x):cj G x x:=⟨bC n,a.one,kZ X⟩
theorem WW (b:eM n G)(X:aY n x)(h:cj G x y):cj G y x:=by
 obtain⟨g,a,rfl⟩:=h;exact⟨cK g,b.inv a,jW X (b.bM a)⟩
theorem QH (a:eM n G){z:List Nat}(X:aY n x)(h:cj G x y)(h2:cj G y z):cj G x z:=by
 obtain⟨g,c,rfl⟩:=h;obtain⟨k,b,rfl⟩:=h2;exact⟨aS g k,a.mul c b,iP X (a.bM c) (a.bM b)⟩
theorem aeF {S:List Nat->Prop}(b: ∀g,S g->aY n g)(a: ∀x,G x->bX n S x){P:List Nat->Prop}(X:aY n x)(d:P x)(f: ∀y g,aY n y->P y->S g->P (aX y g))(h:cj G x y):P y:=by
 obtain⟨g,c,rfl⟩:=h;have:=a g c;clear c
 induction this with
 |one=>rw[kZ X];exact d
 | @mul z k hz hk ih=>
  rw[iP X (hz.bM b) (b k hk)];exact f _ _ (dL X (hz.bM b)) ih hk
end
end
end Go.Proofs.YtcdbmkidaecdiaaGreat
namespace Go.Proofs.YtcdbmkidaecdiaaGreat.Cls
open Go Go.Ay Go.Sort
section
variable {h:H} {S N i j a:Nat}
def ahD (ρ:Nat->Nat):fU->fU
 | .op i=> .op i
 | .call f xs=> .call (ρ f) xs
 | .callv x xs=> .callv x xs
def WA (ρ:Nat->Nat)(i:It):It:=⟨i.d,i.g,ahD ρ i.a⟩
def afT (ρ:Nat->Nat)(i:AI):AI:=⟨i.i,WA ρ i.it,i.al,i.cks⟩
def Ez (ρ:Nat->Nat):C->C
 | .skip=> .skip
 | .reg l=> .reg (l.map (WA ρ))
 | .any k n l=> .any k n (l.map (afT ρ))
 | .seq a b=> .seq (Ez ρ a) (Ez ρ b)
 | .ite x a b=> .ite x (Ez ρ a) (Ez ρ b)
 | .block i c=> .block i (Ez ρ c)
 | .loop c=> .loop (Ez ρ c)
 | .exit i=> .exit i
 | .ret=> .ret
 | .range f p a b=> .range f p a b
 | .fail=> .fail
def Qh (ρ:Nat->Nat)(f:Ay.Fn):Ay.Fn:=⟨f.nargs,f.init,f.results,Ez ρ f.body,f.Hm⟩
attribute [go_sem] Qh Ez afT WA ahD List.map_cons List.map_nil
def sK:List Nat:= [247,260,248,227,254,253,252,249,250,264,262,261,251,186]
class cG (α:Type)[Inhabited α] where
 lt:α->α->Bool
 enc:α->List V
 P:α->Prop
 B:H->Prop
 f:Nat
 b0:Nat
 S:Nat
 swo:SWO lt
 len: ∀a,(enc a).length=4
 one: ∀a,(enc a).all V.one=true
 eqv: ∀a,dM (.agg (enc a)) (.agg (enc a))=true
 cmp: ∀h a b,B h->P a->P b->Ev T f [.agg (enc a),.agg (enc b)] h (λv h'=> ∃z,v= aC z/\decide (z<0)=lt a b/\Fr h h')
 bfr: ∀h h',B h->Fr h h'->B h'
 bS: ∀h h',B h->Fx (· =S) h h'->B h'
 bR: ∀h h' R,B h->b0<=R->Fx (· =R) h h'->B h'
 bn: ∀h,B h->b0<=h.next
 ρ:Nat->Nat
 hT: ∀k,k∈sK->T (ρ k)=(T k).map (Qh ρ)
 s1:ρ 128=128
 s2:ρ 212=212
 s3:ρ 213=213
@[go_sem] theorem aiL {α:Type}[Inhabited α][O:cG α]:O.ρ 128=128:=O.s1
@[go_sem] theorem aiE {α:Type}[Inhabited α][O:cG α]:O.ρ 212=212:=O.s2
@[go_sem] theorem aiO {α:Type}[Inhabited α][O:cG α]:O.ρ 213=213:=O.s3
theorem tI {α:Type}[Inhabited α][O:cG α]{k:Nat}{c:Ay.Fn}(h:T k=some c)(m:k∈sK):T (O.ρ k)=some (Qh O.ρ c):=by
 rw[O.hT k m,h]
 rfl
def flat {α:Type}[Inhabited α][cG α](l:List α):List V:=l.flatMap cG.enc
structure iY {α:Type}[Inhabited α][O:cG α](h:H)(S N:Nat)(d:Array α):Prop where
 get:h.get S=bG (flat d.toList)
 size:d.size=N
 lt:S<h.next
 eqS:S=O.S
 base:O.B h
 all: ∀i,i<d.size->O.P d[i]!
section
variable {α:Type} [Inhabited α] [O:cG α]
theorem nH: ∀l:List α,(flat l).length=l.length*4
 | []=>rfl
 |x::r=>by
  show (cG.enc x++flat r).length=_;rw[iB,cG.len,nH r,List.length_cons];omega
theorem Ee:(l:List α)->(i:Nat)->(flat l).drop (i*4)=flat (l.drop i)
 |l,0=>by simp
 | [],i+1=>by simp [flat]
 |x::r,i+1=>by
  show (cG.enc x++flat r).drop ((i+1)*4)=_;rw[List.drop_append,List.drop_eq_nil_of_le (by rw[cG.len];omega),cG.len,List.nil_append,show (i+1)*4- 4=i*4 by omega,Ee r i,List.drop_succ_cons]
theorem Nc:(l:List α)->(i:Nat)->(flat l).take (i*4)=flat (l.take i)
 |l,0=>by simp [flat]
 | [],i+1=>by simp [flat]
 |x::r,i+1=>by
  show (cG.enc x++flat r).take ((i+1)*4)=_;rw[List.take_append,Bo (by rw[cG.len];omega),cG.len,show (i+1)*4- 4=i*4 by omega,Nc r i,List.take_succ_cons];rfl
theorem YI (h:H)(id off:Nat)(a:α):Ny h 4 (.ptr id off) (.agg (cG.enc a))=eH (h.get id) h id off (cG.enc a):=vN h id off 4 _ (cG.len a) (cG.one a)
theorem ZM (a:α):dM (.agg (cG.enc a)) (.agg (cG.enc a))=true:=cG.eqv a
theorem iY.rd {d:Array α}(A:iY h S N d)(hi:i<N):h.row S (i*4) 4=some (cG.enc d[i]!):=by
 have b:i<d.size:=by rw[A.size];exact hi
 have c:i<d.toList.length:=by simpa using b
 unfold H.row;rw[A.get];simp only[sub];rw[bL (by rw[nH];omega),Ee,Ij c];show some ((cG.enc d.toList[i]++flat _).take 4)=_;rw[List.take_append,Bo (by rw[cG.len];exact eU _),cG.len];simp [b]
theorem iY.fr {h':H}{d:Array α}(A:iY h S N d)(f:Fr h h'):iY h' S N d:=⟨by rw[f.get _ A.lt];exact A.get,A.size,kQ A.lt f.next,A.eqS,O.bfr _ _ A.base f,A.all⟩
theorem fK {d:Array α}(hi:i<d.size)(hh:H)(S:Nat)(x:α):eH (bG (flat d.toList)) hh S (i*4) (cG.enc x)=some (hh.set S (bG (flat (d.setIfInBounds i x).toList))):=by
 have b:i<d.toList.length:=by simpa using hi
 have e:(flat d.toList).take (i*4)++cG.enc x++(flat d.toList).drop (i*4+4)=flat (d.setIfInBounds i x).toList:=by
  rw[Array.toList_setIfInBounds,List.set_eq_take_append_cons_drop,bL b,Nc,show i*4+4=(i+1)*4 by omega,Ee];simp [flat]
 simp only[eH,putAt,cG.len];rw[bL (by rw[nH];omega),e];rfl
theorem eX {d:Array α}{y:α}(hi:i<d.size)(hh:H)(S:Nat)(x:α):eH (bG (flat (d.setIfInBounds j y).toList)) hh S (i*4) (cG.enc x)=some (hh.set S (bG (flat ((d.setIfInBounds j y).setIfInBounds i x).toList))):=
 fK (by simpa using hi) hh S x
theorem iY.swap {h2:H}{d:Array α}(A:iY h S N d){nx:Nat}(f:h.next<=nx)(e:h2=((H.mk h.tr nx).set S (bG (flat (d.setIfInBounds i d[j]!).toList))).set S (bG (flat ((d.setIfInBounds i d[j]!).setIfInBounds j d[i]!).toList)))(hi:i<N:=by omega)(q:j<N:=by omega):iY h2 S N (swp d i j)/\Fx (· =S) h h2:=by
 subst e
 have fx:Fx (· =S) h (((H.mk h.tr nx).set S (bG (flat (d.setIfInBounds i d[j]!).toList))).set S (bG (flat ((d.setIfInBounds i d[j]!).setIfInBounds j d[i]!).toList))):=⟨f,λid _ m=>by rw[H.aF _ m,H.aF _ m];rfl⟩
 have sz:=A.size;refine⟨⟨?_,?_,kQ A.lt f,A.eqS,O.bS _ _ A.base (by have:=A.eqS;subst this;exact fx),?_⟩,fx⟩
 .rw[H.aW];rfl
 .simp [swp,sz]
 .intro k p
  have b:k<d.size:=by simpa [swp] using p
  unfold swp
  have c:(x:Array α)->(u:Nat)->(y:α)->k<x.size->(x.setIfInBounds u y)[k]! =if u=k then y else x[k]! :=λx u y o=>by
   rw[getElem!_pos (x.setIfInBounds u y) k (by simpa using o),getElem!_pos x k o,Array.getElem_setIfInBounds]
  rw[c _ _ _ (by simpa using b),c _ _ _ b]
  by_cases l:j=k
  .rw[bL l];exact A.all i om
  .rw[bV l]
   by_cases n:i=k
   .rw[bL n];exact A.all j om
   .rw[bV n];exact A.all k b
theorem jQ {d:Array α}(A:iY h S N d)(hi:i<N)(b:j<N)(nx:Nat)(c:h.next<=nx):Ev T (cG.f α) [.agg (cG.enc d[i]!),.agg (cG.enc d[j]!)] (H.mk h.tr nx) (λv h'=> ∃z,v= aC z/\decide (z<0)=cG.lt d[i]! d[j]! /\Fr (H.mk h.tr nx) h'):=
 O.cmp _ _ _ (O.bfr _ _ A.base ((Fr.refl h).bU c)) (A.all i (by rw[A.size];exact hi)) (A.all j (by rw[A.size];exact b))
end
attribute [go_sem] YI ZM H.Ve
theorem oL {a b c:H}(x:Fx (· =S) a b)(y:Fx (· =S) b c):Fx (· =S) a c:=x.trans y λ_ _ h=>h
theorem BI {α:Type}[Inhabited α]{lt:α->α->Bool}{d:Array α}(b:a<j+1)(h2:lt d[j+1]! d[j]! =true):insInner lt a (j+1) d=insInner lt a j (swp d (j+1) j):=by
 rw[insInner,bL (by simp [b,h2])]
theorem BB {α:Type}[Inhabited α]{lt:α->α->Bool}{d:Array α}(h2:lt d[j+1]! d[j]! =false):insInner lt a (j+1) d=d:=by
 rw[insInner,bV (by simp [h2])]
theorem AR {α:Type}[Inhabited α]{lt:α->α->Bool}{d:Array α}(h:j<=a):insInner lt a j d=d:=by
 cases j with
 |zero=>rfl
 |succ j=>rw[insInner,bV siO]
theorem Di {α:Type}[Inhabited α][O:cG α](h:H)(S N a b:Nat)(d:Array α)(x:uF)(hN:N<1000000)(A:iY h S N d)(hb:b<=N)(P:a<=b):
  Ev T (cG.ρ α 247) [.sl S 0 N x,aC a,aC b,.fn (cG.f α) [] []] h (λ_ h'=>iY h' S N (insertionSort cG.lt d a b)/\Fx (· =S) h h'):=by
 refine mG (tI (α:=α) dZ.ok deC) rfl ?_
 simp(disch:=omega)only[go_sem,dZ,aI]
 rw[eJ a]
 refine aH (λr c s=> ∃(i:Nat) (e:Array α),(∃g:Nat->V,c= [.sl S 0 N x,aC a,aC b,.fn (cG.f α) [] [],aC i,g 5,g 6,g 7])/\a<i/\i<=b+1/\iY s S N e/\insOuter cG.lt a b i e=insertionSort cG.lt d a b/\Fx (· =S) h s/\r=b+1-i) (b+1-(a+1))
  ⟨a+1,d,aB rfl,om,om,A,rfl,Fx.refl _ h,rfl⟩ ?_
 clear A
 rintro r c h1 ⟨i,e,⟨g,rfl⟩,K,Q,A,n,F,rfl⟩
 refine aM ?_
 by_cases q:(i:Int)<(b:Int)
 case neg=>
  rw[bT q];refine aM ?_;rw[insOuter,bV om] at n;rw[<-n];exact⟨A,F⟩
 rw[cJ q]
 rw[insOuter,bL om] at n
 refine aM ?_
 refine aH (λr c s=> ∃(j:Nat) (k:Array α),(∃g:Nat->V,c= [.sl S 0 N x,aC a,aC b,.fn (cG.f α) [] [],aC i,aC j,g 6,g 7])/\a<=j/\j<=i/\iY s S N k/\insInner cG.lt a j k=insInner cG.lt a i e/\Fx (· =S) h s/\r=j) i
  ⟨i,e,aB rfl,om,om,A,rfl,F,rfl⟩ ?_
 clear A F
 rintro r c o ⟨j,k,⟨g2,rfl⟩,L,a0,A,p,F,hk⟩
 have sz:=A.size
 by_cases t:(a:Int)<(j:Int)
 .obtain⟨m,rfl⟩: ∃m,j=m+1:=⟨j- 1,om⟩
  have R:=A.rd (i:=m+1) om
  have U:=A.rd (i:=m) om
  have w:=cJ t
  have y:((m+1:Nat):Int)- 1=(m:Int):=om
  refine gX w y R U ?_
  refine (jQ A (i:=m+1) (j:=m) om om _ om).mono ?_
  rintro _ G ⟨z,rfl,B,v⟩
  have l:Fr o G:=Fr.trans ((Fr.refl o).bU om) v
  have u:=A.fr l
  have Y:=u.rd (i:=m+1) om
  have Z:=u.rd (i:=m) om
  cases hl:cG.lt k[m+1]! k[m]! with
  |false=>
   rw[BB hl] at p;refine cU B hl ?_;rw[eJ i];rw[<-p] at n;exact⟨b+1-(i+1),om,i+1,k,aB rfl,om,om,u,n,oL F (Fx.of l),rfl⟩
  |true=>
   rw[BI om hl] at p;refine qL B hl y Y Z @u.get @fK @eX ?_;have W:=u.swap (i:=m+1) (j:=m) (nx:=G.next+18) om rfl;exact⟨m,om,m,_,aB rfl,om,om,W.1,p,oL (oL F (Fx.of l)) W.2,rfl⟩
 .have w:=bT t
  rw[AR om] at p
  refine bE w ?_
  rw[eJ i]
  rw[<-p] at n
  have J:Fr o (H.mk o.tr (o.next+17)):=(Fr.refl o).bU om
  exact⟨b+1-(i+1),om,i+1,k,aB rfl,om,om,A.fr J,n,oL F (Fx.of J),rfl⟩
end
def chd {α:Type}[Inhabited α](lt:α->α->Bool)(hi first root:Nat)(d:Array α):Nat:=if 2*root+1+1<hi/\lt d[first+(2*root+1)]! d[first+(2*root+1)+1]! =true then 2*root+2 else 2*root+1
theorem DD {α:Type}[Inhabited α]{lt:α->α->Bool}(hi first a:Nat)(d:Array α):siftDown lt hi first a d=if 2*a+1>=hi then d else
  if lt d[first+a]! d[first+chd lt hi first a d]! =true then siftDown lt hi first (chd lt hi first a d) (swp d (first+a) (first+chd lt hi first a d)) else d:=by
 rw[siftDown]
 unfold chd
 by_cases b:2*a+1>=hi
 .rw[dif_pos b,bL b]
 .rw[dif_neg b,bV b]
  by_cases c:2*a+1+1<hi/\lt d[first+(2*a+1)]! d[first+(2*a+1)+1]! =true
  .rw[bL (by simpa using c),bL c]
   cases h3:lt d[first+a]! d[first+(2*a+2)]!
   .simp
   .simp [show 2*a+2<hi by omega]
  .rw[bV (by simpa using c),bV c]
   cases h3:lt d[first+a]! d[first+(2*a+1)]! <;>simp
theorem Hf  {α:Type}[Inhabited α][O:cG α](h:H)(S N x hi first:Nat)(d:Array α)(cp:uF)(hN:N<1000000)(A:iY h S N d)(hb:first+hi<=N)(a0:x<=hi):
  Ev T (cG.ρ α 260) [.sl S 0 N cp,aC x,aC hi,aC first,.fn (cG.f α) [] []] h (λ_ h'=>iY h' S N (siftDown cG.lt hi first x d)/\Fx (· =S) h h'):=by
 refine mG (tI (α:=α) fC.ok deC) rfl ?_
 simp(disch:=omega)only[go_sem,fC,aI]
 refine aH (λk' q hh=> ∃(r:Nat) (e:Array α),(∃g:Nat->V,q= [.sl S 0 N cp,aC x,aC hi,aC first,.fn (cG.f α) [] [],aC r,g 6,g 7,g 8,g 9])/\r<=hi/\iY hh S N e/\siftDown cG.lt hi first r e=siftDown cG.lt hi first x d/\Fx (· =S) h hh/\k'=hi-r) (hi-x)
  ⟨x,d,aB rfl,a0,A,rfl,Fx.refl _ h,rfl⟩ ?_
 clear A
 rintro k' q s ⟨r,e,⟨g,rfl⟩,hr,A,a,F,rfl⟩
 have Q:2*(r:Int)+1=((2*r+1:Nat):Int):=om
 by_cases y:(hi:Int)<=((2*r+1:Nat):Int)
 .have P:=cJ y
  refine cU Q P ?_
  rw[DD,bL om] at a
  rw[<-a]
  exact⟨A,F⟩
 have P:=bT y
 rw[DD,bV om] at a
 have R:((2*r+1:Nat):Int)+1=((2*r+2:Nat):Int):=om
 have c:(first:Int)+(r:Int)=((first+r:Nat):Int):=om
 have l:(first:Int)+((2*r+1:Nat):Int)=((first+(2*r+1):Nat):Int):=om
 have L:(first:Int)+((2*r+2:Nat):Int)=((first+(2*r+2):Nat):Int):=om
 have U:((first+(2*r+1):Nat):Int)+1=((first+(2*r+1)+1:Nat):Int):=om
 have sz:=A.size
 by_cases J:((2*r+2:Nat):Int)<(hi:Int)
 .have Y:=cJ J
  have p:=A.rd (i:=first+(2*r+1)) om
  have G:=A.rd (i:=first+(2*r+1)+1) om
  refine qL Q P R Y l U p G ?_
  refine (jQ A (i:=first+(2*r+1)) (j:=first+(2*r+1)+1) om om _ om).mono ?_
  rintro _ B ⟨z,rfl,k,Z⟩
  have K:Fr s B:=Fr.trans ((Fr.refl s).bU om) Z
  have u:=A.fr K
  have o:=u.rd (i:=first+r) om
  have p:=u.rd (i:=first+(2*r+1)) om
  have G:=u.rd (i:=first+(2*r+2)) om
  cases hl:cG.lt e[first+(2*r+1)]! e[first+(2*r+1)+1]! with
  |false=>
   have n:chd cG.lt hi first r e=2*r+1:=bV (by rw[hl];simp)
   rw[n] at a;refine kA k hl c l o p ?_;refine (jQ u (i:=first+r) (j:=first+(2*r+1)) om om _ om).mono ?_;rintro _ t ⟨z,rfl,k,m⟩;have v:Fr B t:=Fr.trans ((Fr.refl B).bU om) m;have b:=u.fr v;have o:=b.rd (i:=first+r) om;have p:=b.rd (i:=first+(2*r+1)) om;have w:=oL (oL F (Fx.of K)) (Fx.of v)
   cases hl2:cG.lt e[first+r]! e[first+(2*r+1)]! with
   |false=>
    rw[bV (by rw[hl2];simp)] at a;refine cU k hl2 ?_;rw[<-a];exact⟨b,w⟩
   |true=>
    rw[bL hl2] at a;refine uG k hl2 c l o p @b.get @fK @eX ?_;have W:=b.swap (i:=first+r) (j:=first+(2*r+1)) (nx:=t.next+24) om rfl;exact⟨hi-(2*r+1),om,2*r+1,_,aB rfl,om,W.1,a,oL w W.2,rfl⟩
  |true=>
   have n:chd cG.lt hi first r e=2*r+2:=bL ⟨om,hl⟩
   rw[n] at a;refine uA k hl R c L o G ?_;refine (jQ u (i:=first+r) (j:=first+(2*r+2)) om om _ om).mono ?_;rintro _ t ⟨z,rfl,k,m⟩;have v:Fr B t:=Fr.trans ((Fr.refl B).bU om) m;have b:=u.fr v;have o:=b.rd (i:=first+r) om;have G:=b.rd (i:=first+(2*r+2)) om;have w:=oL (oL F (Fx.of K)) (Fx.of v)
   cases hl2:cG.lt e[first+r]! e[first+(2*r+2)]! with
   |false=>
    rw[bV (by rw[hl2];simp)] at a;refine cU k hl2 ?_;rw[<-a];exact⟨b,w⟩
   |true=>
    rw[bL hl2] at a;refine uG k hl2 c L o G @b.get @fK @eX ?_;have W:=b.swap (i:=first+r) (j:=first+(2*r+2)) (nx:=t.next+24) om rfl;exact⟨hi-(2*r+2),om,2*r+2,_,aB rfl,om,W.1,a,oL w W.2,rfl⟩
 .have Y:=bT J
  have n:chd cG.lt hi first r e=2*r+1:=bV om
  rw[n] at a
  have K:Fr s (H.mk s.tr (s.next+20)):=(Fr.refl s).bU om
  have u:=A.fr K
  have o:=A.rd (i:=first+r) om
  have p:=A.rd (i:=first+(2*r+1)) om
  refine qL Q P R Y c l o p ?_
  refine (jQ A (i:=first+r) (j:=first+(2*r+1)) om om _ om).mono ?_
  rintro _ t ⟨z,rfl,k,m⟩
  have v:Fr s t:=Fr.trans ((Fr.refl s).bU om) m
  have b:=A.fr v
  have o:=b.rd (i:=first+r) om
  have p:=b.rd (i:=first+(2*r+1)) om
  have w:=oL F (Fx.of v)
  cases hl2:cG.lt e[first+r]! e[first+(2*r+1)]! with
  |false=>
   rw[bV (by rw[hl2];simp)] at a;refine cU k hl2 ?_;rw[<-a];exact⟨b,w⟩
  |true=>
   rw[bL hl2] at a;refine uG k hl2 c l o p @b.get @fK @eX ?_;have W:=b.swap (i:=first+r) (j:=first+(2*r+1)) (nx:=t.next+24) om rfl;exact⟨hi-(2*r+1),om,2*r+1,_,aB rfl,om,W.1,a,oL w W.2,rfl⟩
theorem Wj  {α:Type}[Inhabited α][O:cG α](h:H)(S N a b:Nat)(d:Array α)(u:uF)(B:N<1000000)(A:iY h S N d)(hb:b<=N)(G:a<=b):
  Ev T (cG.ρ α 248) [.sl S 0 N u,aC a,aC b,.fn (cG.f α) [] []] h (λ_ h'=>iY h' S N (heapSort cG.lt d a b)/\Fx (· =S) h h'):=by
 refine mG (tI (α:=α) fF.ok deC) rfl ?_
 obtain⟨n,U⟩:=exI (b-a)
 have R:(b:Int)-(a:Int)=(n:Int):=om
 have Y:((n:Int)- 1).tdiv 2=(((n- 1)/2+1:Nat):Int)- 1:=by
  by_cases J:n=0
  .subst J;decide
  .rw[Int.tdiv_eq_ediv_of_nonneg om];omega
 simp(disch:=omega)only[go_sem,fF,aI,R,Y]
 refine aH (λo c t=> ∃(k:Nat) (e:Array α),(∃g:Nat->V,c= [.sl S 0 N u,aC a,aC b,.fn (cG.f α) [] [],aC a,aC 0,aC n,aC ((k:Int)- 1),g 8,g 9,g 10])/\k<=n+1/\(k=1\/k<=n)/\iY t S N e/\heapBuild cG.lt n a k e=heapBuild cG.lt n a ((n- 1)/2+1) d/\Fx (· =S) h t/\o=k) ((n- 1)/2+1)
  ⟨(n- 1)/2+1,d,aB rfl,om,om,A,rfl,Fx.refl _ h,rfl⟩ ?_
 clear A
 rintro o c K ⟨k,e,⟨g,rfl⟩,q,x,A,w,F,y⟩
 subst y
 by_cases l:(0:Int)<=(o:Int)- 1
 .have p:=cJ l
  obtain⟨m,rfl⟩: ∃m,o=m+1:=⟨o- 1,om⟩
  have s:((m+1:Nat):Int)- 1=(m:Int):=om
  rw[s] at p
  rw[s]
  refine bE p ?_
  refine (Hf K S N m n a e u B A om om).mono ?_
  rintro _ z ⟨A2,F2⟩
  refine aM ?_
  exact⟨m,om,m,_,aB rfl,om,om,A2,w,oL F F2,rfl⟩
 have p:=bT l
 obtain rfl:o=0:=om
 have w:e=heapBuild cG.lt n a ((n- 1)/2+1) d:=w
 refine bE p ?_
 refine aH (λo c t=> ∃(k:Nat) (r:Array α),(∃g:Nat->V,c= [.sl S 0 N u,aC a,aC b,.fn (cG.f α) [] [],aC a,aC 0,aC n,g 7,aC ((k:Int)- 1),g 9,g 10])/\k<=n/\iY t S N r/\heapPop cG.lt a k r=heapPop cG.lt a n e/\Fx (· =S) h t/\o=k) n
  ⟨n,e,aB rfl,om,A,rfl,F,rfl⟩ ?_
 clear A F l p q x
 rintro o c z ⟨k,r,⟨g,rfl⟩,q,A,v,F,y⟩
 subst y
 have sz:=A.size
 by_cases l:(0:Int)<=(o:Int)- 1
 .have p:=cJ l
  obtain⟨m,rfl⟩: ∃m,o=m+1:=⟨o- 1,om⟩
  have s:((m+1:Nat):Int)- 1=(m:Int):=om
  rw[s] at p
  rw[s]
  have e3:(a:Int)+(m:Int)=((a+m:Nat):Int):=om
  have P:=A.rd (i:=a+m) om
  have Q:=A.rd (i:=a) om
  refine uA p e3 P Q @A.get @fK @eX ?_
  have W:=A.swap (i:=a) (j:=a+m) (nx:=z.next+20) om rfl
  have L:=Hf _ S N 0 m a _ u B W.1 om om
  refine L.mono ?_
  rintro _ h3 ⟨Z,F3⟩
  refine aM ?_
  exact⟨m,om,m,_,aB rfl,om,Z,v,oL (oL F W.2) F3,rfl⟩
 have p:=bT l
 obtain rfl:o=0:=om
 refine bE p ?_
 have v:r=heapPop cG.lt a n e:=v
 have:heapSort cG.lt d a b=r:=by unfold heapSort;rw[U,v,w]
 rw[this]
 exact⟨A,F⟩
theorem iY.fxo  {α:Type}[Inhabited α][O:cG α]{h h':H}{S N R:Nat}{d:Array α}(A:iY h S N d)(f:Fx (· =R) h h')(b:R≠S)(a:cG.b0 α<=R):iY h' S N d:=⟨by rw[f.get S A.lt (λe=>b e.symm)];exact A.get,A.size,kQ A.lt f.next,A.eqS,O.bR _ _ _ A.base a f,A.all⟩
theorem AK  {α:Type}[Inhabited α][O:cG α](h:H)(S N a b:Nat)(d:Array α)(p:uF)(x:N<1000000)(A:iY h S N d)(w:b<=N)(r:a<b):
  Ev T (cG.ρ α 251) [.sl S 0 N p,aC a,aC b,.fn (cG.f α) [] []] h (λ_ h'=>iY h' S N (reverseRange d a b)/\Fx (· =S) h h'):=by
 refine mG (tI (α:=α) eD.ok deC) rfl ?_
 have u:(b:Int)- 1=((b- 1:Nat):Int):=om
 simp(disch:=omega)only[go_sem,eD,aI,u]
 refine aH (λc k o=> ∃(i j:Nat) (e:Array α),(∃g:Nat->V,k= [.sl S 0 N p,aC a,aC b,aC i,aC j,g 5])/\j<b/\i<=b/\iY o S N e/\reverseLoop i j e=reverseLoop a (b- 1) d/\Fx (· =S) h o/\c=j) (b- 1)
  ⟨a,b- 1,d,aB rfl,om,om,A,rfl,Fx.refl _ h,rfl⟩ ?_
 clear A
 rintro c k t ⟨i,j,e,⟨g,rfl⟩,y,hi,A,m,F,s⟩
 subst s
 have sz:=A.size
 rw[reverseLoop] at m
 by_cases l:(i:Int)<(c:Int)
 .have n:=cJ l
  rw[bL om] at m
  have v:=A.rd (i:=i) om
  have q:=A.rd (i:=c) om
  refine kA n v q @A.get @fK @eX ?_
  have W:=A.swap (i:=i) (j:=c) (nx:=t.next+16) om rfl
  rw[show (i:Int)+1=((i+1:Nat):Int) from om,show (c:Int)- 1=((c- 1:Nat):Int) from om]
  exact⟨c- 1,om,i+1,c- 1,_,aB rfl,om,om,W.1,m,oL F W.2,rfl⟩
 have n:=bT l
 rw[bV om] at m
 refine bE n ?_
 unfold reverseRange
 rw[<-m]
 exact⟨A,F⟩
theorem NN (n:Nat){k:Int}{m:Nat}(a:k=(m:Int)):(n:Int).tdiv k=((n/m:Nat):Int):=by
 rw[a,Int.tdiv_eq_ediv_of_nonneg om];rfl
theorem LF  {α:Type}[Inhabited α][O:cG α](h:H)(S N a b:Nat)(d:Array α)(cp:uF)(hN:N<60000)(A:iY h S N d)(hb:b<=N)(a5:a<=b):
  Ev T (cG.ρ α 249) [.sl S 0 N cp,aC a,aC b,.fn (cG.f α) [] []] h (λ_ h'=> ∃e,iY h' S N e/\PermIn a b d e/\Fx (· =S) h h'):=by
 refine mG (tI (α:=α) dK.ok deC) rfl ?_
 obtain⟨n,hn⟩:=exI (b-a)
 have en:(b:Int)-(a:Int)=(n:Int):=om
 by_cases h8:(8:Int)<=(n:Int)
 case neg=>
  have e8:=bT h8;simp(disch:=omega)only[go_sem,dK,aI,en,e8];exact⟨d,A,permIn_refl d a b,Fx.refl _ h⟩
 have e8:=cJ h8
 have K:=NN n (k:=4) (m:=4) rfl
 obtain⟨q,hq⟩:=exI (n/4)
 rw[hq] at K
 have ei:(a:Int)+(q:Int)*2- 1=((a+q*2- 1:Nat):Int):=om
 have ej:(a:Int)+(q:Int)*2+1=((a+q*2+1:Nat):Int):=om
 have hp:=two_pow_bitsLen_le (show 0<n by omega)
 have a0:=lt_two_pow_bitsLen n
 obtain⟨m,hm⟩:=exI (2^bitsLen n)
 rw[hm] at hp a0
 obtain⟨R,hR⟩:=exI h.next
 have a2:R≠S:=by have:=A.lt;omega
 have a1:cG.b0 α<=R:=by have:=O.bn _ A.base;omega
 have Y: ∀c:H,eH (bG [.int .u64 0]) c R 0 [.int .u64 (n:Int)]=some (c.set R (bG [.int .u64 (n:Int)])):=λc=>cF siM c R _
 have s:(h.new (.cells false [.int .u64 0])).get R=bG [.int .u64 0]:=by rw[<-hR,H.aQ]
 simp(disch:=omega)only[go_sem,dK,aI,en,e8,hR,jC (n:=(n:Int)) om om,s,Y]
 obtain⟨o,l⟩: ∃o,o=(h.new (.cells false [.int .u64 0])).set R (bG [.int .u64 (n:Int)]):=⟨_,rfl⟩
 rw[<-l]
 have g1:o.get R=bG [.int .u64 (n:Int)]:=by rw[l,H.aW]
 have n1:o.next=R+1:=by rw[l,H.dE,H.aZ,hR]
 have P:Fr h o:=by rw[l];exact ((Fr.refl h).new _).set om _
 clear l
 refine (VN n o om).mono ?_
 rintro _ a6 ⟨rfl,c⟩
 rw[c,hm]
 refine cU K ei ?_
 refine aH (λk' r c=> ∃(i:Nat) (e:Array α) (x:Int),(∃g:Nat->V,r= [.sl S 0 N cp,aC a,aC b,aC n,.ptr R 0,.int .u64 (m:Int),aC i,g 7,g 8,g 9,g 10])/\a<=i/\i<=a+q*2+2/\iY c S N e/\PermIn a b d e/\c.get R=bG [.int .u64 x]/\R<c.next/\Fx (· =S) h c/\k'=a+q*2+2-i) (a+q*2+2-(a+q*2- 1))
  ⟨a+q*2- 1,d,_,aB rfl,om,om,A.fr P,permIn_refl d a b,g1,om,Fx.of P,rfl⟩ ?_
 clear A g1 n1 P c o
 rintro k' r o ⟨i,e,x,⟨g,rfl⟩,B,a3,A,hP,gR,nR,F,rfl⟩
 by_cases G:(i:Int)<=((a+q*2+1:Nat):Int)
 case neg=>
  have Z:=bT G;refine dQ K ej Z ?_;exact⟨e,A,hP,F⟩
 have Z:=cJ G
 refine dQ K ej Z ?_
 refine (abF R x o gR nR).mono ?_
 rintro _ J ⟨y,rfl,v,F2⟩
 have p:=A.fxo F2 a2 a1
 obtain⟨w,hw,a4⟩:=XC y (m- 1) om
 have em:(m:Int)- 1=((m- 1:Nat):Int):=om
 have sz:=p.size
 have t:Fx (· =S) h J:=⟨kP F.next F2.next,λid h3 h4=>(F2.get id (kQ h3 F.next) (λe=>by have:id=R:=e;omega)).trans (F.get id h3 h4)⟩
 have u:R<J.next:=kQ nR F2.next
 by_cases z:(n:Int)<=(w:Int)
 .have Q:=cJ z
  have e3:(w:Int)-(n:Int)=((w-n:Nat):Int):=om
  have L:(a:Int)+((w-n:Nat):Int)=((a+(w-n):Nat):Int):=om
  have c1:=p.rd (i:=i) om
  have U:=p.rd (i:=a+(w-n)) om
  simp(disch:=omega)only[go_sem,em,jC (n:=((m- 1:Nat):Int)) om om,hw,Q,e3,L,c1,U,p.get,fK,eX]
  have W:=p.swap (i:=i) (j:=a+(w-n)) (nx:=J.next+20) om rfl
  rw[eJ i]
  refine⟨a+q*2+2-(i+1),om,i+1,_,y,aB rfl,om,om,W.1,permIn_trans _ _ _ a b hP (swp_permIn e a b i (a+(w-n)) B om om om om),?_,kQ u W.2.next,oL t W.2,rfl⟩
  exact v
 .have Q:=bT z
  have L:(a:Int)+(w:Int)=((a+w:Nat):Int):=om
  have c1:=p.rd (i:=i) om
  have U:=p.rd (i:=a+w) om
  simp(disch:=omega)only[go_sem,em,jC (n:=((m- 1:Nat):Int)) om om,hw,Q,L,c1,U,p.get,fK,eX]
  have W:=p.swap (i:=i) (j:=a+w) (nx:=J.next+20) om rfl
  rw[eJ i]
  refine⟨a+q*2+2-(i+1),om,i+1,_,y,aB rfl,om,om,W.1,permIn_trans _ _ _ a b hP (swp_permIn e a b i (a+w) B om om om om),?_,kQ u W.2.next,oL t W.2,rfl⟩
  exact v
structure Chs (h h':H)(R:Nat):Prop where
 get: ∃s,h'.get R=bG [aC s]
 fx:Fx (· =R) h h'
theorem Chs.trans {a b c:H}{R:Nat}(x:Chs a b R)(y:Chs b c R):Chs a c R:=⟨y.get,x.fx.trans y.fx λ_ _ h=>h⟩
theorem En  {α:Type}[Inhabited α][O:cG α](h:H)(S N a b R:Nat)(d:Array α)(x:uF)(J:N<1000000)(A:iY h S N d)(F:a<N)(B:b<N)(G:R≠S)(o:R<h.next)(t:cG.b0 α<=R)(s:Int)(u:h.get R=bG [aC s]):
  Ev T (cG.ρ α 264) [.sl S 0 N x,aC a,aC b,.ptr R 0,.fn (cG.f α) [] []] h (λv h'=>(v= .tup [aC a,aC b]\/v= .tup [aC b,aC a])/\Chs h h' R):=by
 refine mG (tI (α:=α) fM.ok deC) rfl ?_
 have y:=A.rd (i:=a) om
 have q:=A.rd (i:=b) om
 simp(disch:=omega)only[go_sem,fM,aI,y,q]
 refine (jQ A (i:=b) (j:=a) om om _ om).mono ?_
 rintro _ k ⟨z,rfl,p,m⟩
 have n:Fr h k:=Fr.trans ((Fr.refl h).bU om) m
 have c:k.get R=bG [aC s]:=by rw[n.get R o];exact u
 cases hl:cG.lt d[b]! d[a]! with
 |false=>
  refine cU p hl ?_;exact⟨.inl trivial,⟨s,c⟩,Fx.of n⟩
 |true=>
  have cR:k.cell R 0=some (aC s):=by rw[H.cell_of c];rfl
  have r:(w:Int)->(l:H)->eH (bG [aC s]) l R 0 [aC w]=some (l.set R (bG [aC w])):=λw l=>cF siM l R _
  simp(disch:=omega)only[go_sem,p,hl,cR,c,r];exact⟨.inr trivial,⟨_,by rw[H.aW]⟩,(Fx.of (W:=(· =R)) n).trans (Fx.set k (W:=(· =R)) rfl _) (λ_ _ h=>h)⟩
theorem Mu  {α:Type}[Inhabited α][O:cG α](h:H)(S N a b c R:Nat)(d:Array α)(q:uF)(G:N<1000000)(A:iY h S N d)(F:a<N)(u:b<N)(W:c<N)(l:R≠S)(k:R<h.next)(i:cG.b0 α<=R)(s:Int)(gR:h.get R=bG [aC s]):
  Ev T (cG.ρ α 262) [.sl S 0 N q,aC a,aC b,aC c,.ptr R 0,.fn (cG.f α) [] []] h (λv h'=>(∃m,v= aC (m:Nat)/\(m=a\/m=b\/m=c))/\Chs h h' R):=by
 refine mG (tI (α:=α) fP.ok deC) rfl ?_
 simp(disch:=omega)only[go_sem,fP,aI]
 refine (En h S N a b R d q G A F u l k i s gR).mono ?_
 rintro v1 h1 ⟨t,p⟩
 obtain⟨U,o,rfl,z,j,Q⟩: ∃x y,v1= .tup [aC (x:Nat),aC (y:Nat)]/\x<N/\y<N/\((x=a\/x=b)/\(y=a\/y=b)):=by
  rcases t with rfl|rfl
  .exact⟨a,b,rfl,F,u,.inl rfl,.inr rfl⟩
  .exact⟨b,a,rfl,u,F,.inr rfl,.inl rfl⟩
 have J:=A.fxo p.fx l i
 obtain⟨s1,g1⟩:=p.get
 have P:=kQ k p.fx.next
 refine aM ?_
 refine (En h1 S N o c R d q G J j W l P i s1 g1).mono ?_
 rintro v2 Y ⟨w,n⟩
 obtain⟨L,y2,rfl,r,K⟩: ∃x y,v2= .tup [aC (x:Nat),aC (y:Nat)]/\x<N/\(x=o\/x=c):=by
  rcases w with rfl|rfl
  .exact⟨o,c,rfl,j,.inl rfl⟩
  .exact⟨c,o,rfl,W,.inr rfl⟩
 have A2:=J.fxo n.fx l i
 obtain⟨s2,Z⟩:=n.get
 have n2:=kQ P n.fx.next
 refine aM ?_
 refine (En Y S N U L R d q G A2 z r l n2 i s2 Z).mono ?_
 rintro v3 h3 ⟨B,C3⟩
 have C:=(p.trans n).trans C3
 rcases B with rfl|rfl
 .refine aM ?_
  exact⟨⟨L,rfl,om⟩,C⟩
 .refine aM ?_
  exact⟨⟨U,rfl,om⟩,C⟩
theorem Bk  {α:Type}[Inhabited α][O:cG α](h:H)(S N a R:Nat)(d:Array α)(i:uF)(p:N<1000000)(A:iY h S N d)(t:0<a)(q:a+1<N)(l:R≠S)(c:R<h.next)(b:cG.b0 α<=R)(s:Int)(n:h.get R=bG [aC s]):
  Ev T (cG.ρ α 261) [.sl S 0 N i,aC a,.ptr R 0,.fn (cG.f α) [] []] h (λv h'=>(∃m,v= aC (m:Nat)/\(m=a- 1\/m=a\/m=a+1))/\Chs h h' R):=by
 refine mG (tI (α:=α) dY.ok deC) rfl ?_
 have k:(a:Int)- 1=((a- 1:Nat):Int):=om
 have o:(a:Int)+1=((a+1:Nat):Int):=om
 simp(disch:=omega)only[go_sem,dY,aI,k,o]
 refine (Mu h S N (a- 1) a (a+1) R d i p A om om om l c b s n).mono ?_
 rintro _ r ⟨⟨m,rfl,j⟩,C⟩
 refine aM ?_
 exact⟨⟨m,rfl,j⟩,C⟩
theorem NH  {α:Type}[Inhabited α][O:cG α](h:H)(S N a b:Nat)(d:Array α)(J:uF)(Z:N<1000000)(A:iY h S N d)(hb:b<=N)(a1:a<b):
  Ev T (cG.ρ α 250) [.sl S 0 N J,aC a,aC b,.fn (cG.f α) [] []] h (λv h'=> ∃(p:Nat) (t:Int),v= .tup [aC p,aC t]/\a<=p/\p<b/\Fr h h'):=by
 refine mG (tI (α:=α) cY.ok deC) rfl ?_
 obtain⟨n,hn⟩:=exI (b-a)
 have en:(b:Int)-(a:Int)=(n:Int):=om
 have W:=NN n (k:=4) (m:=4) rfl
 obtain⟨q,hq⟩:=exI (n/4)
 rw[hq] at W
 have ei:(a:Int)+(q:Int)*1=((a+q:Nat):Int):=om
 have ej:(a:Int)+(q:Int)*2=((a+q*2:Nat):Int):=om
 have ek:(a:Int)+(q:Int)*3=((a+q*3:Nat):Int):=om
 obtain⟨R,U⟩:=exI h.next
 have l:R≠S:=by have:=A.lt;omega
 have c:cG.b0 α<=R:=by have:=O.bn _ A.base;omega
 obtain⟨s,r⟩: ∃s,s=h.new (.cells false [aC 0]):=⟨_,rfl⟩
 have g1:s.get R=bG [aC 0]:=by rw[r,<-U,H.aQ]
 have n1:s.next=R+1:=by rw[r,H.aZ,U]
 have f1:Fr h s:=by rw[r];exact (Fr.refl h).new _
 have A1:=A.fr f1
 have L:(p:Nat)->(o:H)->a<=p->p<b->Fx (· =R) s o->a<=p/\p<b/\Fr h o:=λp o x1 x2 x3=>⟨x1,x2,kP f1.next x3.next,λid a0=>(x3.get id om (λe=>by have:id=R:=e;omega)).trans (f1.get id a0)⟩
 by_cases h8:(8:Int)<=(n:Int)
 case neg=>
  have Y:=bT h8;simp(disch:=omega)only[go_sem,cY,aI,en,W,ei,ej,ek,Y];rw[<-r];have cR:s.cell R 0=some (aC 0):=by rw[H.cell_of g1];rfl
  simp(disch:=omega)only[go_sem,U,cR];refine bI (λ_=>?_) (λhc=>(hc (by trivial)).elim);refine aM ?_;exact⟨a+q*2,1,rfl,L _ _ om om (Fx.refl _ _)⟩
 have Y:=cJ h8
 have w:(i j k:Nat)->(o:H)->(P:Int)->a<=i->i<b->a<=j->j<b->a<=k->k<b->iY o S N d->o.get R=bG [aC P]->R<o.next->Fx (· =R) s o->
   Ev T (cG.ρ α 262) [.sl S 0 N J,aC i,aC j,aC k,.ptr R 0,.fn (cG.f α) [] []] o (λv h'=> ∃p u,v= aC (p:Nat)/\a<=p/\p<b/\h'.get R=bG [aC u]/\Fr h h'):=by
  intro i j k o P i1 i2 j1 j2 k1 k2 A2 g2 n2 F2
  refine (Mu o S N i j k R d J Z A2 om om om l n2 c P g2).mono ?_
  rintro _ y ⟨⟨p,rfl,hp⟩,⟨u,G⟩,K⟩
  exact⟨p,u,rfl,om,om,G,(L p y om om (F2.trans K λ_ _ h=>h)).2.2⟩
 by_cases Q:(50:Int)<=(n:Int)
 case neg=>
  have F:=bT Q;simp(disch:=omega)only[go_sem,cY,aI,en,W,ei,ej,ek,Y,F];rw[<-r];refine bE U ?_;refine (w (a+q) (a+q*2) (a+q*3) s 0 om om om om om om A1 g1 om (Fx.refl _ _)).mono ?_;rintro _ y ⟨p,u,rfl,z,x,G,B⟩;have cR:y.cell R 0=some (aC u):=by rw[H.cell_of G];rfl
  simp(disch:=omega)only[go_sem,cR];refine bI (λ_=>?_) (λ_=>?_)
  .refine aM ?_
   exact⟨p,1,rfl,z,x,B⟩
  .refine aM ?_
   refine bI (λ_=>?_) (λ_=>?_)
   .refine aM ?_
    exact⟨p,2,rfl,z,x,B⟩
   .refine aM ?_
    exact⟨p,0,rfl,z,x,B⟩
 have F:=cJ Q
 simp(disch:=omega)only[go_sem,cY,aI,en,W,ei,ej,ek,Y,F]
 rw[<-r]
 refine bE U ?_
 refine (Bk s S N (a+q) R d J Z A1 om om l om c 0 g1).mono ?_
 rintro _ o ⟨⟨i,rfl,hi⟩,⟨P,g2⟩,F2⟩
 have A2:=A1.fxo F2 l c
 have n2:=F2.next
 refine aM ?_
 refine (Bk o S N (a+q*2) R d J Z A2 om om l om c P g2).mono ?_
 rintro _ y ⟨⟨j,rfl,hj⟩,⟨u,G⟩,K⟩
 have A3:=A2.fxo K l c
 have n3:=K.next
 refine aM ?_
 refine (Bk y S N (a+q*3) R d J Z A3 om om l om c u G).mono ?_
 rintro _ h4 ⟨⟨k,rfl,hk⟩,⟨s4,g4⟩,F4⟩
 have A4:=A3.fxo F4 l c
 have n4:=F4.next
 refine aM ?_
 refine (w i j k h4 s4 om om om om om om A4 g4 om ((F2.trans K λ_ _ h=>h).trans F4 λ_ _ h=>h)).mono ?_
 rintro _ y ⟨p,u,rfl,z,x,G,B⟩
 have cR:y.cell R 0=some (aC u):=by rw[H.cell_of G];rfl
 simp(disch:=omega)only[go_sem,cR]
 refine bI (λ_=>?_) (λ_=>?_)
 .refine aM ?_
  exact⟨p,1,rfl,z,x,B⟩
 .refine aM ?_
  refine bI (λ_=>?_) (λ_=>?_)
  .refine aM ?_
   exact⟨p,2,rfl,z,x,B⟩
  .refine aM ?_
   exact⟨p,0,rfl,z,x,B⟩
section
variable {j b:Nat}
theorem agJ {α:Type}[Inhabited α]{lt:α->α->Bool}{d:Array α}(h:lt d[j+1]! d[j]! =true):shiftDown lt (j+1) d=shiftDown lt j (swp d (j+1) j):=by rw[shiftDown,bV (by simp [h])]
theorem agT {α:Type}[Inhabited α]{lt:α->α->Bool}{d:Array α}(h:lt d[j+1]! d[j]! =false):shiftDown lt (j+1) d=d:=by rw[shiftDown,bL (by simp [h])]
theorem agL {α:Type}[Inhabited α]{lt:α->α->Bool}{d:Array α}(a:j<b)(h:lt d[j]! d[j- 1]! =true):shiftUp lt b j d=shiftUp lt b (j+1) (swp d j (j- 1)):=by rw[shiftUp,bL a,bV (by simp [h])]
theorem agB {α:Type}[Inhabited α]{lt:α->α->Bool}{d:Array α}(a:j<b)(h:lt d[j]! d[j- 1]! =false):shiftUp lt b j d=d:=by rw[shiftUp,bL a,bL (by simp [h])]
theorem agU {α:Type}[Inhabited α]{lt:α->α->Bool}{i:Nat}{d:Array α}(hi:i<b)(h:lt d[i]! d[i- 1]! =false):scanSorted lt d b i=scanSorted lt d b (i+1):=by rw[scanSorted,bL (by simp [h,hi])]
theorem acB {α:Type}[Inhabited α]{lt:α->α->Bool}{i:Nat}{d:Array α}(h: ¬(i<b/\lt d[i]! d[i- 1]! =false)):scanSorted lt d b i=i:=by rw[scanSorted,bV (by simpa using h)]
theorem VZ {α:Type}[Inhabited α](lt:α->α->Bool)(a b s i:Nat)(d:Array α):partialIns lt a b (s+1) i d=if scanSorted lt d b i=b then (d,true) else if b-a<50 then (d,false) else
  partialIns lt a b s (scanSorted lt d b i) (if b-scanSorted lt d b i>=2 then shiftUp lt b (scanSorted lt d b i+1) (if scanSorted lt d b i-a>=2 then shiftDown lt (scanSorted lt d b i- 1) (swp d (scanSorted lt d b i) (scanSorted lt d b i- 1)) else swp d (scanSorted lt d b i) (scanSorted lt d b i- 1)) else
   (if scanSorted lt d b i-a>=2 then shiftDown lt (scanSorted lt d b i- 1) (swp d (scanSorted lt d b i) (scanSorted lt d b i- 1)) else swp d (scanSorted lt d b i) (scanSorted lt d b i- 1))):=by rw[partialIns]
theorem Yr {α:Type}[Inhabited α][O:cG α](h:H)(S N a b:Nat)(d:Array α)(Z:uF)(hN:N<1000000)(A:iY h S N d)(hb:b<=N)(b5:a<b):
  Ev T (cG.ρ α 252) [.sl S 0 N Z,aC a,aC b,.fn (cG.f α) [] []] h (λv h'=>v= .bool (partialInsertionSort cG.lt d a b).2/\iY h' S N (partialInsertionSort cG.lt d a b).1/\Fx (· =S) h h'):=by
 refine mG (tI (α:=α) dO.ok deC) rfl ?_
 simp(disch:=omega)only[go_sem,dO,aI]
 rw[eJ a]
 refine aH (λk c t=> ∃(s i:Nat) (e:Array α),(∃g:Nat->V,c= [.sl S 0 N Z,aC a,aC b,.fn (cG.f α) [] [],g 4,aC i,aC (5-(s:Int)),g 7,g 8,g 9,g 10,g 11,g 12,g 13,g 14,g 15,g 16,g 17,g 18])/\s<=5/\a<i/\i<=b/\iY t S N e/\partialIns cG.lt a b s i e=partialInsertionSort cG.lt d a b/\Fx (· =S) h t/\k=s) 5
  ⟨5,a+1,d,aB rfl,om,om,om,A,rfl,Fx.refl _ h,rfl⟩ ?_
 clear A
 rintro k c h1 ⟨s,i,e,⟨g,rfl⟩,hs,b1,b0,A,l,F,hk⟩
 subst hk
 by_cases K:(5:Int)-(k:Int)<5
 case neg=>
  have n:=bT K;obtain rfl:k=0:=om
  refine bE n ?_;have l:(e,false)=partialInsertionSort cG.lt d a b:=l;rw[<-l];exact⟨rfl,A,F⟩
 have n:=cJ K
 obtain⟨s,rfl⟩: ∃s,k=s+1:=⟨k- 1,om⟩
 refine bE n ?_
 rw[VZ] at l
 refine aH (λk c t=> ∃(m:Nat),(∃g:Nat->V,c= [.sl S 0 N Z,aC a,aC b,.fn (cG.f α) [] [],g 4,aC m,aC (5-((s+1:Nat):Int)),g 7,g 8,g 9,g 10,g 11,g 12,g 13,g 14,g 15,g 16,g 17,g 18])/\a<m/\m<=b/\iY t S N e/\scanSorted cG.lt e b m=scanSorted cG.lt e b i/\Fx (· =S) h t/\k=b-m) (b-i)
  ⟨i,aB rfl,b1,b0,A,rfl,F,rfl⟩ ?_
 clear A F K n
 rintro k c y ⟨m,⟨g,rfl⟩,b6,b7,A,hS,F,rfl⟩
 have sz:=A.size
 have Q:(m:Int)- 1=((m- 1:Nat):Int):=om
 have a2:(m:Int)+1=((m+1:Nat):Int):=om
 by_cases a4:(m:Int)<(b:Int)
 case neg=>
  have n:=bT a4;have em:m=b:=om
  rw[acB om] at hS;rw[<-hS,bL em] at l;have e2:decide ((m:Int)=(b:Int))=true:=cJ om;refine cU n e2 ?_;rw[<-l];exact⟨rfl,A.fr ((Fr.refl y).bU om),oL F (Fx.of ((Fr.refl y).bU om))⟩
 have n:=cJ a4
 have p:=A.rd (i:=m) om
 have o:=A.rd (i:=m- 1) om
 refine gX n Q p o ?_
 refine (jQ A (i:=m) (j:=m- 1) om om _ om).mono ?_
 rintro _ h3 ⟨z,rfl,u,a7⟩
 have P:Fr y h3:=Fr.trans ((Fr.refl y).bU om) a7
 have G:=A.fr P
 have F3:=oL F (Fx.of P)
 cases hl:cG.lt e[m]! e[m- 1]! with
 |false=>
  rw[agU om hl] at hS;refine dQ u hl a2 ?_;exact⟨b-(m+1),om,m+1,aB rfl,om,om,G,hS,F3,rfl⟩
 |true=>
  rw[acB (by rw[hl];simp)] at hS;rw[<-hS,bV om] at l;have e2:decide ((m:Int)=(b:Int))=false:=bT om
  by_cases a8:(b:Int)-(a:Int)<50
  .have R:=cJ a8
   rw[bL om] at l;refine gX u hl e2 R ?_;rw[<-l];exact⟨rfl,G,F3⟩
  have R:=bT a8;rw[bV om] at l;have p:=G.rd (i:=m) om;have o:=G.rd (i:=m- 1) om;simp(disch:=omega)only[go_sem,u,hl,e2,R,Q,p,o,G.get,fK,eX];have W:=G.swap (i:=m) (j:=m- 1) (nx:=h3.next+18) om rfl
  obtain⟨h4,a1⟩: ∃h4,h4=((H.mk h3.tr (h3.next+18)).set S (bG (flat (e.setIfInBounds m e[m- 1]!).toList))).set S (bG (flat ((e.setIfInBounds m e[m- 1]!).setIfInBounds (m- 1) e[m]!).toList)):=⟨_,rfl⟩
  rw[<-a1] at W |-;obtain⟨A4,F4⟩:=W;have L:=oL F3 F4;clear a1 F4 G F3 P a7 p o;obtain⟨Y,a0⟩:=exI (swp e m (m- 1));rw[a0] at A4 l;refine rU (λvs h5=> ∃U,(∃g:Nat->V,vs= [.sl S 0 N Z,aC a,aC b,.fn (cG.f α) [] [],g 4,aC m,aC (5-((s+1:Nat):Int)),g 7,g 8,g 9,g 10,g 11,g 12,g 13,g 14,g 15,g 16,g 17,g 18])/\iY h5 S N U/\U=(if m-a>=2 then shiftDown cG.lt (m- 1) Y else Y)/\Fx (· =S) h h5) ?_ ?_
  .refine bI (λy=>?_) (λy=>?_)
   .refine bE Q ?_
    refine aH (λk c t=> ∃(j:Nat) (x:Array α),(∃g:Nat->V,c= [.sl S 0 N Z,aC a,aC b,.fn (cG.f α) [] [],g 4,aC m,aC (5-((s+1:Nat):Int)),aC j,g 8,g 9,g 10,g 11,g 12,g 13,g 14,g 15,g 16,g 17,g 18])/\j<b/\iY t S N x/\shiftDown cG.lt j x=shiftDown cG.lt (m- 1) Y/\Fx (· =S) h t/\k=j) (m- 1)
     ⟨m- 1,Y,aB rfl,om,A4,rfl,L,rfl⟩ ?_
    rintro k c h5 ⟨j,x,⟨g,rfl⟩,hj,w,B,F5,hk⟩;subst hk;have b8:=w.size
    by_cases h1:(1:Int)<=(k:Int)
    .have n:=cJ h1
     obtain⟨q,rfl⟩: ∃q,k=q+1:=⟨k- 1,om⟩
     have a6:((q+1:Nat):Int)- 1=(q:Int):=om
     have p:=w.rd (i:=q+1) om;have o:=w.rd (i:=q) om;refine gX n a6 p o ?_;refine (jQ w (i:=q+1) (j:=q) om om _ om).mono ?_;rintro _ h6 ⟨z,rfl,u,b3⟩;have f6:Fr h5 h6:=Fr.trans ((Fr.refl h5).bU om) b3;have r:=w.fr f6;have F6:=oL F5 (Fx.of f6)
     cases hl:cG.lt x[q+1]! x[q]! with
     |false=>
      rw[agT hl] at B;refine cU u hl ?_;exact .inl ⟨x,aB rfl,r,by rw[bL om,<-B],F6⟩
     |true=>
      rw[agJ hl] at B;have p:=r.rd (i:=q+1) om;have o:=r.rd (i:=q) om;refine qL u hl a6 p o @r.get @fK @eX ?_;have W:=r.swap (i:=q+1) (j:=q) (nx:=h6.next+18) om rfl;exact⟨q,om,q,_,aB rfl,om,W.1,B,oL F6 W.2,rfl⟩
    .have n:=bT h1
     obtain rfl:k=0:=om
     refine bE n ?_;have B:x=shiftDown cG.lt (m- 1) Y:=B;exact .inl ⟨x,aB rfl,w,by rw[bL om,<-B],F5⟩
   .refine aM ?_
    exact .inl ⟨Y,aB rfl,A4,by rw[bV om],L⟩
  .rintro c h5 ⟨U,⟨g,rfl⟩,w,a3,F5⟩
   rw[<-a3] at l;clear A4 L a3 a0;refine aM ?_;have J:(5:Int)-((s+1:Nat):Int)+1=5-(s:Int):=om
   refine bI (λy=>?_) (λy=>?_)
   .rw[bL om] at l
    refine bE a2 ?_;refine aH (λk c t=> ∃(j:Nat) (x:Array α),(∃g:Nat->V,c= [.sl S 0 N Z,aC a,aC b,.fn (cG.f α) [] [],g 4,aC m,aC (5-((s+1:Nat):Int)),g 7,aC j,g 9,g 10,g 11,g 12,g 13,g 14,g 15,g 16,g 17,g 18])/\0<j/\j<=b/\iY t S N x/\shiftUp cG.lt b j x=shiftUp cG.lt b (m+1) U/\Fx (· =S) h t/\k=b-j) (b-(m+1))
     ⟨m+1,U,aB rfl,om,om,w,rfl,F5,rfl⟩ ?_
    rintro k c h6 ⟨j,x,⟨g,rfl⟩,b4,hj,r,hU,F6,rfl⟩;have b9:=r.size
    by_cases h1:(j:Int)<(b:Int)
    .have n:=cJ h1
     have a5:(j:Int)- 1=((j- 1:Nat):Int):=om
     have b2:(j:Int)+1=((j+1:Nat):Int):=om
     have p:=r.rd (i:=j) om;have o:=r.rd (i:=j- 1) om;refine gX n a5 p o ?_;refine (jQ r (i:=j) (j:=j- 1) om om _ om).mono ?_;rintro _ h7 ⟨z,rfl,u,a9⟩;have f7:Fr h6 h7:=Fr.trans ((Fr.refl h6).bU om) a9;have A7:=r.fr f7;have F7:=oL F6 (Fx.of f7)
     cases hl:cG.lt x[j]! x[j- 1]! with
     |false=>
      rw[agB om hl] at hU;rw[<-hU] at l;refine dQ u hl J ?_;exact⟨s,om,s,m,x,aB rfl,om,om,om,A7,l,F7,rfl⟩
     |true=>
      rw[agL om hl] at hU;have p:=A7.rd (i:=j) om;have o:=A7.rd (i:=j- 1) om;refine uG u hl a5 b2 p o @A7.get @fK @eX ?_;have W:=A7.swap (i:=j) (j:=j- 1) (nx:=h7.next+18) om rfl;exact⟨b-(j+1),om,j+1,_,aB rfl,om,om,W.1,hU,oL F7 W.2,rfl⟩
    .have n:=bT h1
     rw[shiftUp,bV om] at hU;rw[<-hU] at l;refine cU n J ?_;exact⟨s,om,s,m,x,aB rfl,om,om,om,r,l,F6,rfl⟩
   .rw[bV om] at l
    refine bE J ?_;exact⟨s,om,s,m,U,aB rfl,om,om,om,w,l,F5,rfl⟩
end
section
variable {j i:Nat}
theorem FM {α:Type}[Inhabited α]{p:α->Bool}{d:Array α}(a:i<=j)(h2:p d[i]! =true):scanUp p d j i=scanUp p d j (i+1):=by rw[scanUp,bL (by simp [a,h2])]
theorem Gu {α:Type}[Inhabited α]{p:α->Bool}{d:Array α}(h: ¬(i<=j/\p d[i]! =true)):scanUp p d j i=i:=by rw[scanUp,bV (by simpa using h)]
theorem QR {α:Type}[Inhabited α]{p:α->Bool}{d:Array α}(a:i<=j+1)(h2:p d[j+1]! =true):scanDown p d i (j+1)=scanDown p d i j:=by rw[scanDown,bL (by simp [a,h2])]
theorem Nf {α:Type}[Inhabited α]{p:α->Bool}{d:Array α}(h: ¬(i<=j/\p d[j]! =true)):scanDown p d i j=j:=by
 cases j with
 |zero=>rfl
 |succ j=>rw[scanDown,bV (by simpa using h)]
theorem Ep {α:Type}[Inhabited α](p:α->Bool)(d:Array α)(j i:Nat):scanUp p d j i<=max i (j+1):=by
 obtain⟨n,a⟩:=exI (j+1-i)
 induction n generalizing i with
 |zero=>rw[Gu (λh=>by have:=h.1;omega)];omega
 |succ n ih=>
  by_cases h:i<=j/\p d[i]! =true
  .rw[FM h.1 h.2]
   have:=ih (i+1) om;omega
  .rw[Gu h];omega
theorem Qy {α:Type}[Inhabited α][O:cG α](h:H)(S N a b pv:Nat)(d:Array α)(cp:uF)(hN:N<1000000)(A:iY h S N d)(hb:b<=N)(b8:a<=pv)(b7:pv<b):
  Ev T (cG.ρ α 254) [.sl S 0 N cp,aC a,aC b,aC pv,.fn (cG.f α) [] []] h (λv h'=>v= .tup [aC ((partition cG.lt d a b pv).1:Nat),.bool (partition cG.lt d a b pv).2.1]/\iY h' S N (partition cG.lt d a b pv).2.2/\Fx (· =S) h h'):=by
 refine mG (tI (α:=α) eS.ok deC) rfl ?_
 have sz:=A.size
 have P:=A.rd (i:=a) om
 have L:=A.rd (i:=pv) om
 simp(disch:=omega)only[go_sem,eS,aI,P,L,A.get,fK,eX]
 have W:=A.swap (i:=a) (j:=pv) (nx:=h.next+16) om rfl
 obtain⟨h1,b2⟩: ∃h1,h1=((H.mk h.tr (h.next+16)).set S (bG (flat (d.setIfInBounds a d[pv]!).toList))).set S (bG (flat ((d.setIfInBounds a d[pv]!).setIfInBounds pv d[a]!).toList)):=⟨_,rfl⟩
 rw[<-b2] at W |-
 obtain⟨A1,F1⟩:=W
 obtain⟨e,he⟩:=exI (swp d a pv)
 rw[he] at A1
 clear b2 P L A
 have eb:(b:Int)- 1=((b- 1:Nat):Int):=om
 have ea:(a:Int)+1=((a+1:Nat):Int):=om
 have hP:partition cG.lt d a b pv=if scanUp (λx=>cG.lt x e[a]!) e (b- 1) (a+1)>scanDown (λx=>!cG.lt x e[a]!) e (scanUp (λx=>cG.lt x e[a]!) e (b- 1) (a+1)) (b- 1) then
   (scanDown (λx=>!cG.lt x e[a]!) e (scanUp (λx=>cG.lt x e[a]!) e (b- 1) (a+1)) (b- 1),true,swp e (scanDown (λx=>!cG.lt x e[a]!) e (scanUp (λx=>cG.lt x e[a]!) e (b- 1) (a+1)) (b- 1)) a) else
   ((partLoop cG.lt a (scanUp (λx=>cG.lt x e[a]!) e (b- 1) (a+1)+1) (scanDown (λx=>!cG.lt x e[a]!) e (scanUp (λx=>cG.lt x e[a]!) e (b- 1) (a+1)) (b- 1)- 1) (swp e (scanUp (λx=>cG.lt x e[a]!) e (b- 1) (a+1)) (scanDown (λx=>!cG.lt x e[a]!) e (scanUp (λx=>cG.lt x e[a]!) e (b- 1) (a+1)) (b- 1)))).1,false,
    swp (partLoop cG.lt a (scanUp (λx=>cG.lt x e[a]!) e (b- 1) (a+1)+1) (scanDown (λx=>!cG.lt x e[a]!) e (scanUp (λx=>cG.lt x e[a]!) e (b- 1) (a+1)) (b- 1)- 1) (swp e (scanUp (λx=>cG.lt x e[a]!) e (b- 1) (a+1)) (scanDown (λx=>!cG.lt x e[a]!) e (scanUp (λx=>cG.lt x e[a]!) e (b- 1) (a+1)) (b- 1)))).2 (partLoop cG.lt a (scanUp (λx=>cG.lt x e[a]!) e (b- 1) (a+1)+1) (scanDown (λx=>!cG.lt x e[a]!) e (scanUp (λx=>cG.lt x e[a]!) e (b- 1) (a+1)) (b- 1)- 1) (swp e (scanUp (λx=>cG.lt x e[a]!) e (b- 1) (a+1)) (scanDown (λx=>!cG.lt x e[a]!) e (scanUp (λx=>cG.lt x e[a]!) e (b- 1) (a+1)) (b- 1)))).1 a):=by
  rw[<-he];rfl
 obtain⟨R,a9⟩:=exI (partition cG.lt d a b pv)
 rw[a9] at hP
 rw[a9]
 refine cU ea eb ?_
 refine bY (λK c=>(∃g:Nat->V,K= [.sl S 0 N cp,aC a,aC b,aC pv,.fn (cG.f α) [] [],g 5,g 6,aC (scanUp (λx=>cG.lt x e[a]!) e (b- 1) (a+1):Nat),aC ((b- 1):Nat),g 9,g 10,g 11,g 12,g 13,g 14])/\iY c S N e/\Fx (· =S) h c) ?_ ?_
 .refine aH (λJ K c=> ∃(k:Nat),(∃g:Nat->V,K= [.sl S 0 N cp,aC a,aC b,aC pv,.fn (cG.f α) [] [],g 5,g 6,aC (k:Nat),aC ((b- 1):Nat),g 9,g 10,g 11,g 12,g 13,g 14])/\(a+1)<=k/\k<=N+2/\iY c S N e/\scanUp (λx=>cG.lt x e[a]!) e (b- 1) k=scanUp (λx=>cG.lt x e[a]!) e (b- 1) (a+1)/\Fx (· =S) h c/\J=(b- 1)+1-k) ((b- 1)+1-(a+1))
   ⟨(a+1),aB rfl,om,om,A1,rfl,F1,rfl⟩ ?_
  rintro J n Q ⟨k,⟨g,rfl⟩,a6,b6,o,p,Fs,rfl⟩
  by_cases l:(k:Int)<=(((b- 1):Nat):Int)
  .have s:decide ((k:Int)<=(((b- 1):Nat):Int))=true:=cJ l
   have eK:(k:Int)+1=((k+1:Nat):Int):=om
   have a7:=o.size
   have P:=o.rd (i:=k) om
   have L:=o.rd (i:=a) om
   refine dQ s P L ?_
   refine (jQ o (i:=k) (j:=a) om om _ om).mono ?_
   rintro _ U ⟨z,rfl,hz,t⟩
   have y:Fr Q U:=Fr.trans ((Fr.refl Q).bU om) t
   have B:=o.fr y
   have F:=oL Fs (Fx.of y)
   cases hl:cG.lt e[k]! e[a]! with
   |false=>
    rw[Gu (λc=>by have:=c.2;simp [hl] at this)] at p;refine cU hz hl ?_;exact⟨by rw[<-p];exact aB rfl,B,F⟩
   |true=>
    rw[FM om (by simp [hl])] at p;refine dQ hz hl eK ?_;exact⟨(b- 1)+1-(k+1),om,k+1,aB rfl,om,om,B,p,F,rfl⟩
  .have s:decide ((k:Int)<=(((b- 1):Nat):Int))=false:=bT l
   rw[Gu (λc=>l (by have:=c.1;omega))] at p
   refine bE s ?_
   exact⟨by rw[<-p];exact aB rfl,o.fr ((Fr.refl Q).bU om),oL Fs (Fx.of ((Fr.refl Q).bU om))⟩
 .rintro n h9 ⟨⟨g,rfl⟩,A9,F9⟩
  have a2:=scanUp_ge (λx=>cG.lt x e[a]!) e (b- 1) (a+1)
  have a3:=Ep (λx=>cG.lt x e[a]!) e (b- 1) (a+1)
  obtain⟨q,Z⟩: ∃x,scanUp (λx=>cG.lt x e[a]!) e (b- 1) (a+1)=x:=⟨_,rfl⟩
  rw[Z] at a2 a3
  rw[Z]
  refine aM ?_
  refine bY (λK c=>(∃g:Nat->V,K= [.sl S 0 N cp,aC a,aC b,aC pv,.fn (cG.f α) [] [],g 5,g 6,aC (q:Nat),aC (scanDown (λx=>!cG.lt x e[a]!) e q (b- 1):Nat),g 9,g 10,g 11,g 12,g 13,g 14])/\iY c S N e/\Fx (· =S) h c) ?_ ?_
  .refine aH (λJ K c=> ∃(k:Nat),(∃g:Nat->V,K= [.sl S 0 N cp,aC a,aC b,aC pv,.fn (cG.f α) [] [],g 5,g 6,aC (q:Nat),aC (k:Nat),g 9,g 10,g 11,g 12,g 13,g 14])/\k<=(b- 1)/\iY c S N e/\scanDown (λx=>!cG.lt x e[a]!) e q k=scanDown (λx=>!cG.lt x e[a]!) e q (b- 1)/\Fx (· =S) h c/\J=k) (b- 1)
    ⟨(b- 1),aB rfl,om,A9,rfl,F9,rfl⟩ ?_
   rintro J n Q ⟨k,⟨g,rfl⟩,a6,o,p,Fs,a1⟩
   subst a1
   by_cases l:((q:Nat):Int)<=(J:Int)
   .have s:=cJ l
    obtain⟨k,rfl⟩: ∃k,J=k+1:=⟨J- 1,om⟩
    have eK:((k+1:Nat):Int)- 1=(k:Int):=om
    have a7:=o.size
    have P:=o.rd (i:=k+1) om
    have L:=o.rd (i:=a) om
    refine dQ s P L ?_
    refine (jQ o (i:=k+1) (j:=a) om om _ om).mono ?_
    rintro _ U ⟨z,rfl,hz,t⟩
    have y:Fr Q U:=Fr.trans ((Fr.refl Q).bU om) t
    have B:=o.fr y
    have F:=oL Fs (Fx.of y)
    cases hl:cG.lt e[k+1]! e[a]! with
    |true=>
     rw[Nf (λc=>by have:=c.2;simp [hl] at this)] at p;refine cU hz hl ?_;exact⟨by rw[<-p];exact aB rfl,B,F⟩
    |false=>
     rw[QR om (by simp [hl])] at p;refine dQ hz hl eK ?_;exact⟨k,om,k,aB rfl,om,B,p,F,rfl⟩
   .have s:=bT l
    rw[Nf (λc=>l (by have:=c.1;omega))] at p
    refine bE s ?_
    exact⟨by rw[<-p];exact aB rfl,o.fr ((Fr.refl Q).bU om),oL Fs (Fx.of ((Fr.refl Q).bU om))⟩
  .rintro n h2 ⟨⟨g,rfl⟩,A2,F2⟩
   have a4:=scanDown_le (λx=>!cG.lt x e[a]!) e q (b- 1)
   obtain⟨G,a5⟩: ∃x,scanDown (λx=>!cG.lt x e[a]!) e q (b- 1)=x:=⟨_,rfl⟩
   rw[a5] at a4
   rw[a5]
   rw[Z,a5] at hP
   have b5:=A2.size
   by_cases Y:(G:Int)<(q:Int)
   .have s:=cJ Y
    rw[bL om] at hP
    have P:=A2.rd (i:=G) om
    have L:=A2.rd (i:=a) om
    refine kA s P L @A2.get @fK @eX ?_
    have W:=A2.swap (i:=G) (j:=a) (nx:=h2.next+16) om rfl
    rw[hP]
    exact⟨rfl,W.1,oL F2 W.2⟩
   have s:=bT Y
   rw[bV om] at hP
   have P:=A2.rd (i:=q) om
   have L:=A2.rd (i:=G) om
   refine kA s P L @A2.get @fK @eX ?_
   have W:=A2.swap (i:=q) (j:=G) (nx:=h2.next+16) om rfl
   obtain⟨h3,b1⟩: ∃h3,h3=((H.mk h2.tr (h2.next+16)).set S (bG (flat (e.setIfInBounds q e[G]!).toList))).set S (bG (flat ((e.setIfInBounds q e[G]!).setIfInBounds G e[q]!).toList)):=⟨_,rfl⟩
   rw[<-b1] at W |-
   obtain⟨A3,b3⟩:=W
   have F3:=oL F2 b3
   have a8:q<=G:=om
   obtain⟨e0,b0⟩:=exI (swp e q G)
   rw[b0] at A3 hP
   clear b1 P L A2 A9 F9 A1 F1 he Y s
   have ei:(q:Int)+1=((q+1:Nat):Int):=om
   have ej:(G:Int)- 1=((G- 1:Nat):Int):=om
   refine cU ei ej ?_
   refine bY (λK c=>(∃g:Nat->V,K= [.sl S 0 N cp,aC a,aC b,aC pv,.fn (cG.f α) [] [],g 5,g 6,g 7,aC (((partLoop cG.lt a (q+1) (G- 1) e0).1:Nat):Int),g 9,g 10,g 11,g 12,g 13,g 14])/\iY c S N (partLoop cG.lt a (q+1) (G- 1) e0).2/\(partLoop cG.lt a (q+1) (G- 1) e0).1<b/\Fx (· =S) h c) ?_ ?_
   .refine aH (λJ K c=> ∃(i j:Nat) (e:Array α),(∃g:Nat->V,K= [.sl S 0 N cp,aC a,aC b,aC pv,.fn (cG.f α) [] [],g 5,g 6,aC i,aC j,g 9,g 10,g 11,g 12,g 13,g 14])/\a<i/\i<=b+1/\j<b/\iY c S N e/\partLoop cG.lt a i j e=partLoop cG.lt a (q+1) (G- 1) e0/\Fx (· =S) h c/\J=j) (G- 1)
     ⟨q+1,G- 1,e0,aB rfl,om,om,om,A3,rfl,F3,rfl⟩ ?_
    obtain⟨R2,b4⟩:=exI (partLoop cG.lt a (q+1) (G- 1) e0)
    rw[b4]
    clear hP b4 Z a5 b0 ei ej a4 a2 a3 F3 b3 A3 b5 h3 a8
    clear q G
    rintro J n h3 ⟨i,j,e,⟨g,rfl⟩,b9,Z,hj,A3,hL,F3,a1⟩
    rw[partLoop_eq] at hL
    refine aM ?_
    refine bY (λK c=>(∃g:Nat->V,K= [.sl S 0 N cp,aC a,aC b,aC pv,.fn (cG.f α) [] [],g 5,g 6,aC (scanUp (λx=>cG.lt x e[a]!) e j i:Nat),aC (j:Nat),g 9,g 10,g 11,g 12,g 13,g 14])/\iY c S N e/\Fx (· =S) h c) ?_ ?_
    .refine aH (λJ K c=> ∃(k:Nat),(∃g:Nat->V,K= [.sl S 0 N cp,aC a,aC b,aC pv,.fn (cG.f α) [] [],g 5,g 6,aC (k:Nat),aC (j:Nat),g 9,g 10,g 11,g 12,g 13,g 14])/\i<=k/\k<=N+2/\iY c S N e/\scanUp (λx=>cG.lt x e[a]!) e j k=scanUp (λx=>cG.lt x e[a]!) e j i/\Fx (· =S) h c/\J=j+1-k) (j+1-i)
      ⟨i,aB rfl,om,om,A3,rfl,F3,rfl⟩ ?_
     rintro J n Q ⟨k,⟨g,rfl⟩,a6,b6,o,p,Fs,rfl⟩
     by_cases l:(k:Int)<=((j:Nat):Int)
     .have s:=cJ l
      have eK:(k:Int)+1=((k+1:Nat):Int):=om
      have a7:=o.size
      have P:=o.rd (i:=k) om
      have L:=o.rd (i:=a) om
      refine dQ s P L ?_
      refine (jQ o (i:=k) (j:=a) om om _ om).mono ?_
      rintro _ U ⟨z,rfl,hz,t⟩
      have y:Fr Q U:=Fr.trans ((Fr.refl Q).bU om) t
      have B:=o.fr y
      have F:=oL Fs (Fx.of y)
      cases hl:cG.lt e[k]! e[a]! with
      |false=>
       rw[Gu (λc=>by have:=c.2;simp [hl] at this)] at p;refine cU hz hl ?_;exact⟨by rw[<-p];exact aB rfl,B,F⟩
      |true=>
       rw[FM om (by simp [hl])] at p;refine dQ hz hl eK ?_;exact⟨j+1-(k+1),om,k+1,aB rfl,om,om,B,p,F,rfl⟩
     .have s:=bT l
      rw[Gu (λc=>l (by have:=c.1;omega))] at p
      refine bE s ?_
      exact⟨by rw[<-p];exact aB rfl,o.fr ((Fr.refl Q).bU om),oL Fs (Fx.of ((Fr.refl Q).bU om))⟩
    .rintro n h9 ⟨⟨g,rfl⟩,A9,F9⟩
     have a2:=scanUp_ge (λx=>cG.lt x e[a]!) e j i
     have a3:=Ep (λx=>cG.lt x e[a]!) e j i
     obtain⟨u,hu⟩: ∃x,scanUp (λx=>cG.lt x e[a]!) e j i=x:=⟨_,rfl⟩
     rw[hu] at a2 a3
     rw[hu]
     refine aM ?_
     refine bY (λK c=>(∃g:Nat->V,K= [.sl S 0 N cp,aC a,aC b,aC pv,.fn (cG.f α) [] [],g 5,g 6,aC (u:Nat),aC (scanDown (λx=>!cG.lt x e[a]!) e u j:Nat),g 9,g 10,g 11,g 12,g 13,g 14])/\iY c S N e/\Fx (· =S) h c) ?_ ?_
     .refine aH (λJ K c=> ∃(k:Nat),(∃g:Nat->V,K= [.sl S 0 N cp,aC a,aC b,aC pv,.fn (cG.f α) [] [],g 5,g 6,aC (u:Nat),aC (k:Nat),g 9,g 10,g 11,g 12,g 13,g 14])/\k<=j/\iY c S N e/\scanDown (λx=>!cG.lt x e[a]!) e u k=scanDown (λx=>!cG.lt x e[a]!) e u j/\Fx (· =S) h c/\J=k) j
       ⟨j,aB rfl,om,A9,rfl,F9,rfl⟩ ?_
      rintro J n Q ⟨k,⟨g,rfl⟩,a6,o,p,Fs,a1⟩
      subst a1
      by_cases l:((u:Nat):Int)<=(J:Int)
      .have s:=cJ l
       obtain⟨k,rfl⟩: ∃k,J=k+1:=⟨J- 1,om⟩
       have eK:((k+1:Nat):Int)- 1=(k:Int):=om
       have a7:=o.size
       have P:=o.rd (i:=k+1) om
       have L:=o.rd (i:=a) om
       refine dQ s P L ?_
       refine (jQ o (i:=k+1) (j:=a) om om _ om).mono ?_
       rintro _ U ⟨z,rfl,hz,t⟩
       have y:Fr Q U:=Fr.trans ((Fr.refl Q).bU om) t
       have B:=o.fr y
       have F:=oL Fs (Fx.of y)
       cases hl:cG.lt e[k+1]! e[a]! with
       |true=>
        rw[Nf (λc=>by have:=c.2;simp [hl] at this)] at p;refine cU hz hl ?_;exact⟨by rw[<-p];exact aB rfl,B,F⟩
       |false=>
        rw[QR om (by simp [hl])] at p;refine dQ hz hl eK ?_;exact⟨k,om,k,aB rfl,om,B,p,F,rfl⟩
      .have s:=bT l
       rw[Nf (λc=>l (by have:=c.1;omega))] at p
       refine bE s ?_
       exact⟨by rw[<-p];exact aB rfl,o.fr ((Fr.refl Q).bU om),oL Fs (Fx.of ((Fr.refl Q).bU om))⟩
     .rintro n h4 ⟨⟨g,rfl⟩,A4,F4⟩
      have a4:=scanDown_le (λx=>!cG.lt x e[a]!) e u j
      obtain⟨w,hw⟩: ∃x,scanDown (λx=>!cG.lt x e[a]!) e u j=x:=⟨_,rfl⟩
      rw[hw] at a4
      rw[hw]
      rw[hu,hw] at hL
      have c0:=A4.size
      by_cases Y:(w:Int)<(u:Int)
      .have s:=cJ Y
       rw[bL om] at hL
       refine bE s ?_
       rw[<-hL]
       exact⟨aB rfl,A4,om,F4⟩
      have s:=bT Y
      rw[bV om] at hL
      have P:=A4.rd (i:=u) om
      have L:=A4.rd (i:=w) om
      have ei:(u:Int)+1=((u+1:Nat):Int):=om
      have ej:(w:Int)- 1=((w- 1:Nat):Int):=om
      simp(disch:=omega)only[go_sem,s,P,L,A4.get,fK,eX,ei,ej]
      have W:=A4.swap (i:=u) (j:=w) (nx:=h4.next+16) om rfl
      exact⟨w- 1,om,u+1,w- 1,_,aB rfl,om,om,om,W.1,hL,oL F4 W.2,rfl⟩
   .rintro n h5 ⟨⟨g,rfl⟩,A5,a0,F5⟩
    generalize partLoop cG.lt a (q+1) (G- 1) e0=r at hP A5 a0
    obtain⟨m,e5⟩:=r
    have a0:m<b:=a0
    have A5:iY h5 S N e5:=A5
    have c3:=A5.size
    have P:=A5.rd (i:=m) om
    have L:=A5.rd (i:=a) om
    refine iT P L @A5.get @fK @eX ?_
    have W:=A5.swap (i:=m) (j:=a) (nx:=h5.next+16) om rfl
    rw[hP]
    exact⟨rfl,W.1,oL F5 W.2⟩
theorem IY {α:Type}[Inhabited α][O:cG α](h:H)(S N a b pv:Nat)(d:Array α)(L:uF)(hN:N<1000000)(A:iY h S N d)(hb:b<=N)(a8:a<=pv)(a6:pv<b):
  Ev T (cG.ρ α 253) [.sl S 0 N L,aC a,aC b,aC pv,.fn (cG.f α) [] []] h (λv h'=>v= aC ((partitionEqual cG.lt d a b pv).1:Nat)/\iY h' S N (partitionEqual cG.lt d a b pv).2/\Fx (· =S) h h'):=by
 refine mG (tI (α:=α) dW.ok deC) rfl ?_
 have sz:=A.size
 have J:=A.rd (i:=a) om
 have G:=A.rd (i:=pv) om
 simp(disch:=omega)only[go_sem,dW,aI,J,G,A.get,fK,eX]
 have W:=A.swap (i:=a) (j:=pv) (nx:=h.next+16) om rfl
 obtain⟨h1,Z⟩: ∃h1,h1=((H.mk h.tr (h.next+16)).set S (bG (flat (d.setIfInBounds a d[pv]!).toList))).set S (bG (flat ((d.setIfInBounds a d[pv]!).setIfInBounds pv d[a]!).toList)):=⟨_,rfl⟩
 rw[<-Z] at W |-
 obtain⟨A1,F1⟩:=W
 have eb:(b:Int)- 1=((b- 1:Nat):Int):=om
 have ea:(a:Int)+1=((a+1:Nat):Int):=om
 unfold partitionEqual
 obtain⟨P,he⟩: ∃e,swp d a pv=e:=⟨_,rfl⟩
 rw[he] at A1 |-
 clear Z J G A
 refine cU ea eb ?_
 refine bY (λr c=>(∃g:Nat->V,r= [.sl S 0 N L,aC a,aC b,aC pv,.fn (cG.f α) [] [],g 5,aC (((partEqLoop cG.lt a (a+1) (b- 1) P).1:Nat):Int),g 7,g 8,g 9,g 10])/\iY c S N (partEqLoop cG.lt a (a+1) (b- 1) P).2/\Fx (· =S) h c) ?_ ?_
 .refine aH (λs r c=> ∃(i j:Nat) (e:Array α),(∃g:Nat->V,r= [.sl S 0 N L,aC a,aC b,aC pv,.fn (cG.f α) [] [],g 5,aC i,aC j,g 8,g 9,g 10])/\a<i/\i<=b+1/\j<b/\iY c S N e/\partEqLoop cG.lt a i j e=partEqLoop cG.lt a (a+1) (b- 1) P/\Fx (· =S) h c/\s=j) (b- 1)
   ⟨a+1,b- 1,P,aB rfl,om,om,om,A1,rfl,F1,rfl⟩ ?_
  obtain⟨R2,a0⟩:=exI (partEqLoop cG.lt a (a+1) (b- 1) P)
  rw[a0]
  clear a0 F1 A1 h1 he P
  rintro s l h3 ⟨i,j,e,⟨g,rfl⟩,a9,a7,hj,A3,Q,F3,R⟩
  rw[partEqLoop_eq] at Q
  refine aM ?_
  refine bY (λr c=>(∃g:Nat->V,r= [.sl S 0 N L,aC a,aC b,aC pv,.fn (cG.f α) [] [],g 5,aC (scanUp (λx=>!cG.lt e[a]! x) e j i:Nat),aC (j:Nat),g 8,g 9,g 10])/\iY c S N e/\Fx (· =S) h c) ?_ ?_
  .refine aH (λs r c=> ∃(k:Nat),(∃g:Nat->V,r= [.sl S 0 N L,aC a,aC b,aC pv,.fn (cG.f α) [] [],g 5,aC (k:Nat),aC (j:Nat),g 8,g 9,g 10])/\i<=k/\k<=N+2/\iY c S N e/\scanUp (λx=>!cG.lt e[a]! x) e j k=scanUp (λx=>!cG.lt e[a]! x) e j i/\Fx (· =S) h c/\s=j+1-k) (j+1-i)
    ⟨i,aB rfl,om,om,A3,rfl,F3,rfl⟩ ?_
   rintro s l F ⟨k,⟨g,rfl⟩,a2,b0,n,o,Fs,rfl⟩
   by_cases m:(k:Int)<=((j:Nat):Int)
   .have t:=cJ m
    have eK:(k:Int)+1=((k+1:Nat):Int):=om
    have a4:=n.size
    have J:=n.rd (i:=k) om
    have G:=n.rd (i:=a) om
    refine dQ t J G ?_
    refine (jQ n (i:=a) (j:=k) om om _ om).mono ?_
    rintro _ K ⟨z,rfl,Y,p⟩
    have q:Fr F K:=Fr.trans ((Fr.refl F).bU om) p
    have y:=n.fr q
    have B:=oL Fs (Fx.of q)
    cases hl:cG.lt e[a]! e[k]! with
    |true=>
     rw[Gu (λc=>by have:=c.2;simp [hl] at this)] at o;refine cU Y hl ?_;exact⟨by rw[<-o];exact aB rfl,y,B⟩
    |false=>
     rw[FM om (by simp [hl])] at o;refine dQ Y hl eK ?_;exact⟨j+1-(k+1),om,k+1,aB rfl,om,om,y,o,B,rfl⟩
   .have t:=bT m
    rw[Gu (λc=>m (by have:=c.1;omega))] at o
    refine bE t ?_
    exact⟨by rw[<-o];exact aB rfl,n.fr ((Fr.refl F).bU om),oL Fs (Fx.of ((Fr.refl F).bU om))⟩
  .rintro l h9 ⟨⟨g,rfl⟩,A9,F9⟩
   have a1:=scanUp_ge (λx=>!cG.lt e[a]! x) e j i
   have a3:=Ep (λx=>!cG.lt e[a]! x) e j i
   obtain⟨u,hu⟩: ∃x,scanUp (λx=>!cG.lt e[a]! x) e j i=x:=⟨_,rfl⟩
   rw[hu] at a1 a3
   rw[hu]
   refine aM ?_
   refine bY (λr c=>(∃g:Nat->V,r= [.sl S 0 N L,aC a,aC b,aC pv,.fn (cG.f α) [] [],g 5,aC (u:Nat),aC (scanDown (λx=>cG.lt e[a]! x) e u j:Nat),g 8,g 9,g 10])/\iY c S N e/\Fx (· =S) h c) ?_ ?_
   .refine aH (λs r c=> ∃(k:Nat),(∃g:Nat->V,r= [.sl S 0 N L,aC a,aC b,aC pv,.fn (cG.f α) [] [],g 5,aC (u:Nat),aC (k:Nat),g 8,g 9,g 10])/\k<=j/\iY c S N e/\scanDown (λx=>cG.lt e[a]! x) e u k=scanDown (λx=>cG.lt e[a]! x) e u j/\Fx (· =S) h c/\s=k) j
     ⟨j,aB rfl,om,A9,rfl,F9,rfl⟩ ?_
    rintro s l F ⟨k,⟨g,rfl⟩,a2,n,o,Fs,R⟩
    subst R
    by_cases m:((u:Nat):Int)<=(s:Int)
    .have t:=cJ m
     obtain⟨k,rfl⟩: ∃k,s=k+1:=⟨s- 1,om⟩
     have eK:((k+1:Nat):Int)- 1=(k:Int):=om
     have a4:=n.size
     have J:=n.rd (i:=k+1) om
     have G:=n.rd (i:=a) om
     refine dQ t J G ?_
     refine (jQ n (i:=a) (j:=k+1) om om _ om).mono ?_
     rintro _ K ⟨z,rfl,Y,p⟩
     have q:Fr F K:=Fr.trans ((Fr.refl F).bU om) p
     have y:=n.fr q
     have B:=oL Fs (Fx.of q)
     cases hl:cG.lt e[a]! e[k+1]! with
     |false=>
      rw[Nf (λc=>by have:=c.2;simp [hl] at this)] at o;refine cU Y hl ?_;exact⟨by rw[<-o];exact aB rfl,y,B⟩
     |true=>
      rw[QR om (by simp [hl])] at o;refine dQ Y hl eK ?_;exact⟨k,om,k,aB rfl,om,y,o,B,rfl⟩
    .have t:=bT m
     rw[Nf (λc=>m (by have:=c.1;omega))] at o
     refine bE t ?_
     exact⟨by rw[<-o];exact aB rfl,n.fr ((Fr.refl F).bU om),oL Fs (Fx.of ((Fr.refl F).bU om))⟩
   .rintro l h4 ⟨⟨g,rfl⟩,A4,F4⟩
    have a5:=scanDown_le (λx=>cG.lt e[a]! x) e u j
    obtain⟨w,hw⟩: ∃x,scanDown (λx=>cG.lt e[a]! x) e u j=x:=⟨_,rfl⟩
    rw[hw] at a5
    rw[hw]
    rw[hu,hw] at Q
    have b1:=A4.size
    by_cases U:(w:Int)<(u:Int)
    .have t:=cJ U
     rw[bL om] at Q
     refine bE t ?_
     rw[<-Q]
     exact⟨aB rfl,A4,F4⟩
    have t:=bT U
    rw[bV om] at Q
    have J:=A4.rd (i:=u) om
    have G:=A4.rd (i:=w) om
    have ei:(u:Int)+1=((u+1:Nat):Int):=om
    have ej:(w:Int)- 1=((w- 1:Nat):Int):=om
    simp(disch:=omega)only[go_sem,t,J,G,A4.get,fK,eX,ei,ej]
    have W:=A4.swap (i:=u) (j:=w) (nx:=h4.next+16) om rfl
    exact⟨w- 1,om,u+1,w- 1,_,aB rfl,om,om,om,W.1,Q,oL F4 W.2,rfl⟩
 .rintro l h5 ⟨⟨g,rfl⟩,A5,F5⟩
  refine aM ?_
  exact⟨A5,F5⟩
end
def afI  {α:Type}[Inhabited α][O:cG α](n:Nat):Prop:= ∀(h:H) (S N a b:Nat) (lim:Int) (d:Array α) (cp:uF),N<60000->iY h S N d->a<=b->b<=N->b-a<=n->0<=lim->lim<1000000->Below cG.lt a b d->
 Ev T (cG.ρ α 227) [.sl S 0 N cp,aC a,aC b,aC lim,.fn (cG.f α) [] []] h (λ_ h'=> ∃e,iY h' S N e/\PermIn a b d e/\SortedIn cG.lt a b e/\Fx (· =S) h h')
theorem aeC  {α:Type}[Inhabited α][O:cG α](n:Nat)(ih: ∀m,m<n->afI (α:=α) m):afI (α:=α) n:=by
 intro h S N a b a5 d s hN A a8 a6 hn u w hB;refine mG (tI (α:=α) fH.ok deC) rfl ?_;simp(disch:=omega)only[go_sem,fH,aI]
 refine aH (λk' y Y=> ∃(c l:Nat) (l':Int) (Q wp:Bool) (e:Array α),(∃g:Nat->V,y= [.sl S 0 N s,aC (c:Int),aC (l:Int),aC l',.fn (cG.f α) [] [],.bool Q,.bool wp,g 7,g 8,g 9,g 10,g 11,g 12,g 13,g 14,g 15,g 16,g 17,g 18,g 19,g 20,g 21,g 22,g 23])/\c<=l/\l<=N/\a<=c/\l<=b/\0<=l'/\l'<1000000/\Below cG.lt c l e/\iY Y S N e/\Fx (· =S) h Y/\
   (∀R,PermIn c l e R->SortedIn cG.lt c l R->PermIn a b d R/\SortedIn cG.lt a b R)/\k'=l-c) (b-a)
  ⟨a,b,a5,true,true,d,aB rfl,a8,a6,eU _,eU _,u,w,hB,A,Fx.refl _ h,λR h1 h2=>⟨h1,h2⟩,rfl⟩ ?_
 clear A hB u w;rintro k' y h1 ⟨c,l,l',Q,wp,e,⟨g,rfl⟩,B,o,a7,a2,u,w,hB,A,F,K,rfl⟩;obtain⟨m,hm⟩:=exI (l-c);have em:(l:Int)-(c:Int)=(m:Int):=om
 have ez:{x:Array α}->{hx:H}->iY hx S N x->l<=x.size:=λA=>by rw[A.size];exact o
 by_cases a4:(m:Int)<=12
 .have e1:=cJ a4
  refine cU em e1 ?_;refine (Di h1 S N c l e s om A o B).mono ?_;rintro _ h2 ⟨A2,F2⟩;obtain⟨p1,p2⟩:=insertionSort_holds (cG.swo (α:=α)) e c l B (ez A);obtain⟨q1,q2⟩:=K _ p1 p2;refine aM ?_;exact⟨_,A2,q1,q2,oL F F2⟩
 have e1:=bT a4
 by_cases hl:l'=0
 .have J:=cJ hl
  refine dQ em e1 J ?_;refine (Wj h1 S N c l e s om A o B).mono ?_;rintro _ h2 ⟨A2,F2⟩;obtain⟨p1,p2⟩:=heapSort_holds (cG.swo (α:=α)) e c l B (ez A);obtain⟨q1,q2⟩:=K _ p1 p2;refine aM ?_;exact⟨_,A2,q1,q2,oL F F2⟩
 have J:=bT hl;refine dQ em e1 J ?_;refine rU (λZ Y=> ∃(J:Array α) (G:Int) (g:Nat->V),Z= [.sl S 0 N s,aC (c:Int),aC (l:Int),aC G,.fn (cG.f α) [] [],.bool Q,.bool wp,aC m,g 8,g 9,g 10,g 11,g 12,g 13,g 14,g 15,g 16,g 17,g 18,g 19,g 20,g 21,g 22,g 23]/\0<=G/\G<1000000/\iY Y S N J/\PermIn c l e J/\Fx (· =S) h Y) ?_ ?_
 .cases Q with
  |true=>
   refine aM ?_;exact .inl ⟨e,l',_,(aB rfl: ∃g:Nat->V,_= [.sl S 0 N s,aC (c:Int),aC (l:Int),aC l',.fn (cG.f α) [] [],.bool true,.bool wp,aC m,g 8,g 9,g 10,g 11,g 12,g 13,g 14,g 15,g 16,g 17,g 18,g 19,g 20,g 21,g 22,g 23]).choose_spec,u,w,A,permIn_refl e c l,F⟩
  |false=>
   refine aM ?_;refine (LF h1 S N c l e s hN A o B).mono ?_;rintro _ h2 ⟨J,A2,p2,F2⟩;refine aM ?_;exact .inl ⟨J,l'- 1,_,(aB rfl: ∃g:Nat->V,_= [.sl S 0 N s,aC (c:Int),aC (l:Int),aC (l'- 1),.fn (cG.f α) [] [],.bool false,.bool wp,aC m,g 8,g 9,g 10,g 11,g 12,g 13,g 14,g 15,g 16,g 17,g 18,g 19,g 20,g 21,g 22,g 23]).choose_spec,om,om,A2,p2,oL F F2⟩
 clear A F u w hl J g;rintro y h2 ⟨J,G,g,rfl,u,w,A,P2,F⟩;have B2:=hB.perm (by rw[<-P2.1];exact ez A) P2;refine aM ?_;refine (NH h2 S N c l J s om A o om).mono ?_;rintro _ h3 ⟨p,t,rfl,W,U,f3⟩;have A3:=A.fr f3;have F3:=oL F (Fx.of f3);clear A F;refine aM ?_;refine rU (λZ Y=> ∃(e3:Array α) (p2:Nat) (t2:Int) (g:Nat->V),Z= [.sl S 0 N s,aC (c:Int),aC (l:Int),aC G,.fn (cG.f α) [] [],.bool Q,.bool wp,aC m,aC p2,aC t2,g 10,g 11,g 12,g 13,g 14,g 15,g 16,g 17,g 18,g 19,g 20,g 21,g 22,g 23]/\c<=p2/\p2<l/\iY Y S N e3/\PermIn c l J e3/\Fx (· =S) h Y) ?_ ?_
 .refine bI (λht=>?_) (λht=>?_)
  .refine aM ?_
   refine (AK h3 S N c l J s om A3 o om).mono ?_;rintro _ h4 ⟨A4,F4⟩;have e5:(l:Int)- 1-((p:Int)-(c:Int))=(((l- 1)-(p-c):Nat):Int):=om
   refine bE e5 ?_;exact .inl ⟨_,(l- 1)-(p-c),1,_,(aB rfl: ∃g:Nat->V,_= [.sl S 0 N s,aC (c:Int),aC (l:Int),aC G,.fn (cG.f α) [] [],.bool Q,.bool wp,aC m,aC ((l- 1)-(p-c):Nat),aC 1,g 10,g 11,g 12,g 13,g 14,g 15,g 16,g 17,g 18,g 19,g 20,g 21,g 22,g 23]).choose_spec,om,om,A4,reverseRange_holds J c l B (ez A3),oL F3 F4⟩
  .refine aM ?_
   exact .inl ⟨J,p,t,_,(aB rfl: ∃g:Nat->V,_= [.sl S 0 N s,aC (c:Int),aC (l:Int),aC G,.fn (cG.f α) [] [],.bool Q,.bool wp,aC m,aC p,aC t,g 10,g 11,g 12,g 13,g 14,g 15,g 16,g 17,g 18,g 19,g 20,g 21,g 22,g 23]).choose_spec,W,U,A3,permIn_refl J c l,F3⟩
 have a1:=ez A3;clear A3 F3 W U f3 p t g;rintro y h4 ⟨e3,p,t,g,rfl,W,U,A,P3,F⟩;have B3:=B2.perm a1 P3;have a0:=permIn_trans _ _ _ c l P2 P3;have b0:l<=J.size:=a1;clear a1 B2 hB;refine Rc (λZ Y=> ∃(P:Array α) (g:Nat->V),Z= [.sl S 0 N s,aC (c:Int),aC (l:Int),aC G,.fn (cG.f α) [] [],.bool Q,.bool wp,aC m,aC p,g 9,g 10,g 11,g 12,g 13,g 14,g 15,g 16,g 17,g 18,g 19,g 20,g 21,g 22,g 23]/\iY Y S N P/\PermIn c l e P/\Below cG.lt c l P/\Fx (· =S) h Y) ?_ ?_
 .have skip:(Z:List V)->(∃g:Nat->V,Z= [.sl S 0 N s,aC (c:Int),aC (l:Int),aC G,.fn (cG.f α) [] [],.bool Q,.bool wp,aC m,aC p,g 9,g 10,g 11,g 12,g 13,g 14,g 15,g 16,g 17,g 18,g 19,g 20,g 21,g 22,g 23])-> ∃(P:Array α) (g:Nat->V),Z= [.sl S 0 N s,aC (c:Int),aC (l:Int),aC G,.fn (cG.f α) [] [],.bool Q,.bool wp,aC m,aC p,g 9,g 10,g 11,g 12,g 13,g 14,g 15,g 16,g 17,g 18,g 19,g 20,g 21,g 22,g 23]/\iY h4 S N P/\PermIn c l e P/\Below cG.lt c l P/\Fx (· =S) h h4:=λZ ⟨g,hv⟩=>⟨e3,g,hv,A,a0,B3,F⟩
  have run: ∀g:Nat->V,Ev T (cG.ρ α 252) [.sl S 0 N s,aC (c:Int),aC (l:Int),.fn (cG.f α) [] []] h4 (λv h'=> ∃r:Array α×Bool,v= .bool r.2/\iY h' S N r.1/\Fx (· =S) h4 h'/\PermIn c l e3 r.1/\(r.2=true->SortedIn cG.lt c l r.1)):=λ_=>by
   refine (Yr h4 S N c l e3 s om A o om).mono ?_;rintro v h5 ⟨hv,A5,F5⟩;obtain⟨q1,q2⟩:=partialInsertionSort_holds (cG.swo (α:=α)) e3 c l om (ez A) B3;exact⟨_,hv,A5,F5,q1,q2⟩
  cases Q with
  |false=>
   refine aM ?_;exact .inl (skip _ (aB rfl))
  |true=>cases wp with
   |false=>
    refine aM ?_
    exact .inl (skip _ (aB rfl))
   |true=>
    refine aM ?_
    refine bI (λht=>?_) (λht=>?_)
    .refine aM ?_
     refine (run g).mono ?_
     rintro v h5 ⟨⟨e5,r5⟩,rfl,A5,F5,q1,q2⟩
     have A5:iY h5 S N e5:=A5
     have q1:PermIn c l e3 e5:=q1
     have P5:=permIn_trans _ _ _ c l a0 q1
     cases r5 with
     |false=>
      refine aM ?_;exact .inl ⟨e5,_,(aB rfl: ∃g:Nat->V,_= [.sl S 0 N s,aC (c:Int),aC (l:Int),aC G,.fn (cG.f α) [] [],.bool true,.bool true,aC m,aC p,g 9,g 10,g 11,g 12,g 13,g 14,g 15,g 16,g 17,g 18,g 19,g 20,g 21,g 22,g 23]).choose_spec,A5,P5,B3.perm (ez A) q1,oL F F5⟩
     |true=>
      obtain⟨w1,w2⟩:=K _ P5 (q2 rfl);refine aM ?_;exact .inr ⟨siM,e5,A5,w1,w2,oL F F5⟩
    .refine aM ?_
     exact .inl (skip _ (aB rfl))
 clear A P3 a0 B3 F P2 b0 e3 J;rintro y h5 ⟨P,g,rfl,A,P4,B4,F⟩;have a3:=ez A;refine Rc (λZ Y=> ∃(g:Nat->V),Z= [.sl S 0 N s,aC (c:Int),aC (l:Int),aC G,.fn (cG.f α) [] [],.bool Q,.bool wp,aC m,aC p,g 9,g 10,g 11,g 12,g 13,g 14,g 15,g 16,g 17,g 18,g 19,g 20,g 21,g 22,g 23]/\iY Y S N P/\Fx (· =S) h Y) ?_ ?_
 .by_cases h0:(0:Int)<(c:Int)
  case neg=>
   have e1:=bT h0;refine bE e1 ?_;exact .inl ⟨_,(aB rfl: ∃g:Nat->V,_= [.sl S 0 N s,aC (c:Int),aC (l:Int),aC G,.fn (cG.f α) [] [],.bool Q,.bool wp,aC m,aC p,g 9,g 10,g 11,g 12,g 13,g 14,g 15,g 16,g 17,g 18,g 19,g 20,g 21,g 22,g 23]).choose_spec,A.fr ((Fr.refl h5).bU om),oL F (Fx.of ((Fr.refl h5).bU om))⟩
  have e1:=cJ h0;have ea:(c:Int)- 1=((c- 1:Nat):Int):=om
  have c1:=A.rd (i:=c- 1) om;have c2:=A.rd (i:=p) om;refine gX e1 ea c1 c2 ?_;refine (jQ A (i:=c- 1) (j:=p) om om _ om).mono ?_;rintro _ h6 ⟨z,rfl,hz,a9⟩;have f6:Fr h5 h6:=Fr.trans ((Fr.refl h5).bU om) a9;have A6:=A.fr f6;have F6:=oL F (Fx.of f6)
  cases hl:cG.lt P[c- 1]! P[p]! with
  |true=>
   refine cU hz hl ?_;exact .inl ⟨_,(aB rfl: ∃g:Nat->V,_= [.sl S 0 N s,aC (c:Int),aC (l:Int),aC G,.fn (cG.f α) [] [],.bool Q,.bool wp,aC m,aC p,g 9,g 10,g 11,g 12,g 13,g 14,g 15,g 16,g 17,g 18,g 19,g 20,g 21,g 22,g 23]).choose_spec,A6,F6⟩
  |false=>
   obtain⟨w1,w2,w3,w4,w5⟩:=round_eq (cG.swo (α:=α)) (partitionEqual_holds cG.lt) om W U a3 B4 hl (Prod.eta (partitionEqual cG.lt P c l p)).symm;refine cU hz hl ?_;refine (IY h6 S N c l p P s om A6 o W U).mono ?_;rintro _ h7 ⟨rfl,A7,F7⟩;refine aM ?_;refine .inr ⟨siM,l-(partitionEqual cG.lt P c l p).1,om,(partitionEqual cG.lt P c l p).1,l,G,Q,wp,_,aB rfl,w2,o,om,a2,u,w,w4,A7,oL F6 F7,λR r1 r2=>?_,rfl⟩;obtain⟨t1,t2⟩:=w5 R r1 r2;exact K R (permIn_trans _ _ _ c l P4 t1) t2
 clear A F;rintro y h6 ⟨g,rfl,A,F⟩;have e8:=NN m (k:=8) (m:=8) rfl;refine aM ?_;refine (Qy h6 S N c l p P s om A o W U).mono ?_;obtain⟨r,hr⟩:=exI (partition cG.lt P c l p);rw[hr];obtain⟨q,ap,e5⟩:=r;obtain⟨w1,w2,w3,w4,w5,w6,w7⟩:=round_part (cG.swo (α:=α)) (partition_holds cG.lt) W U a3 B4 hr;rintro _ h7 ⟨rfl,A7,F7⟩;have A7:iY h7 S N e5:=A7;have F7:=oL F F7;have el:(q:Int)-(c:Int)=((q-c:Nat):Int):=om
 have er:(l:Int)-(q:Int)=((l-q:Nat):Int):=om
 have e1:(q:Int)+1=((q+1:Nat):Int):=om
 refine dQ el er e8 ?_;refine bI (λht=>?_) (λht=>?_)
 .refine aM ?_
  refine (ih (q-c) om h7 S N c q G e5 s hN A7 w1 om (eU _) u w w4).mono ?_;rintro _ h8 ⟨L,A8,p8,s8,F8⟩;obtain⟨u1,u2⟩:=w6 L p8 s8;refine bE e1 ?_;refine⟨l-(q+1),om,q+1,l,G,_,ap,L,aB rfl,om,o,om,a2,u,w,u1,A8,oL F7 F8,λR r1 r2=>?_,rfl⟩;obtain⟨t1,t2⟩:=u2 R r1 r2;exact K R (permIn_trans _ _ _ c l P4 t1) t2
 .refine bE e1 ?_
  refine (ih (l-(q+1)) om h7 S N (q+1) l G e5 s hN A7 om o (eU _) u w w5).mono ?_;rintro _ h8 ⟨L,A8,p8,s8,F8⟩;obtain⟨u1,u2⟩:=w7 L p8 s8;refine aM ?_;refine⟨q-c,om,c,q,G,_,ap,L,aB rfl,om,om,a7,om,u,w,u1,A8,oL F7 F8,λR r1 r2=>?_,rfl⟩;obtain⟨t1,t2⟩:=u2 R r1 r2;exact K R (permIn_trans _ _ _ c l P4 t1) t2
theorem aaM  {α:Type}[Inhabited α][O:cG α](n:Nat):afI (α:=α) n:=by
 induction n using Nat.strongRecOn with
 |_ n ih=>exact aeC n  ih
theorem We {α:Type}[Inhabited α][O:cG α](h:H)(S N:Nat)(d:Array α)(a:uF)(j:N<60000)(A:iY h S N d):
  Ev T (cG.ρ α 186) [.sl S 0 N a,.fn (cG.f α) [] []] h (λ_ h'=> ∃e,iY h' S N e/\PermIn 0 N d e/\SortedIn cG.lt 0 N e/\Fx (· =S) h h'):=by
 refine mG (tI (α:=α) dV.ok deC) rfl ?_
 have l:bitsLen N<=16:=(bitsLen_le_iff _ 16).2 om
 simp(disch:=omega)only[go_sem,dV,aI,jC (n:=(N:Int)) om om]
 refine (NX N h om).mono ?_
 rintro _ i ⟨rfl,c⟩
 subst c
 refine aM ?_
 refine (aaM N i S N 0 N _ d a j A om om om om om (.inl rfl)).mono ?_
 rintro _ k ⟨e,b,p,s,F⟩
 refine aM ?_
 exact⟨e,b,p,s,F⟩
theorem yU (a:Int)(h:H):Ev T 198 [aC a] h (λv h'=>v= .bool false/\h'=h):=by
 refine kV ?_;have e:decide (a≠a)=false:=bT om;exact agW @aI e
def qY (a b:Int):Int:=if a<b then -1 else if b<a then 1 else 0
theorem vY (a b:Int)(h:H):Ev T 147 [aC a,aC b] h (λv h'=>v= aC (qY a b)/\Fr h h'):=by
 refine nL ?_;refine (yU a h).mono ?_;rintro _ c ⟨rfl,rfl⟩;refine aM ?_;refine (yU b c).mono ?_;rintro _ j ⟨rfl,rfl⟩;refine aM ?_;unfold qY
 by_cases c:a<b
 .have d:=cJ c
  simp(disch:=omega)only[go_sem,d,bL c];exact Fr.refl _
 .have d:=bT c
  by_cases f:b<a
  .have i:=cJ f
   simp(disch:=omega)only[go_sem,d,i,bV c,bL f];exact Fr.refl _
  .have i:=bT f
   simp(disch:=omega)only[go_sem,d,i,bV c,bV f];exact Fr.refl _
def KL:List Int->Int
 | []=>0
 |x::r=>if x=0 then KL r else x
theorem SE {l:List Int}{i:Nat}(hi:i<l.length)(h:l.getD i 0=0):KL (l.drop i)=KL (l.drop (i+1)):=by
 rw[Ij hi];show (if l[i]=0 then _ else _)=_;rw[bL (by rw[List.getD,dC hi] at h;exact h)]
theorem YF {l:List Int}{i:Nat}(hi:i<l.length)(h:l.getD i 0≠0):KL (l.drop i)=l.getD i 0:=by
 rw[Ij hi];show (if l[i]=0 then _ else l[i])=_;have e:l.getD i 0=l[i]:=by rw[List.getD,dC hi];rfl
 rw[bV (by rw[<-e];exact h),e]
theorem agA (u:V)(l:List Int)(h:H)(B:l.length<1000000)(p:SI h u l):Ev T 191 [u] h (λv h'=>v= aC (KL l)/\Fr h h'):=by
 have A:=p.lens;obtain⟨id,j,w,o,z⟩:=p.open;refine yF A ?_;refine aH (λr y t=> ∃(i:Nat),(∃g:Nat->V,y= [u,aC 0,aC 0,g 3,u,aC (l.length:Int),aC i,g 7,g 8])/\i<=l.length/\KL (l.drop i)=KL l/\Fr h t/\r=l.length-i) l.length
   ⟨0,aB rfl,fE _,rfl,Fr.refl h,rfl⟩ ?_
 rintro r q s ⟨i,⟨g,rfl⟩,hi,c,f,rfl⟩
 by_cases b:(i:Int)<(l.length:Int)
 .have n:=cJ b
  have a:i<l.length:=om
  have ci:s.cell id (j+i)=some (aC (l.getD i 0)):=by rw[f.cell (o om),z i a]
  generalize m:l.getD i 0=x at ci;refine dQ n @w.ixa ci ?_
  by_cases d:x=0
  .have k:decide (x≠0)=false:=bT (by simpa using d)
   refine bE k ?_;rw[eJ i];exact⟨l.length-(i+1),om,i+1,aB rfl,om,by rw[<-SE a (m.trans d)];exact c,f.bU om,rfl⟩
  .have k:=cJ d
   refine bE k ?_;exact⟨by rw[<-c,YF a (by rw[m];exact d),m],f.bU om⟩
 have n:=bT b;obtain rfl:i=l.length:=om
 refine bE n ?_;rw[List.drop_length] at c;exact⟨by rw[<-c];rfl,f⟩
structure KE where
 rep:V
 ord:Nat
 size:Nat
 ranks:V
 fst:Nat
 hrep:rep.cells= [rep]/\rep.one=true/\dM rep rep=true
 hranks:ranks.cells= [ranks]/\ranks.one=true/\dM ranks ranks=true
instance:Inhabited KE:=⟨⟨.aD,0,0,.aD,0,⟨rfl,rfl,rfl⟩,⟨rfl,rfl,rfl⟩⟩⟩
def KE.enc (a:KE):List V:= [a.rep,aC (a.ord:Int),aC (a.size:Int),a.ranks]
def KE.cmp (a b:KE):Int:=KL [qY a.ord b.ord,qY a.size b.size,qY a.fst b.fst]
def KE.lt (a b:KE):Bool:=decide (a.cmp b<0)
theorem Dq (a:KE)(h:H):An h (.agg a.enc)=some (.ptr h.next 0,h.new (.cells false a.enc)):=sQ h _ (by simp [KE.enc,a.hrep.2.1,a.hranks.2.1,show (aC (a.ord:Int)).one=true from rfl,show (aC (a.size:Int)).one=true from rfl])
theorem GA (a b:KE)(h:H):Ev T 188 [.agg a.enc,.agg b.enc] h (λv h'=>v= aC (qY a.ord b.ord)/\Fr h h'):=by
 refine kV ?_;obtain⟨A,f⟩:=exI h.next;obtain⟨w,n,d,j,x,o⟩:=dF f a.enc;obtain⟨c,s,u,m,r,l⟩:=dF d b.enc;have k:c.get A=some (.cells false a.enc):=by rw[r _ om];exact j
 have q:c.cell A 1=some (aC (a.ord:Int)):=by rw[H.cell_of k];rfl
 have i:c.cell (A+1) 1=some (aC (b.ord:Int)):=by rw[H.cell_of m];rfl
 refine qL @aI @Dq f n d s q i ?_;refine (vY _ _ c).mono ?_;rintro _ t ⟨rfl,p⟩;refine aM ?_;exact (o.trans l).trans p
theorem yA (a b:KE)(h:H):Ev T 189 [.agg a.enc,.agg b.enc] h (λv h'=>v= aC (qY a.size b.size)/\Fr h h'):=by
 refine kV ?_;obtain⟨A,f⟩:=exI h.next;obtain⟨w,n,d,j,x,o⟩:=dF f a.enc;obtain⟨c,s,u,m,r,l⟩:=dF d b.enc;have k:c.get A=some (.cells false a.enc):=by rw[r _ om];exact j
 have q:c.cell A 2=some (aC (a.size:Int)):=by rw[H.cell_of k];rfl
 have i:c.cell (A+1) 2=some (aC (b.size:Int)):=by rw[H.cell_of m];rfl
 refine qL @aI @Dq f n d s q i ?_;refine (vY _ _ c).mono ?_;rintro _ t ⟨rfl,p⟩;refine aM ?_;exact (o.trans l).trans p
def KE.At (h:H)(a:KE):Prop:= ∃id off n cap,a.ranks= .sl id off (n+1) cap/\id<h.next/\h.cell id off=some (aC (a.fst:Int))
theorem JJ (a b:KE)(h:H)(w:a.At h)(B:b.At h):Ev T 190 [.agg a.enc,.agg b.enc] h (λv h'=>v= aC (qY a.fst b.fst)/\Fr h h'):=by
 refine kV ?_;obtain⟨A,t⟩:=exI h.next;obtain⟨h1,Z,x,R,o1,J⟩:=dF t a.enc;obtain⟨c,L,n2,G,N,Y⟩:=dF x b.enc;have⟨p,r,P,K,ea,W,y⟩:=w;have⟨o,k,F,Q,O,lb,z⟩:=B;have F2:=J.trans Y;have U:c.get A=some (.cells false a.enc):=by rw[N _ om];exact R
 have l:c.cell A 3=some a.ranks:=by rw[H.cell_of U];rfl
 have i:c.cell (A+1) 3=some b.ranks:=by rw[H.cell_of G];rfl
 rw[ea] at l;rw[O] at i;have s:c.cell p r=some (aC (a.fst:Int)):=by rw[F2.cell W];exact y
 have u:c.cell o k=some (aC (b.fst:Int)):=by rw[F2.cell lb];exact z
 simp(disch:=omega)only[go_sem,aI,Dq,t,Z,x,L,l,i,s,u];refine (vY _ _ _).mono ?_;rintro _ d ⟨rfl,f3⟩;have f:Fr c d:=((Fr.refl c).bU om).trans f3;have w:=F2.next;have j:d.cell A 3=some (.sl p r (P+1) K):=by rw[f.cell om];exact l
 have m:d.cell (A+1) 3=some (.sl o k (F+1) Q):=by rw[f.cell om];exact i
 have n:d.cell p r=some (aC (a.fst:Int)):=by rw[f.cell om];exact s
 have q:d.cell o k=some (aC (b.fst:Int)):=by rw[f.cell om];exact u
 refine gX j m n q ?_;exact F2.trans f
theorem yZ {h:H}{A:Nat}{ro:Bool}{a:KE}(b:h.get A=some (.cells ro a.enc)):h.row A 0 4=some a.enc:=by
 simp [H.row,b,sub,KE.enc]
theorem Gm (a:KE):dM (.agg a.enc) (.agg a.enc)=true:=by
 show rJ a.enc a.enc=true;simp [KE.enc,rJ,dM,a.hrep.2.2,a.hranks.2.2]
theorem KE.At.fr {a:KE}{h h':H}(x:a.At h)(f:Fr h h'):a.At h':=by
 have⟨l,j,c,k,i,b,d⟩:=x;exact⟨l,j,c,k,i,kQ b f.next,by rw[f.cell b];exact d⟩
theorem BA (h:H)(x y z:Int):mC h 1 [aC 0] 3 [(0,1,aC x),(1,1,aC y),(2,1,aC z)]=some (.sl h.next 0 3 (.kn 3),h.new (.cells false (ints [x,y,z]))):=rfl
theorem VH (a b:KE)(h:H)(ha:a.At h)(J:b.At h):Ev T 187 [.agg a.enc,.agg b.enc] h (λv h'=>v= aC (a.cmp b)/\Fr h h'):=by
 refine kV ?_;obtain⟨A,t⟩:=exI h.next;obtain⟨h1,Z,y,U,o1,L⟩:=dF t a.enc;obtain⟨i,Q,n2,j,P,Y⟩:=dF y b.enc;have F2:=L.trans Y;have W:i.get A=some (.cells false a.enc):=by rw[P _ om];exact U
 simp(disch:=omega)only[go_sem,aI,Dq,t,Z,y,Q,yZ W,yZ j,Gm,H.Ve];have hn:=F2.next;refine (GA a b _).mono ?_;rintro _ s ⟨rfl,B⟩;have z:Fr i s:=((Fr.refl i).bU om).trans B;have o:s.get (A+1)=some (.cells false b.enc):=by rw[z.get _ om];exact j
 refine cU (yZ o) @Gm ?_;refine (yA a b _).mono ?_;rintro _ N ⟨rfl,x⟩;have l:=z.trans x;have p:N.get (A+1)=some (.cells false b.enc):=by rw[l.get _ om];exact j
 refine cU (yZ p) @Gm ?_;refine (JJ a b _ (ha.fr (F2.trans l)) (J.fr (F2.trans l))).mono ?_;rintro _ d ⟨rfl,u⟩;have m:=l.trans u;have q:d.get (A+1)=some (.cells false b.enc):=by rw[m.get _ om];exact j
 refine cU (yZ q) @Gm ?_;obtain⟨I,R⟩:=exI (i.next+9+9);have n5:=u.next;have n4:=x.next;have n3:i.next+9+12<=s.next:=B.next;refine cU R @BA ?_
 obtain⟨f,c⟩: ∃f:H,f=H.mk ((H.mk d.tr I).new (Ob.cells false (ints [qY a.ord b.ord,qY a.size b.size,qY a.fst b.fst]))).tr d.next:=⟨_,rfl⟩
 rw[<-c];have F:f.get I=bG (ints [qY a.ord b.ord,qY a.size b.size,qY a.fst b.fst]):=by rw[c];exact H.aQ (H.mk d.tr I) _
 have n6:f.next=d.next:=by rw[c]
 have G: ∀k,k≠I->f.get k=d.get k:=λk n=>by rw[c];exact H.bN (H.mk d.tr I) (by simpa using n) _
 have F6:Fr i f:=⟨by have:=m.next;omega,λk n=>by rw[G k om];exact m.get k n⟩
 refine (agA _ [qY a.ord b.ord,qY a.size b.size,qY a.fst b.fst] f siM (SV.all (by simp [aN]) om F _)).mono ?_;rintro _ O ⟨rfl,K⟩;have w:=F6.trans K;have r:O.get (A+1)=some (.cells false b.enc):=by rw[w.get _ om];exact j
 refine cU (yZ r) @Gm ?_;exact⟨rfl,F2.trans w⟩
theorem KE.lt_iff (a b:KE):a.lt b=true↔a.ord<b.ord\/a.ord=b.ord/\(a.size<b.size\/a.size=b.size/\a.fst<b.fst):=by
 unfold KE.lt KE.cmp KL KL KL KL qY;rw[decide_eq_true_eq]
 repeat' split
 all_goals omega
theorem afC:SWO KE.lt where
 irrefl x:=by rw[<-Bool.not_eq_true,KE.lt_iff];omega
 trans x y z h1 h2:=by rw[KE.lt_iff] at*;omega
 ntrans x y z h1 h2:=by rw[<-Bool.not_eq_true,KE.lt_iff] at*;omega
theorem vU: ∀c:C,Ez (λk=>k) c=c
 | .skip=>rfl
 | .reg l=>congrArg C.reg ((Sk λi _=>show WA (λk=>k) i=id i from by
   have⟨d,g,a⟩:=i
   cases a<;>rfl).trans (List.map_id l))
 | .any k n l=>congrArg (C.any k n) ((Sk λi _=>show afT (λk=>k) i=id i from by
   have⟨i,⟨d,g,a⟩,h,j⟩:=i
   cases a<;>rfl).trans (List.map_id l))
 | .seq a b=>by rw[Ez,vU a,vU b]
 | .ite x a b=>by rw[Ez,vU a,vU b]
 | .block i c=>by rw[Ez,vU c]
 | .loop c=>by rw[Ez,vU c]
 | .exit i=>rfl
 | .ret=>rfl
 | .range f p a b=>rfl
 | .fail=>rfl
theorem ZX (o:Option Ay.Fn):o.map (Qh λk=>k)=o:=by
 cases o with
 |none=>rfl
 |some f=>
  show some (Qh _ f)=_;unfold Qh;rw[vU]
def KE.Pp (hB:H)(b0 S:Nat)(a:KE):Prop:= ∃id off n cap,a.ranks= .sl id off (n+1) cap/\id<b0/\id≠S/\hB.cell id off=some (aC (a.fst:Int))
def Bb (hB:H)(b0 S:Nat)(h:H):Prop:=b0<=h.next/\ ∀q,q<b0->q≠S->h.get q=hB.get q
theorem KE.Pp.at {j h:H}{f S:Nat}{a:KE}(p:a.Pp j f S)(b:Bb j f S h):a.At h:=by
 have⟨id,c,n,d,e,i,k,l⟩:=p;refine⟨id,c,n,d,e,kQ i b.1,?_⟩;rw[<-l];unfold H.cell;rw[b.2 id i k]
@[reducible] def agF (hB:H)(b0 S:Nat):cG KE where
 lt:=KE.lt
 enc:=KE.enc
 P:=KE.Pp hB b0 S
 B:=Bb hB b0 S
 f:=187
 b0:=b0
 S:=S
 swo:=afC
 len _:=rfl
 one a:=by simp [KE.enc,a.hrep.2.1,a.hranks.2.1,show (aC (a.ord:Int)).one=true from rfl,show (aC (a.size:Int)).one=true from rfl]
 eqv:=Gm
 cmp h a b hb pa pb:=(VH a b h (pa.at hb) (pb.at hb)).mono λv h' ⟨e,f⟩=>⟨_,e,rfl,f⟩
 bfr h h' b f:=⟨kP b.1 f.next,λq h1 h2=>by rw[f.get q (kQ h1 b.1)];exact b.2 q h1 h2⟩
 bS h h' b f:=⟨kP b.1 f.next,λq h1 h2=>by rw[f.get q (kQ h1 b.1) h2];exact b.2 q h1 h2⟩
 bR h h' R b hR f:=⟨kP b.1 f.next,λq h1 h2=>by rw[f.get q (kQ h1 b.1) (λe=>by have:q=R:=e;omega)];exact b.2 q h1 h2⟩
 bn h b:=b.1
 ρ:=λk=>k
 hT:=λk _=>(ZX _).symm
 s1:=rfl
 s2:=rfl
 s3:=rfl
theorem KW {l:List KE}{N:Nat}(k:l.length=N){e:Array KE}(n:PermIn 0 N l.toArray e)(s:SortedIn KE.lt 0 N e):e.toList.Perm l/\e.toList.Pairwise (λa b=>KE.lt b a=false):=by
 have⟨o,u,m⟩:=n;have c:e.size=N:=by rw[o];simpa using k
 refine⟨?_,?_⟩
 .have q:(e.extract 0 N).toList=e.toList:=by rw[<-c];simp
  have r:(l.toArray.extract 0 N).toList=l:=by rw[<-k];simp
  rwa [q,r] at m
 .rw[Sr]
  intro i j hi f h;have d:j<N:=by simpa [c] using f
  have:=s i j (fE _) h d;have p:e[i]! =e.toList[i]:=by simp at hi;simp [hi]
  have t:e[j]! =e.toList[j]:=by simp at f;simp [f]
  rw[p,t] at this;exact this
def qQ (l:List KE):List V:=l.flatMap KE.enc
theorem LO (h:H)(S d:Nat)(l:List KE)(f:uF)(m:l.length<60000)(k:h.get S=bG (qQ l))(q:S<h.next)(j:d<=h.next)(o: ∀a∈l,a.Pp h d S):
  Ev T 186 [.sl S 0 l.length f,.fn 187 [] []] h (λ_ h'=> ∃l',h'.get S=bG (qQ l')/\l'.Perm l/\l'.Pairwise (λa b=>KE.lt b a=false)/\Fx (· =S) h h'):=by
 letI:=agF h d S
 have A:iY h S l.length l.toArray:=⟨k,siM,q,rfl,⟨j,λ_ _ _=>rfl⟩,λi hi=>by
  have c:i<l.length:=by simpa using hi
  have:l.toArray[i]! =l[i]:=by simp [c]
  rw[this]
  exact o _ (pN c)⟩
 refine (We h S l.length l.toArray f m A).mono ?_
 rintro _ h' ⟨e,n,p,s,F⟩
 obtain⟨r,t⟩:=KW rfl p s
 exact⟨e.toList,n.get,r,t,F⟩
end Go.Proofs.YtcdbmkidaecdiaaGreat.Cls
namespace Go.Proofs.YtcdbmkidaecdiaaGreat
open Go Go.Ay Go.Pm
section
variable {i j p:Nat} {S:LN} {Q:List Nat}
section
variable {n:Nat} {G:List Nat->Prop} {L:LN}
theorem tT {l:LN}(nd:l.Nodup)(hi:i<l.length)(b:j<l.length)(e:l.getD i []=l.getD j []):i=j:=by
 have c:l.getD i []=l[i]:=by rw[List.getD,dC hi];rfl
 have d:l.getD j []=l[j]:=by rw[List.getD,dC b];rfl
 rw[c,d] at e;have h:=Sr.1 nd;rcases Nat.lt_trichotomy i j with a|a|a
 .exact absurd e (h i j hi b a)
 .exact a
 .exact absurd e.symm (h j i b hi a)
def cR (G:List Nat->Prop)(L:LN)(i j:Nat):Prop:=cj G (L.getD i []) (L.getD j [])
open Classical in
noncomputable def kF (G:List Nat->Prop)(L:LN)(i:Nat):List Nat:=(List.range L.length).filter λj=>decide (cR G L i j)
theorem oX:j∈kF G L i↔j<L.length/\cR G L i j:=by
 classical
 unfold kF;rw[Re,wY,tU]
theorem Tw (i:Nat):(kF G L i).Pairwise (· < ·):=by
 classical
 unfold kF;exact List.Pairwise.filter _ List.pairwise_lt_range
theorem Al (i:Nat):(kF G L i).Nodup:=by
 classical
 unfold kF;exact List.Pairwise.filter _ List.nodup_range
def Lb (G:List Nat->Prop)(L:LN)(i:Nat):Prop:= ∀j,j<i-> ¬cR G L j i
open Classical in
noncomputable def dD (G:List Nat->Prop)(L:LN)(k:Nat):List Nat:=(List.range k).filter λj=>decide (Lb G L j)
theorem oE (k:Nat):(Lb G L k->dD G L (k+1)=dD G L k++ [k])/\(¬Lb G L k->dD G L (k+1)=dD G L k):=by
 classical
 unfold dD;rw[List.range_succ,List.filter_append];refine⟨λh=>?_,λh=>?_⟩
 .rw[List.filter_cons_of_pos (by simpa using h)];rfl
 .rw[List.filter_cons_of_neg (by simpa using h),List.filter_nil,qV]
theorem kX {k:Nat}:i∈dD G L k↔i<k/\Lb G L i:=by
 classical
 unfold dD;rw[Re,wY,tU]
variable (hG:eM n G) (E:dR G L)
include hG E
omit hG in
theorem tY (hi:i<L.length):G (L.getD i []):=(E.mem _).1 (aV hi)
theorem jJ (hi:i<L.length):aY n (L.getD i []):=hG.bM (tY E hi)
theorem Cs (hi:i<L.length):cR G L i i:=WX hG (jJ hG E hi)
theorem Bx (hi:i<L.length)(h:cR G L i j):cR G L j i:=WW hG (jJ hG E hi) h
theorem oP {k:Nat}(hi:i<L.length)(h:cR G L i j)(h2:cR G L j k):cR G L i k:=QH hG (jJ hG E hi) h h2
theorem Pb (hi:i<L.length): ∃r,r<=i/\Lb G L r/\cR G L r i:=by
 induction i using Nat.strongRecOn with
 |_ i ih=>
  by_cases h:Lb G L i
  .exact⟨i,eU _,h,Cs hG E hi⟩
  .obtain⟨j,a,b⟩: ∃j,j<i/\cR G L j i:=zQ λf=>h λj a b=>f ⟨j,a,b⟩
   obtain⟨r,k,c,d⟩:=ih j a om;exact⟨r,om,c,oP hG E om d b⟩
theorem KZ {r s:Nat}(b:r<L.length)(c:s<L.length)(l:Lb G L r)(h2:Lb G L s)(d:cR G L r i)(a:cR G L s i):r=s:=by
 have f:=oP hG E b d (Bx hG E c a);have k:=oP hG E c a (Bx hG E b d);rcases Nat.lt_trichotomy r s with h|h|h
 .exact absurd f (h2 r h)
 .exact h
 .exact absurd k (l s h)
omit hG E in
structure BQ (G:List Nat->Prop)(L S:LN)(i:Nat)(Q:List Nat)(p:Nat):Prop where
 nd:Q.Nodup
 ne:0<Q.length
 hd:Q.getD 0 0=i
 mem: ∀j∈Q,j<L.length/\cR G L i j
 cl: ∀k,k<p-> ∀s∈S,∃j∈Q,L.getD j []=aX (L.getD (Q.getD k 0) []) s
omit hG E in
theorem BQ.len (b:BQ G L S i Q p):Q.length<=L.length:=by
 have h:Q ⊆ List.range L.length:=λj a=>wY.2 (b.mem j a).1
 have:=List.Nodup.length_le_of_subset b.nd h;rwa [Ng] at this
theorem BQ.done (b:BQ G L S i Q p)(w:Q.length<=p)(hi:i<L.length)(q: ∀s∈S,G s)(a: ∀x,G x->bX n (λg=>g∈S) x)(j:Nat):j∈Q↔j<L.length/\cR G L i j:=by
 refine⟨b.mem j,λ⟨o,hc⟩=>?_⟩
 have d: ∃k∈Q,L.getD k []=L.getD j []:=by
  refine aeF (S:=λg=>g∈S) (λg h=>hG.bM (q g h)) a (P:=λy=> ∃k∈Q,L.getD k []=y) (jJ hG E hi) ⟨i,by rw[<-b.hd];exact aV b.ne,rfl⟩ ?_ hc;rintro y g Y ⟨k,c,rfl⟩ h;obtain⟨t,m,v⟩:=rV.1 c;obtain⟨u,r,l⟩:=b.cl t om g h;have e:Q.getD t 0=k:=by rw[Pm.bJ m,v]
  rw[e] at l;exact⟨u,r,l⟩
 have⟨k,c,e⟩:=d;have f:=(b.mem k c).1;rw[<-tT E.nodup f o e];exact c
theorem BQ.sort (b:BQ G L S i Q p)(d:Q.length<=p)(hi:i<L.length)(f: ∀s∈S,G s)(a: ∀x,G x->bX n (λg=>g∈S) x){c:List Int}(k:c.Perm (zi Q))(h2:c.Pairwise (· <= ·)):c=zi (kF G L i):=by
 refine Tu (k.trans ?_) h2 ?_
 .refine List.Perm.map _ ((List.perm_ext_iff_of_nodup b.nd (Al i)).2 λj=>?_)
  rw[b.done hG E d hi f a j,oX]
 .unfold zi
  rw[List.pairwise_map];exact (Tw i).imp λh=>om
theorem Mb (hi:i<L.length)(m:Lb G L i):0<(kF G L i).length/\(kF G L i).getD 0 0=i:=by
 have f:i∈kF G L i:=oX.2 ⟨hi,Cs hG E hi⟩;have a:=Ss f;refine⟨a,?_⟩;have o:=oX.1 (aV (d:=0) a);obtain⟨k,h,l⟩:=rV.1 f;have c:=Sr.1 (Tw (G:=G) (L:=L) i);rw[Pm.bJ a] at*
 by_cases b:k=0
 .subst b;exact l
 .have q:=c 0 k a h om
  exact absurd (Bx hG E hi o.2) (m _ om)
end
end
end Go.Proofs.YtcdbmkidaecdiaaGreat
namespace Go.Ay
open Go
def OT (o:Option Ob)(h:H)(id:Nat)(s:Bp)(k y:V):Option (V×H):=match o with
 |some (.wmap sh es)=>if s=sh/\isKey s k=true then
   some (V.undef,h.set id (some (.wmap sh (match iO k es with
    |some e=>es.set e.1 (k,y)
    |none=>es++ [(k,y)]))))
  else none
 |_=>none
def acE (s:Bp)(h:H)(x k y:V):Option (V×H):=match x with
 | .mp id=>OT (h.get id) h id s k y
 |_=>none
theorem abI (ρ:X->V)(h:H)(s:Bp)(x k y:X):fJ ρ h (.msw s x k y)=acE s h (ρ x) (ρ k) (ρ y):=by
 simp only[fJ,acE,OT];cases ρ x<;>try rfl
theorem aaN (s:Bp)(h:H)(id:Nat)(k y:V):acE s h (.mp id) k y=OT (h.get id) h id s k y:=rfl
def PC (o:Option Ob)(s:Bp)(zero:V)(ok:Bool)(k:V):Option V:=match o with
 |some (.wmap sh es)=>if s=sh/\isKey s k=true then
   match iO k es with
   |some e=>some (if ok then .tup [e.2,.bool true] else e.2)
   |none=>some (if ok then .tup [zero,.bool false] else zero)
  else none
 |_=>none
def afM (s:Bp)(zero:V)(ok:Bool)(h:H)(x k:V):Option V:=match x with
 | .mp id=>PC (h.get id) s zero ok k
 |_=>none
theorem UM (ρ:X->V)(h:H)(s:Bp)(zero:V)(ok:Bool)(x k:X):fJ ρ h (.lkw s zero ok x k)=(afM s zero ok h (ρ x) (ρ k)).map (·,h):=by
 simp only[fJ,afM,PC];cases ρ x<;>try rfl
 rename_i id;simp only
 cases hg:h.get id with
 |none=>rfl
 |some o=>
  cases o<;>try rfl
  rename_i c b;simp only
  by_cases a:s=c/\isKey s (ρ k)=true
  .rw[bL a,bL a]
   cases iO (ρ k) b<;>rfl
  .rw[bV a,bV a];rfl
theorem UJ (s:Bp)(zero:V)(ok:Bool)(h:H)(id:Nat)(k:V):afM s zero ok h (.mp id) k=PC (h.get id) s zero ok k:=rfl
attribute [go_sem] abI aaN UM UJ
end Go.Ay
namespace Go.Proofs.YtcdbmkidaecdiaaGreat
open Go Go.Ay Go.Pm
set_option maxRecDepth 100000
def Fg (L:LN)(k:Nat):List (V×V):=(List.range k).map λi=>(V.str (L.getD i []),aC i)
theorem Dz (k:V):(a b:List (V×V))->iO k a=none->iO k (a++b)=(iO k b).map λq=>(q.1+a.length,q.2)
 | [],b,_=>by
  cases h:iO k b<;>simp [h]
 |e::a,b,h=>by
  show (if dM k e.1 then some (0,e.2) else (iO k (a++b)).map λq=>(q.1+1,q.2))=_;have c:(if dM k e.1 then some (0,e.2) else (iO k a).map λq=>(q.1+1,q.2))=none:=h;split at c
  .cases c
  .rename_i d
   rw[bV d,Dz k a b (by cases h2:iO k a with|none=>rfl|some x=>rw[h2] at c;cases c),Option.map_map]
   rfl
theorem Jf (L:LN)(k:Nat):Fg L (k+1)=Fg L k++ [(V.str (L.getD k []),aC k)]:=by
 unfold Fg;rw[List.range_succ,List.map_append];rfl
theorem Kv {L:LN}{w:List Nat}:{k:Nat}->(∀i,i<k->L.getD i []≠w)->iO (.str w) (Fg L k)=none
 |0,_=>rfl
 |k+1,h=>by
  rw[Jf,Dz _ _ _ (Kv λi hi=>h i om)]
  have:(dM (.str w) (.str (L.getD k [])))=false:=by
   have:=h k om;simp only[dM,beq_eq_false_iff_ne,ne_eq];exact λe=>this e.symm
  show Option.map _ (if dM (.str w) (.str (L.getD k [])) then _ else _)=_;rw[bV (by rw[this];simp)];rfl
theorem Ua {L:LN}(nd:L.Nodup):{k i:Nat}->k<=L.length->i<k->iO (.str (L.getD i [])) (Fg L k)=some (i,aC i)
 |0,i,_,h=>om
 |k+1,i,hk,h=>by
  rw[Jf]
  by_cases e:i=k
  .subst e
   rw[Dz _ _ _ (Kv λj m e=>by have:=tT nd om om e;omega)];show Option.map _ (if dM (.str (L.getD i [])) (.str (L.getD i [])) then some (0,aC i) else _)=_;rw[bL (by simp [dM])];simp [Fg]
  .have l:=Ua nd (k:=k) om (show i<k by omega)
   have d:(a b:List (V×V))->(x:V)->(r:Nat×V)->iO x a=some r->iO x (a++b)=some r:=by
    intro a
    induction a with
    |nil=>intro b x r h;cases h
    |cons y a ih2=>
     intro b x r h;show (if dM x y.1 then some (0,y.2) else (iO x (a++b)).map λq=>(q.1+1,q.2))=_;have c:(if dM x y.1 then some (0,y.2) else (iO x a).map λq=>(q.1+1,q.2))=some r:=h
     by_cases f:dM x y.1=true
     .rw[bL f] at c |-;exact c
     .rw[bV f] at c |-
      cases h2:iO x a with
      |none=>rw[h2] at c;cases c
      |some r2=>rw[h2] at c;rw[ih2 b x r2 h2];exact c
   exact d _ _ _ _ l
theorem vJ {w:List Nat}(b:w.length<=1000)(h2: ∀x∈w,x<256):isKey .str (.str w)=true:=by
 have e:(decide (w.length<2^62)&&w.all λn=>decide (n<256))=true:=by
  rw[rG,decide_eq_true_eq,vE];exact⟨om,λx a=>by simpa using h2 x a⟩
 exact e
theorem Vi {L:LN}(nd:L.Nodup){k:Nat}(b:k<L.length)(a:isKey .str (.str (L.getD k []))=true)(hh:H)(M:Nat):
  OT (some (.wmap .str (Fg L k))) hh M .str (.str (L.getD k [])) (aC k)=some (.undef,hh.set M (some (.wmap .str (Fg L (k+1))))):=by
 have e:iO (.str (L.getD k [])) (Fg L k)=none:=Kv λj c e=>by have:=tT nd om b e;omega
 simp only[OT]
 rw[bL ⟨trivial,a⟩,e,Jf]
theorem Je {L:LN}(nd:L.Nodup){i:Nat}(hi:i<L.length)(a:isKey .str (.str (L.getD i []))=true)(z:V):
  PC (some (.wmap .str (Fg L L.length))) .str z false (.str (L.getD i []))=some (aC i):=by
 simp only[PC]
 rw[bL ⟨trivial,a⟩,Ua nd (eU _) hi];rfl
end Go.Proofs.YtcdbmkidaecdiaaGreat
namespace Go.Proofs.YtcdbmkidaecdiaaGreat
open Go Go.Ay Go.Pm
section
variable {G:List Nat->Prop} {L:LN} {i j n:Nat} {Q:List Nat} {h:H} {v:V}
theorem GK {a:V}(c:a.cells= [a])(b:a.one=true)(M N m:Nat):oN [.aD,.nilm,.aD,.aD] [(0,1,a),(1,1,.mp M),(3,1,.sl N 0 m (.kn m))]=some (.agg [a,.mp M,.aD,.sl N 0 m (.kn m)]):=by
 simp [oN,iH,putAt,c,b,show (V.mp M).cells= [V.mp M] from rfl,show (V.sl N 0 m (.kn m)).cells= [V.sl N 0 m (.kn m)] from rfl,show (V.mp M).one=true from rfl,show (V.sl N 0 m (.kn m)).one=true from rfl]
theorem KK {a:V}(b:a.one=true)(M N m:Nat)(h:H):An h (.agg [a,.mp M,.aD,.sl N 0 m (.kn m)])=some (.ptr h.next 0,h.new (.cells false [a,.mp M,.aD,.sl N 0 m (.kn m)])):=sQ h _ (by simp [b,show (V.mp M).one=true from rfl,show (V.sl N 0 m (.kn m)).one=true from rfl,show V.aD.one=true from rfl])
open Classical in
noncomputable def Dy (G:List Nat->Prop)(L:LN)(i:Nat)(Q:List Nat)(j:Nat):Bool:=decide ((∃i0,i0<i/\cR G L i0 j)\/j∈Q)
theorem nP:Dy G L i Q j=true↔(∃i0,i0<i/\cR G L i0 j)\/j∈Q:=by classical unfold Dy;simp only[decide_eq_true_eq]
theorem RW (G:List Nat->Prop)(L:LN)(j:Nat):Dy G L 0 [] j=false:=by
 rw[<-Bool.not_eq_true,nP];rintro (⟨a,h,_⟩|h)
 .omega
 .cases h
theorem Xb {k:Nat}:Dy G L i (Q++ [k]) j=if j=k then true else Dy G L i Q j:=by
 by_cases e:j=k
 .rw[bL e,nP];exact .inr (by simp [e])
 .rw[bV e,Lf,nP,nP]
  simp [e]
theorem rY {p:Nat->Option Ay.Fn}{rd:Option Nat}{a:C}{k:Nat}{b:List V}{Q:E->List V->H->Prop}(J:List V->H->Prop)(c:Wp p rd (.loop a) b h (λe v h'=>e= .exit k/\J v h'))(h2: ∀v h',J v h'->Q .norm v h'):Wp p rd (.loop a) b h (uH k Q):=
 c.mono λe v h' x=>by
  obtain⟨rfl,x⟩:=x;rw[yL];exact h2 v h' x
theorem cW.ge {sz id off b:Nat}{ws:List V}(o:cW h v sz ws b)(a:ws.length=n*sz)(l:0<sz)(s:Sl v sz n id off)(f:0<n):b<=id:=by
 have k:=s.ixa .i64 0 om om;rcases o.sv with ⟨_,rfl⟩|⟨q,d,len,p,u,r,e,c,_⟩
 .have:=Nat.mul_pos f l
  simp at a;omega
 .have w:=(o.in _ _ _ _ e).2.1
  subst e
  have t:0<len:=by
   have:=Nat.mul_pos f l;refine Nat.pos_of_ne_zero λm=>?_
   subst m;simp at c;rw[c] at a;simp at a;omega
  rw[Ih om om] at k;simp only[Option.some.injEq,V.ptr.injEq] at k;omega
theorem TT (o:eM n G)(E:dR G L)(hi:i<L.length)(k: ¬Lb G L i)(j:Nat):Dy G L i [] j=Dy G L (i+1) [] j:=by
 obtain⟨d,m,c⟩: ∃j,j<i/\cR G L j i:=zQ λp=>k λj f c=>p ⟨j,f,c⟩
 rw[Lf,nP,nP];constructor
 .rintro (⟨a,l,b⟩|h)
  .exact .inl ⟨a,om,b⟩
  .cases h
 .rintro (⟨a,l,b⟩|h)
  .by_cases e:a=i
   .subst e;exact .inl ⟨d,m,oP o E om c b⟩
   .exact .inl ⟨a,om,b⟩
  .cases h
theorem SZ {S:LN}(m:eM n G)(E:dR G L)(hi:i<L.length)(b:BQ G L S i Q Q.length)(k: ∀s∈S,G s)(a: ∀x,G x->bX n (λg=>g∈S) x)(f:j<L.length):Dy G L i Q j=Dy G L (i+1) [] j:=by
 rw[Lf,nP,nP];constructor
 .rintro (⟨c,l,d⟩|h)
  .exact .inl ⟨c,om,d⟩
  .exact .inl ⟨i,om,(b.mem j h).2⟩
 .rintro (⟨c,l,d⟩|h)
  .by_cases e:c=i
   .subst e;exact .inr ((b.done m E (eU _) hi k a j).2 ⟨f,d⟩)
   .exact .inl ⟨c,om,d⟩
  .cases h
theorem IM (a:v.cells= [v])(b:v.one=true)(x y:Int):oN [.aD,aC 0,aC 0] [(0,1,v),(1,1,aC x),(2,1,aC y)]=some (.agg [v,aC x,aC y]):=by
 simp [oN,iH,putAt,a,b,show ∀z,(aC z).cells= [aC z] from λ_=>rfl,show ∀z,(aC z).one=true from λ_=>rfl]
theorem GR {w:V}(c:v.one=true)(b:w.cells= [w])(a:w.one=true)(x y:Int):oN [.aD,aC 0,aC 0,.aD] [(0,3,.agg [v,aC x,aC y]),(3,1,w)]=some (.agg [v,aC x,aC y,w]):=by
 simp [oN,iH,putAt,b,c,a,show ∀l,(V.agg l).cells=l from λ_=>rfl,show ∀z,(aC z).one=true from λ_=>rfl]
theorem JF {w:V}(b:v.one=true)(a:w.one=true)(x y:Int)(h:H):mC h 4 [.aD,aC 0,aC 0,.aD] 1 [(0,4,.agg [v,aC x,aC y,w])]=some (.sl h.next 0 1 (.kn 1),h.new (.cells false [v,aC x,aC y,w])):=by
 have e:dT [V.aD,aC 0,aC 0,.aD] 4= [V.aD,aC 0,aC 0,.aD]:=rfl;simp [mC,iH,putAt,e,b,a,show ∀l,(V.agg l).cells=l from λ_=>rfl,show ∀z,(aC z).one=true from λ_=>rfl]
theorem yX (k:Nat):(dD G L k).length<=k:=by
 classical
 unfold dD;exact kP (List.length_filter_le _ _) (by rw[Ng];exact eU _)
theorem Me (ks:List Cls.KE):(Cls.qQ ks).length=ks.length*4:=by
 induction ks with
 |nil=>rfl
 |cons a r ih=>
  show (a.enc++Cls.qQ r).length=_;rw[iB,ih,List.length_cons];show 4+_=_;omega
theorem GP {a b c d:V}(hh:H)(id:Nat)(y:V):eH (some (.cells false [a,b,c,d])) hh id 2 [y]=some (hh.set id (some (.cells false [a,b,y,d]))):=by
 simp [eH,putAt]
theorem aeL {sz:Nat}{ws:List V}(s:SV h v sz ws):Gz (λq=>h.next<=q) v:=by
 cases v with
 |sl id off len cap=>exact λa=>by have:=s.in _ _ _ _ rfl;omega
 |_=>trivial
structure KO (n:Nat)(G:List Nat->Prop)(L:LN)(X:Nat)(W:Nat->Prop)(hh:H)(a:Cls.KE)(r:Nat):Prop where
 fst:a.fst=r
 ord:a.ord=oD (L.getD r []) n
 size:a.size=(kF G L r).length
 rep:PV (λq=>X<=q) hh a.rep (L.getD r [])
 ranks:PV W hh a.ranks (kF G L r)
theorem KO.go {X:Nat}{W W':Nat->Prop}{h':H}{a:Cls.KE}{r:Nat}(k:KO n G L X W h a r)(f:Fx W h h')(o:X<=h.next)(c: ∀q,W q->X<=q)(b: ∀q,q<h.next->W' q->W q):KO n G L X W' h' a r:=
 ⟨k.fst,k.ord,k.size,k.rep.fx ⟨f.next,λq l d=>f.get q l λm=>d (c q m)⟩,PV.go k.ranks f b⟩
structure OfJ (n:Nat)(G:List Nat->Prop)(L:LN)(X D:Nat)(vL:V)(h5:H)(i:Nat)(hh:H):Prop where
 ex: ∃vK ks W,hh.get (X+8)=some (.cells false [vL,.mp (X+3),vK,.sl (X+6) 0 L.length (.kn L.length)])/\cW hh vK 4 (Cls.qQ ks) (D+1)/\aJ (KO n G L X W hh) ks (dD G L i)/\Dp W vK/\W D/\W (X+8)/\W (X+6)/\(∀q,W q->q<hh.next)/\(∀q,W q->X<=q)/\(ks= []\/ ∃id cap,vK= .sl id 0 ks.length cap/\hh.get id=some (.cells false (Cls.qQ ks)))
 gD:hh.get D=some (.cells false (rc L.length λj=> .bool (Dy G L i [] j)))
 old:Fx (λq=>q=X+8\/D<=q) h5 hh
 nx:D<hh.next
def NZ (n:Nat):C->Bool
 | .block k _=>k==n
 | .seq _ b=>NZ n b
 |_=>false
def Pn (n:Nat):C->C
 | .seq a b=>if NZ n a then b else Pn n b
 |c=>c
structure OfE (n:Nat)(G:List Nat->Prop)(L:LN)(X D:Nat)(vL:V)(h h2 h5 h7:H):Prop where
 el:dR G L
 le:L.length<=5040
 f2:Fr h h2
 x2:h2.next=X
 sp:SP h2 vL L
 f25:Fr h2 h5
 xD:X+10<=D
 n5:h5.next=D
 gM:h5.get (X+3)=some (.wmap .str (Fg L L.length))
 gN:h5.get (X+6)=some (.cells false (rc L.length λ_=> aC 0))
 j:OfJ n G L X D vL h5 L.length h7
theorem UP {W0:Nat->Prop}(vc:V)(n:Nat)(O:LN)(R:iA)(G:List Nat->Prop)(h:H)(gc:GC W0 h vc n O R G)(P:V->H->Prop)
  (hk: ∀L X D vL h2 h5 h7 A (g:Nat->V),bZ O R n 0 (bC n)=L->OfE n G L X D vL h h2 h5 h7->Wp T none (Pn 2 mK.fn.body) ([g 0,.ptr A 0,.nilp,aC 0,vL,g 5,.ptr (X+8) 0,g 7,g 8,g 9,g 10,g 11,g 12,g 13,g 14,g 15,g 16,g 17,g 18,g 19,g 20,g 21,g 22,g 23,g 24,g 25,g 26,g 27,g 28,g 29,g 30,g 31,g 32,g 33,g 34,g 35,g 36,g 37,g 38,g 39,g 40,g 41,g 42,g 43,g 44,g 45]) h7 (Cr mK.fn.results P)):
  Ev T 139 [vc] h P:=by
 obtain⟨vO,vR,e,sO,sR⟩:=gc.ch
 subst e
 refine EvZ mK rfl ?_
 have j6:vO.one=true:=EB sO
 have j2:vR.one=true:=Yb sR
 obtain⟨A,hA⟩:=exI h.next
 obtain⟨d,e1,n1,g1,o1,f1⟩:=dF hA [aC n,vO,vR]
 have bx:=aU h (v:= aC n) (u:=vO) (w:=vR) rfl j6 j2
 have rB:=aE g1
 obtain⟨L,hL⟩:=exI (bZ O R n 0 (bC n))
 obtain⟨E,ll⟩:=dA gc.cX gc.isc
 have r5:=dX gc
 rw[hL] at E ll
 have hG:=gc.cX
 have n7:=gc.n7
 have n0:=gc.n0
 simp(disch:=omega)only[go_sem,mK,aI,bx,hA,e1,rB]
 refine (Pa _ n O R G d (gc.mono f1)).mono ?_
 rw[hL]
 rintro _ h2 ⟨vL,rfl,nw⟩
 obtain⟨wL,W,c3,l2,q9,W1⟩:=nw.ex
 have f8:=aJ.length l2
 obtain⟨m,hm⟩:=exI L.length
 rw[hm] at f8
 have f4:=cW.lens c3 f8
 have c9:=c3.sv.cM.2.1
 have f2:=nw.fr
 refine bE f4 ?_
 refine bI (λhc=>(hc rfl).elim) (λ_=>?_)
 obtain⟨X,hX⟩:=exI h2.next
 simp(disch:=omega)only[go_sem,f4,mJ _ m om,hX,GK c3.sv.cM.1 c9,KK c9]
 obtain⟨h3,a1⟩: ∃h3:H,h3=H.mk ((H.mk ((H.mk ((H.mk h2.tr (X+3)).new (Ob.wmap Bp.str [])).tr (X+6)).new (Ob.cells false (rc m λ_=>aC 0))).tr (X+8)).new (Ob.cells false [vL,.mp (X+3),.aD,.sl (X+6) 0 m (.kn m)])).tr (X+10):=⟨_,rfl⟩
 rw[<-a1]
 have n3:h3.next=X+10:=by rw[a1]
 have gB:h3.get (X+8)=some (.cells false [vL,.mp (X+3),.aD,.sl (X+6) 0 m (.kn m)]):=by rw[a1];exact H.aQ (H.mk _ (X+8)) _
 have gN:h3.get (X+6)=some (.cells false (rc m λ_=>aC 0)):=by
  rw[a1];exact (H.bN (H.mk _ (X+8)) (show X+6≠X+8 by omega) _).trans (H.aQ (H.mk _ (X+6)) _)
 have gM:h3.get (X+3)=some (.wmap .str (Fg L 0)):=by
  rw[a1];exact (H.bN (H.mk _ (X+8)) (show X+3≠X+8 by omega) _).trans ((H.bN (H.mk _ (X+6)) (show X+3≠X+6 by omega) _).trans (H.aQ (H.mk _ (X+3)) _))
 have f3:Fr h2 h3:=⟨om,λq hq=>by
  rw[a1]
  exact (H.bN (H.mk _ (X+8)) (show q≠X+8 by omega) _).trans ((H.bN (H.mk _ (X+6)) (show q≠X+6 by omega) _).trans (H.bN (H.mk _ (X+3)) (show q≠X+3 by omega) _))⟩
 clear a1
 have a0: ∀i,i<m->(L.getD i []).length<=1000/\ ∀x∈L.getD i [],x<256:=λi hi=>by
  have P:=jJ hG E (show i<L.length by omega);exact⟨by rw[P.len];omega,λx hx=>by have:=P.lt x hx;omega⟩
 obtain⟨o2,j3,b9,k0,h0⟩:=SV.shape c3.sv m om om
 have e7: ∀i,i<m-> ∃vx,(∀h',Fr h2 h'->h'.cell o2 (j3+i)=some vx)/\SI h2 vx (zi (L.getD i [])):=λi hi=>by
  obtain⟨v,d,b5⟩:=fG.at l2 (i:=i) om;exact⟨v,λh' f=>by rw[f.cell (k0 om),h0 i om,d],b5.si⟩
 have hK: ∀i,i<m->isKey .str (.str (L.getD i []))=true:=λi hi=>vJ (a0 i hi).1 (a0 i hi).2
 refine bY (λvs B=>(∃g:Nat->V,vs= [g 0,.ptr A 0,.nilp,aC 0,vL,g 5,.ptr (X+8) 0,g 7,g 8,g 9,g 10,g 11,g 12,g 13,g 14,g 15,g 16,g 17,g 18,g 19,g 20,g 21,g 22,g 23,g 24,g 25,g 26,g 27,g 28,g 29,g 30,g 31,g 32,g 33,g 34,g 35,g 36,g 37,g 38,g 39,g 40,g 41,g 42,g 43,g 44,g 45])/\B.get (X+3)=some (.wmap .str (Fg L m))/\Fx (· =X+3) h3 B) ?_ ?_
 .refine aH (λk' vs B=> ∃(i:Nat),(∃g:Nat->V,vs= [g 0,.ptr A 0,.nilp,aC 0,vL,g 5,.ptr (X+8) 0,g 7,g 8,g 9,g 10,g 11,g 12,g 13,g 14,g 15,g 16,g 17,g 18,g 19,g 20,g 21,g 22,vL,aC m,aC i,g 26,g 27,g 28,g 29,g 30,g 31,g 32,g 33,g 34,g 35,g 36,g 37,g 38,g 39,g 40,g 41,g 42,g 43,g 44,g 45])/\i<=m/\B.get (X+3)=some (.wmap .str (Fg L i))/\Fx (· =X+3) h3 B/\k'=m-i) m
   ⟨0,aB rfl,fE _,gM,Fx.refl _ h3,rfl⟩ ?_
  rintro k' K h4 ⟨i,⟨g,rfl⟩,hi,b4,F4,rfl⟩
  by_cases a6:(i:Int)<(m:Int)
  case neg=>
   have d4:=bT a6;obtain rfl:i=m:=om
   refine bE d4 ?_;exact⟨aB rfl,b4,F4⟩
  have d4:=cJ a6
  have a3:i<m:=om
  have b1:Fr h2 h4:=⟨by have:=F4.next;omega,λq hq=>by rw[F4.get q om om];exact f3.get q hq⟩
  have c2:h4.get (X+8)=some (.cells false [vL,.mp (X+3),.aD,.sl (X+6) 0 m (.kn m)]):=by rw[F4.get _ om om];exact gB
  obtain⟨vx,cx,sx⟩:=e7 i a3
  have c8:h4.cell (X+8) 1=some (.mp (X+3)):=by rw[H.cell_of c2];rfl
  refine gX d4 @b9.ixa (cx h4 b1) c8 ?_
  refine (DI vx (L.getD i []) _ (a0 i a3).1 (a0 i a3).2 (sx.mono (b1.trans ((Fr.refl h4).bU om)))).mono ?_
  rintro _ h5 ⟨rfl,f5⟩
  have c7:Fr h4 h5:=((Fr.refl h4).bU om).trans f5
  have n4:=F4.next
  have p8:h5.get (X+3)=some (.wmap .str (Fg L i)):=by rw[c7.get _ om];exact b4
  have l3:h5.cell (X+8) 1=some (.mp (X+3)):=by rw[c7.cell om];exact c8
  have pt:=λB=>Vi E.nodup (show i<L.length by omega) (hK i a3) B (X+3)
  refine dQ l3 p8 pt ?_
  rw[eJ i]
  refine⟨by simp [dM],m-(i+1),om,i+1,aB rfl,om,rfl,⟨by have:=c7.next;show h3.next<=h5.next;omega,λq d h2=>by rw[H.aF _ (λe=>h2 e),c7.get q om];exact F4.get q d h2⟩,rfl⟩
 rintro K h4 ⟨⟨g,rfl⟩,b4,F4⟩
 have n4:=F4.next
 have b1:Fr h2 h4:=⟨om,λq hq=>by rw[F4.get q om om];exact f3.get q hq⟩
 have c2:h4.get (X+8)=some (.cells false [vL,.mp (X+3),.aD,.sl (X+6) 0 m (.kn m)]):=by rw[F4.get _ om om];exact gB
 have i2:h4.get (X+6)=some (.cells false (rc m λ_=>aC 0)):=by rw[F4.get _ om om];exact gN
 have k9:=f2.trans b1
 have rA:=aE (h:=h4) (id:=A) (ro:=false) (by rw[k9.get _ om];exact g1)
 refine bE rA ?_
 refine (Oe _ n O R G h4 (gc.mono (f1.trans k9))).mono ?_
 rintro _ h5 ⟨vS,rfl,nS⟩
 have f5:=nS.fr
 obtain⟨D,hD⟩:=exI h5.next
 obtain⟨h6,e6,n6,g6,o6,f6⟩:=dF hD (rc m λ_=>V.bool false)
 refine gX f4 @Fe hD e6 ?_
 have e4:=b1.trans f5
 have q7:=e4.next
 have n5:=f5.next
 obtain⟨wS,WS,d6,e0,q6,o4⟩:=nS.ex
 obtain⟨S,hS⟩:=exI (cI R)
 rw[hS] at e0
 have m8:=aJ.length e0
 have a2: ∀s∈S,G s:=λs hs=>cH gc.isc (by rw[hS];exact hs)
 have b7: ∀x,G x->bX n (λg=>g∈S) x:=λx hx=>by rw[<-hS];exact lX hG gc.isc hx
 obtain⟨sl,e3⟩:=exI S.length
 have q1:sl<=49:=by
  have d: ∀j,j<R.length->(R.getD j []).length<=n:=λj U=>by
   have c5:j<n:=by rw[<-gc.isc.lr];exact U
   rw[gc.isc.rl j c5];have:=kC (λx hx=>hG.bM hx) c5 (gc.isc.asc j c5) (gc.isc.mem j c5);omega
  have h2:=sG (n:=n) (R:=R) (eU _) d;rw[List.take_length,hS,e3,gc.isc.lr] at h2;have:n*n<=7*7:=Nat.mul_le_mul n7 n7;omega
 have q0:=cW.lens d6 (m8.trans e3)
 obtain⟨b6,i6,i8,j8,p9⟩:=SV.shape d6.sv sl om om
 have p6:=cW.ge d6 (n:=sl) om om i8
 have o7: ∀t,t<sl-> ∃vy,(∀B,Fx (λq=>q=X+8\/D<=q) h5 B->B.cell b6 (i6+t)=some vy)/\PV (λq=>q=X+8\/D<=q) h5 vy (S.getD t []):=λt ht=>by
  obtain⟨v,d,b5⟩:=fG.at e0 (i:=t) om;have hi:=j8 om;have r1:h4.next<=b6:=p6 om;refine⟨v,λB f=>?_,b5.jK λid r0 hw=>o4 id ?_⟩
  .have e:B.get b6=h5.get b6:=f.get b6 hi om
   unfold H.cell;rw[e];have:=p9 t om;rw[d] at this;exact this
  .rcases hw with e|e
   .omega
   .omega
 have J0:OfJ n G L X D vL h5 0 h6:=
  ⟨⟨.aD, [],λq=>q=D\/q=X+8\/q=X+6,by rw[f6.get _ om,f5.get _ om,hm];exact c2,cW.aD _ _ _,trivial,λ_ _ _ _ e=>(by cases e),.inl rfl,.inr (.inl rfl),.inr (.inr rfl),λq h=>by rcases h with h|h|h<;>omega,λq h=>by rcases h with h|h|h<;>omega,.inl rfl⟩,
   by rw[g6,hm,show (λj=>V.bool (Dy G L 0 [] j))=λ_=>V.bool false from funext λj=>by rw[RW]],Fx.of f6,om⟩
 refine bY (λvs B=>(∃g:Nat->V,vs= [g 0,.ptr A 0,.nilp,aC 0,vL,g 5,.ptr (X+8) 0,g 7,g 8,g 9,g 10,g 11,g 12,g 13,g 14,g 15,g 16,g 17,g 18,g 19,g 20,g 21,g 22,g 23,g 24,g 25,g 26,g 27,g 28,g 29,g 30,g 31,g 32,g 33,g 34,g 35,g 36,g 37,g 38,g 39,g 40,g 41,g 42,g 43,g 44,g 45])/\OfJ n G L X D vL h5 m B) ?_ ?_
 .refine aH (λk' vs B=> ∃(i:Nat),(∃g:Nat->V,vs= [g 0,.ptr A 0,.nilp,aC 0,vL,g 5,.ptr (X+8) 0,g 7,g 8,vS,.sl D 0 m (.kn m),g 11,g 12,g 13,g 14,g 15,g 16,g 17,g 18,g 19,g 20,g 21,g 22,g 23,g 24,g 25,g 26,vL,aC m,aC i,g 30,g 31,g 32,g 33,g 34,g 35,g 36,g 37,g 38,g 39,g 40,g 41,g 42,g 43,g 44,g 45])/\i<=m/\OfJ n G L X D vL h5 i B/\k'=m-i) m
   ⟨0,aB rfl,fE _,J0,rfl⟩ ?_
  clear J0
  rintro k' K h7 ⟨i,⟨g,rfl⟩,hi,J,rfl⟩
  by_cases a6:(i:Int)<(m:Int)
  case neg=>
   have d4:=bT a6;obtain rfl:i=m:=om
   refine bE d4 ?_;exact⟨aB rfl,J⟩
  have d4:=cJ a6
  have a3:i<m:=om
  have nD:=J.nx
  have b0:Fr h2 h7:=⟨om,λq hq=>by rw[J.old.get q om om];exact e4.get q hq⟩
  obtain⟨vx,cx,sx⟩:=e7 i a3
  have cD:=iJ J.gD (i:=i) om
  by_cases hr:Lb G L i
  case neg=>
   have d9:Dy G L i [] i=true:=by
    rw[nP];exact .inl (zQ λhn=>hr λj U hc=>hn ⟨j,U,hc⟩)
   rw[d9] at cD;refine gX d4 @b9.ixa (cx h7 b0) cD ?_;rw[eJ i];refine⟨m-(i+1),om,i+1,aB rfl,om,?_,rfl⟩;refine⟨?_,?_,J.old,J.nx⟩
   .rw[(oE i).2 hr];exact J.ex
   .rw[J.gD,cT λj _=>by rw[TT hG E (show i<L.length by omega) hr j]]
  have d9:Dy G L i [] i=false:=by
   rw[<-Bool.not_eq_true,nP];rintro (⟨j,U,hc⟩|h)
   .exact hr j U hc
   .cases h
  rw[d9] at cD
  obtain⟨h8,e8,n8,g8,o8⟩:=lU h7 D ((rc L.length λj=> .bool (Dy G L i [] j)).set i (.bool true))
  obtain⟨Z,hZ⟩:=exI h8.next
  obtain⟨h9,e9,n9,g9,o9,f9⟩:=dF hZ [aC i]
  have pt:=cF (vs:=rc L.length λj=> .bool (Dy G L i [] j)) (off:=i) (by rw[iK];omega)
  clear bx gc sO sR rB rA h0 i2 c2 g1 o1 f1 f3 gB gN gM
  simp(disch:=omega)only[go_sem,d4,b9.ixa,cx h7 b0,cD,J.gD,pt,e8,cQ h8 (z:= aC 0) (v:= aC i) rfl rfl,hZ,e9]
  have q8:h7.next=Z:=om
  have a8:(rc L.length λj=>V.bool (Dy G L i [] j)).set i (.bool true)=rc L.length λj=> .bool (Dy G L i [i] j):=by
   rw[jL]
   exact cT λj _=>by
    rw[show [i]= []++ [i] from rfl,Xb]
    by_cases e:j=i
    .rw[bL e,bL e]
    .rw[bV e,bV e]
  have f0:Fx (· =D) h7 h9:=⟨om,λq d h2=>by rw[o9 q om,o8 q h2]⟩
  have B0:BQ G L S i [i] 0:=⟨siM,siM,rfl,λj U=>by
   obtain rfl:j=i:=by simpa using U
   exact⟨om,Cs hG E om⟩,λk hk=>om⟩
  refine bY (λvs B=> ∃(Q:List Nat) (q:Nat) (o:uF),(∃g:Nat->V,vs= [g 0,.ptr A 0,.nilp,aC 0,vL,g 5,.ptr (X+8) 0,g 7,g 8,vS,.sl D 0 m (.kn m),aC i,vx,.sl q 0 Q.length o,g 14,g 15,g 16,g 17,g 18,g 19,g 20,g 21,g 22,g 23,g 24,g 25,g 26,vL,aC m,aC i,g 30,g 31,g 32,g 33,g 34,g 35,g 36,g 37,g 38,g 39,g 40,g 41,g 42,g 43,g 44,g 45])/\
    BQ G L S i Q Q.length/\(o= .un 1\/o= .kn Q.length)/\B.get q=some (.cells false (ints (zi Q)))/\Z<=q/\q<B.next/\B.get D=some (.cells false (rc L.length λj=> .bool (Dy G L i Q j)))/\Fx (· =D) h7 B) ?_ ?_
  .refine aH (λk' vs B=> ∃(Q:List Nat) (q:Nat) (o:uF) (p:Nat),(∃g:Nat->V,vs= [g 0,.ptr A 0,.nilp,aC 0,vL,g 5,.ptr (X+8) 0,g 7,g 8,vS,.sl D 0 m (.kn m),aC i,vx,.sl q 0 Q.length o,aC p,g 15,g 16,g 17,g 18,g 19,g 20,g 21,g 22,g 23,g 24,g 25,g 26,vL,aC m,aC i,g 30,g 31,g 32,g 33,g 34,g 35,g 36,g 37,g 38,g 39,g 40,g 41,g 42,g 43,g 44,g 45])/\
    p<=Q.length/\BQ G L S i Q p/\(o= .un 1\/o= .kn Q.length)/\B.get q=some (.cells false (ints (zi Q)))/\Z<=q/\q<B.next/\B.get D=some (.cells false (rc L.length λj=> .bool (Dy G L i Q j)))/\Fx (· =D) h7 B/\k'=m-p) m
    ⟨[i],Z,_,0,aB rfl,fE _,B0,.inr rfl,g9,eU _,om,by rw[o9 _ om,g8,a8],f0,rfl⟩ ?_
   clear f0 B0 e8 n8 g8 o8 hZ e9 n9 g9 o9 f9 pt a8
   rintro k' K ha ⟨Q,q,o,p,⟨g2,rfl⟩,hp,l,F,gq,hq,nq,gD,Fa,rfl⟩
   have a5:=l.len
   by_cases c0:(p:Int)<(Q.length:Int)
   case neg=>
    have d5:=bT c0;obtain rfl:p=Q.length:=om
    refine bE d5 ?_;exact⟨Q,q,o,aB rfl,l,F,gq,hq,nq,gD,Fa⟩
   have d5:=cJ c0
   have N:p<Q.length:=om
   refine cU d5 q0 ?_
   obtain⟨c,hc⟩:=exI (Q.getD p 0)
   obtain⟨i7,m3⟩:=l.mem c (by rw[<-hc];exact aV N)
   have Cp:=jJ hG E i7
   refine rY (λvs B=> ∃(Q:List Nat) (q:Nat) (o:uF),(∃g:Nat->V,vs= [g 0,.ptr A 0,.nilp,aC 0,vL,g 5,.ptr (X+8) 0,g 7,g 8,vS,.sl D 0 m (.kn m),aC i,vx,.sl q 0 Q.length o,aC p,g 15,g 16,g 17,g 18,g 19,g 20,g 21,g 22,g 23,g 24,g 25,g 26,vL,aC m,aC i,g 30,g 31,g 32,g 33,g 34,g 35,g 36,g 37,g 38,g 39,g 40,g 41,g 42,g 43,g 44,g 45])/\
     p<Q.length/\BQ G L S i Q (p+1)/\(o= .un 1\/o= .kn Q.length)/\B.get q=some (.cells false (ints (zi Q)))/\Z<=q/\q<B.next/\B.get D=some (.cells false (rc L.length λj=> .bool (Dy G L i Q j)))/\Fx (· =D) h7 B) ?_ ?_
   .refine aH (λk' vs B=> ∃(Q:List Nat) (q:Nat) (o:uF) (t:Nat),(∃g:Nat->V,vs= [g 0,.ptr A 0,.nilp,aC 0,vL,g 5,.ptr (X+8) 0,g 7,g 8,vS,.sl D 0 m (.kn m),aC i,vx,.sl q 0 Q.length o,aC p,g 15,g 16,g 17,g 18,g 19,g 20,g 21,g 22,g 23,g 24,g 25,g 26,vL,aC m,aC i,g 30,g 31,g 32,vS,aC sl,aC t,g 36,g 37,g 38,g 39,g 40,g 41,g 42,g 43,g 44,g 45])/\
     p<Q.length/\t<=sl/\BQ G L S i Q p/\Q.getD p 0=c/\(∀s∈S.take t,∃j∈Q,L.getD j []=aX (L.getD c []) s)/\(o= .un 1\/o= .kn Q.length)/\B.get q=some (.cells false (ints (zi Q)))/\Z<=q/\q<B.next/\B.get D=some (.cells false (rc L.length λj=> .bool (Dy G L i Q j)))/\Fx (· =D) h7 B/\k'=sl-t) sl
     ⟨Q,q,o,0,aB rfl,N,fE _,l,hc,λs hs=>(by simp at hs),F,gq,hq,nq,gD,Fa,rfl⟩ ?_
    clear l F gq hq nq gD Fa hc N a5 c0 d5 hp
    clear Q q o
    rintro k' K hb ⟨Q,q,o,t,⟨g3,rfl⟩,N,ht,l,hc,f7,F,gq,hq,nq,gD,Fb,rfl⟩
    by_cases i9:(t:Int)<(sl:Int)
    case neg=>
     have d5:=bT i9;obtain rfl:t=sl:=om
     refine bE d5 ?_;refine⟨Q,q,o,aB rfl,N,⟨l.nd,l.ne,l.hd,l.mem,λk hk s hs=>?_⟩,F,gq,hq,nq,gD,Fb⟩
     by_cases e:k=p
     .subst e
      rw[hc];exact f7 s (by rw[<-e3,List.take_length];exact hs)
     .exact l.cl k om s hs
    have d5:=cJ i9
    have o0:t<sl:=om
    have a5:=l.len
    have nb:=Fb.next
    have d8:Fx (λq=>q=X+8\/D<=q) h5 hb:=⟨by have:=J.old.next;omega,λq d h2=>by rw[Fb.get q om (λe=>h2 (.inr (by have:q=D:=e;omega)))];exact J.old.get q d h2⟩
    have c1:Fr h2 hb:=⟨om,λq hq=>by rw[Fb.get q om (λe=>by have:q=D:=e;omega)];exact b0.get q hq⟩
    obtain⟨vy,cy,py⟩:=o7 t o0
    obtain⟨vz,cz,sz⟩:=e7 c om
    obtain⟨s,hs⟩:=exI (S.getD t [])
    rw[hs] at py
    have c6:s∈S:=by rw[<-hs];exact aV om
    have Sp:=hG.bM (a2 s c6)
    have cq:hb.cell q p=some (aC c):=by rw[H.cell_of gq,Fq N,hc]
    refine kA d5 @i8.ixa (cy hb d8) cq @b9.ixa (cz hb c1) ?_
    refine (zI tB.ok vy n s _ om Sp ((py.fx d8).si.mono ((Fr.refl hb).bU om))).mono ?_
    rintro m2 k1 i1
    have K1:Fr hb k1:=((Fr.refl hb).bU om).trans i1.fr
    have l4:k1.cell q p=some (aC c):=by rw[K1.cell nq];exact cq
    have ez:=sz.dM
    refine dQ l4 (cz k1 (c1.trans K1)) ez ?_
    refine (Wh m2 vz (cK s) (L.getD c []) k1 (by rw[iI,Sp.len];omega) (i1.pv (W:=λ_=>False) id).si (sz.mono (c1.trans K1)) (λj U=>by rw[Cp.len];exact Sp.inv.fZ (by rw[<-Sp.inv.len];exact U))).mono ?_
    rintro l9 k2 j4
    have K2:=K1.trans j4.fr
    have P2:=Sp.inv.mul Cp
    refine aM ?_
    refine (Wh l9 vy _ s k2 (by rw[P2.len];omega) (j4.pv (W:=λ_=>False) id).si ((py.fx d8).si.mono K2) (λj U=>by rw[Sp.len];exact P2.fZ (by rw[<-P2.len];exact U))).mono ?_
    rintro l8 k3 j7
    have K3:=K2.trans j7.fr
    have P3:=P2.mul Sp
    have m9:k3.cell q p=some (aC c):=by rw[K3.cell nq];exact cq
    have d1:=(j7.pv (W:=λ_=>False) id).si
    have r2:=d1.cM.2.1
    have d3: ∃vK,k3.get (X+8)=some (.cells false [vL,.mp (X+3),vK,.sl (X+6) 0 L.length (.kn L.length)]):=by
     obtain⟨vK,_,_,gB,_⟩:=J.ex;exact⟨vK,by rw[K3.get _ om,Fb.get _ om (λe=>by have:X+8=D:=e;omega)];exact gB⟩
    obtain⟨vK,d3⟩:=d3
    have i4:k3.cell (X+8) 1=some (.mp (X+3)):=by rw[H.cell_of d3];rfl
    obtain⟨j,U,ej⟩: ∃j,j<L.length/\L.getD j []=aX (L.getD c []) s:=by
     have p2:aX (L.getD c []) s∈L:=(E.mem _).2 (hG.mul (hG.mul (hG.inv (a2 s c6)) (tY E i7)) (a2 s c6));obtain⟨j,U,ej⟩:=rV.1 p2;exact⟨j,U,by rw[List.getD,dC U,<-ej];rfl⟩
    have p5:aS (aS (cK s) (L.getD c [])) s=L.getD j []:=ej.symm
    rw[p5] at d1
    refine gX m9 (cz k3 (c1.trans K3)) i4 ez ?_
    refine (DI l8 (L.getD j []) _ (a0 j om).1 (a0 j om).2 (d1.mono ((Fr.refl k3).bU om))).mono ?_
    rintro _ k4 ⟨rfl,l5⟩
    have j9:Fr k3 k4:=((Fr.refl k3).bU om).trans l5
    have K4:=K3.trans j9
    have r4:=K3.next
    have d0:k4.get (X+3)=some (.wmap .str (Fg L L.length)):=by
     rw[K4.get _ om,Fb.get _ om (λe=>by have:X+3=D:=e;omega),J.old.get _ om om,f5.get _ om,hm];exact b4
    have g7:k4.cell (X+8) 1=some (.mp (X+3)):=by rw[j9.cell om];exact i4
    have lk:=λz=>Je E.nodup U (hK j om) z
    have c4:k4.cell D j=some (.bool (Dy G L i Q j)):=by rw[K4.cell om];exact iJ gD U
    have i3:cR G L i j:=oP hG E om m3 ⟨s,a2 s c6,ej.symm⟩
    have j1:S.take (t+1)=S.take t++ [s]:=by rw[dJ [] om,hs]
    have k8:k4.get q=some (.cells false (ints (zi Q))):=by rw[K4.get _ nq];exact gq
    have i5:k4.get D=some (.cells false (rc L.length λj=> .bool (Dy G L i Q j))):=by rw[K4.get _ om];exact gD
    have j0:Fx (· =D) h7 k4:=⟨by have:=K4.next;omega,λq d h2=>by rw[K4.get q om];exact Fb.get q d h2⟩
    cases hsn2:Dy G L i Q j with
    |true=>
     rw[hsn2] at c4
     have d2:j∈Q:=by
      rcases nP.1 hsn2 with ⟨i0,d,b5⟩|d
      .exact absurd (oP hG E om b5 (Bx hG E om i3)) (hr i0 d)
      .exact d
     refine gX g7 d0 lk c4 ?_;rw[eJ t];refine⟨by simp [dM],sl-(t+1),om,Q,q,o,t+1,aB rfl,N,om,l,hc,?_,F,k8,hq,by have:=K4.next;omega,i5,j0,rfl⟩;rw[j1];intro s' a9;rcases jO.1 a9 with d|d
     .exact f7 s' d
     .obtain rfl:s'=s:=by simpa using d
      exact⟨j,d2,ej⟩
    |false=>
     rw[hsn2] at c4;have d2:j∉Q:=λd=>by rw[nP.2 (.inr d)] at hsn2;cases hsn2
     obtain⟨k5,e5,m5,g5,o5⟩:=lU k4 D ((rc L.length λj=> .bool (Dy G L i Q j)).set j (.bool true));obtain⟨Y,hY⟩:=exI k5.next;obtain⟨k6,m0,m6,l7,d7,q3⟩:=dF hY [aC j];have pt:=cF (vs:=rc L.length λj=> .bool (Dy G L i Q j)) (off:=j) (by rw[iK];exact U);have nk:=K4.next;have l6:k6.get q=some (.cells false (ints (zi Q))):=by rw[d7 _ om,o5 _ om];exact k8
     have n2:cW k6 (.sl q 0 Q.length o) 1 (ints (zi Q)) 0:= .inr ⟨q,Q.length,o, [],rfl,by rw[aN,aL];simp,by rcases F with d|d;exact .inl d;exact .inr ⟨d,rfl⟩,fE _,om,by rw[qV];exact l6⟩;obtain⟨k7,a7,p7⟩:=n2.push (bytes:=8) (SV.one (v:= aC j) (id:=Y) om l7 (.kn 1)) (n:=Q.length) (m:=1) (by rw[aN,aL];simp) rfl om om om;simp(disch:=omega)only[go_sem,g7,d0,lk,c4,i5,pt,e5,cQ k5 (z:= aC 0) (v:= aC j) rfl rfl,hY,m0,a7];rw[eJ t];have el:ints (zi (Q++ [j]))=ints (zi Q)++ [aC j]:=by simp [zi,ints]
     have m7:=p7.next;have p0:dS (.sl q 0 Q.length o) D:=λid off n c e e2=>by cases e;omega
     have a8:(rc L.length λj'=>V.bool (Dy G L i Q j')).set j (.bool true)=rc L.length λj'=> .bool (Dy G L i (Q++ [j]) j'):=by
      rw[jL]
      exact cT λj' _=>by
       rw[Xb]
       by_cases e:j'=j
       .rw[bL e,bL e]
       .rw[bV e,bV e]
     refine⟨by simp [dM],sl-(t+1),om,Q++ [j],k6.next,.un 1,t+1,by rw[iB];exact aB rfl,by rw[iB];omega,om,⟨?_,by rw[iB];simp,?_,?_,?_⟩,?_,?_,.inl rfl,by rw[el];exact p7.get,om,om,?_,?_,rfl⟩
     .rw[List.nodup_append]
      exact⟨l.nd,siM,λx hx y hy e=>by
       obtain rfl:y=j:=by simpa using hy
       exact d2 (e▸hx)⟩
     .rw[List.getD,wU l.ne];exact l.hd
     .intro x hx
      rcases jO.1 hx with d|d
      .exact l.mem x d
      .obtain rfl:x=j:=by simpa using d
       exact⟨U,i3⟩
     .intro k hk s' a9
      obtain⟨y,hy,ey⟩:=l.cl k hk s' a9;refine⟨y,jO.2 (.inl hy),?_⟩;rw[ey,List.getD,List.getD,List.getD,List.getD,wU om]
     .rw[List.getD,wU N];exact hc
     .rw[j1]
      intro s' a9;rcases jO.1 a9 with d|d
      .obtain⟨y,hy,ey⟩:=f7 s' d
       exact⟨y,jO.2 (.inl hy),ey⟩
      .obtain rfl:s'=s:=by simpa using d
       exact⟨j,jO.2 (.inr siM),ej⟩
     .rw[p7.old D om p0,d7 D om,g5,a8]
     .refine⟨om,λx d h2=>?_⟩
      rw[p7.old x om (λid off n c e e2=>by cases e;omega),d7 x om,o5 x h2];exact j0.get x d h2
   clear l F gq hq nq gD Fa hc c0 d5 hp N a5
   clear Q q o
   rintro K hb ⟨Q,q,o,⟨g3,rfl⟩,N,a4,F,gq,hq,nq,gD,Fb⟩
   have a5:=a4.len
   refine aM ?_
   rw[eJ p]
   exact⟨m-(p+1),om,Q,q,o,p+1,aB rfl,om,a4,F,gq,hq,nq,gD,Fb,rfl⟩
  clear f0 B0 e8 n8 g8 o8 hZ e9 n9 g9 o9 f9 pt a8
  rintro K hb ⟨Q,q,o,⟨g3,rfl⟩,a4,F,gq,hq,nq,gD,Fb⟩
  have a5:=a4.len
  have nb:=Fb.next
  have Hm:=Ib hb q (zi Q) o (by rw[aL];omega) gq nq
  rw[aL] at Hm
  refine aM ?_
  refine Hm.mono ?_
  rintro _ ka ⟨l',gl,pl,al,Fa⟩
  obtain rfl:=a4.sort hG E (eU _) om a2 b7 pl al
  have l0:Q.length=(kF G L i).length:=by have:=pl.length_eq;rw[aL,aL] at this;exact this.symm
  have na:=Fa.next
  have p1:Fr h2 ka:=⟨om,λx hx=>by rw[Fa.get x om (λe=>by have:x=q:=e;omega),Fb.get x om (λe=>by have:x=D:=e;omega)];exact b0.get x hx⟩
  have X1:=jJ hG E (show i<L.length by omega)
  refine aM ?_
  refine (LA vx n (L.getD i []) ka n0 n7 X1 (sx.mono p1)).mono ?_
  rintro _ kb ⟨rfl,fb⟩
  have q2:=fb.next
  obtain⟨vK,ks,WK,gB,b8,aK,bK,wD,wB,wN,wn,wX,_⟩:=J.ex
  have q4:=aJ.length aK
  have g4:kb.get (X+8)=some (.cells false [vL,.mp (X+3),vK,.sl (X+6) 0 L.length (.kn L.length)]):=by
   rw[fb.get _ om,Fa.get _ om (λe=>by have:X+8=q:=e;omega),Fb.get _ om (λe=>by have:X+8=D:=e;omega)];exact gB
  have c8:kb.cell (X+8) 2=some vK:=by rw[H.cell_of g4];rfl
  have b2:=sx.cM.2.1
  have r3:=b8.sv.dM
  obtain⟨Y,hY⟩:=exI kb.next
  obtain⟨kc,ec,mc,p4,oc,fc⟩:=dF hY [vx,aC (oD (L.getD i []) n:Nat),aC (Q.length:Int),.sl q 0 Q.length o]
  have b3: ∀x,x<Z->x≠D->kc.get x=h7.get x:=λx d h2=>by
   rw[oc x om,fb.get x om,Fa.get x om (λe=>by have:x=q:=e;omega),Fb.get x om h2]
  have l1:cW kc vK 4 (Cls.qQ ks) (D+1):=b8.mono om λid off n' c e d h2=>b3 id om om
  have lr:=yX (G:=G) (L:=L) i
  obtain⟨kd,ad,pd⟩:=l1.push (bytes:=64) (y:= .sl Y 0 1 (.kn 1)) (us:= [vx,aC (oD (L.getD i []) n:Nat),aC (Q.length:Int),.sl q 0 Q.length o]) (SV.all rfl om p4 _) (n:=ks.length) (m:=1) (Me ks) rfl om om om
  have md:=pd.next
  have m4:dS vK (X+8):=λid off n' c e e2=>by have:=(b8.in _ _ _ _ e).2.1;omega
  have o3:kd.get (X+8)=some (.cells false [vL,.mp (X+3),vK,.sl (X+6) 0 L.length (.kn L.length)]):=by
   rw[pd.old _ om m4,oc _ om];exact g4
  obtain⟨ke,ee,me,ge,oe⟩:=lU kd (X+8) [vL,.mp (X+3),.sl kc.next 0 (ks.length+1) (.un 4),.sl (X+6) 0 L.length (.kn L.length)]
  simp(disch:=omega)only[go_sem,c8,IM sx.cM.1 b2,GR b2 (w:= .sl q 0 Q.length o) rfl rfl,JF b2 (w:= .sl q 0 Q.length o) rfl,hY,ec,ad,o3,GP,ee]
  rw[eJ i]
  have j5: ∀x,x<Z-> ¬WK x->ke.get x=h7.get x:=λx d h2=>by
   rw[oe x (λe=>h2 (e▸wB)),pd.old x om (λid off n' c e e2=>h2 (e2▸bK _ _ _ _ e)),b3 x d (λe=>h2 (e▸wD))]
  have FK:Fx WK h7 ke:=⟨om,λx d h2=>j5 x om h2⟩
  have p3:Fr h2 ke:=⟨om,λx hx=>by rw[j5 x om (λd=>by have:=wX x d;omega)];exact b0.get x hx⟩
  have g0:Cls.qQ (ks++ [⟨vx,oD (L.getD i []) n,Q.length,.sl q 0 Q.length o,i,⟨sx.cM.1,b2,sx.dM⟩,⟨rfl,rfl,by simp [dM]⟩⟩])=Cls.qQ ks++ [vx,aC (oD (L.getD i []) n:Nat),aC (Q.length:Int),.sl q 0 Q.length o]:=by
   simp [Cls.qQ,Cls.KE.enc]
  refine⟨m-(i+1),om,i+1,aB rfl,om,⟨⟨_,ks++ [⟨vx,oD (L.getD i []) n,Q.length,.sl q 0 Q.length o,i,⟨sx.cM.1,b2,sx.dM⟩,⟨rfl,rfl,by simp [dM]⟩⟩],λx=>WK x\/x=kc.next,ge,?_,?_,λid off n' c e=>by cases e;exact .inr rfl,   .inl wD,.inl wB,.inl wN,λx h=>by rcases h with h|h;have:=wn x h;omega;omega,λx h=>by rcases h with h|h;exact wX x h;omega,.inr ⟨_,_,by rw[iB];rfl,?_⟩⟩,?_,?_,om⟩,rfl⟩
  .rw[g0]
   exact (pd.own (b:=D+1) (Me ks) rfl om).mono om λid off n' c e d h2=>by cases e;exact oe _ om
  .rw[(oE i).1 hr]
   refine aJ.append (aK.mono λa r k=>k.go FK om wX λx d h2=>by rcases h2 with h2|h2;exact h2;omega) ⟨⟨rfl,rfl,l0,⟨sx.mono p3,?_⟩,⟨?_,?_⟩⟩,trivial⟩
   .rw[<-hX];exact aeL sx
   .rw[l0]
    refine SV.all (ro:=false) (by rw[aN,aL,qZ]) om ?_ _
    rw[oe q om,pd.old q om (λid off n' c e e2=>by have:=wn _ (bK _ _ _ _ e);omega),oc q om,fb.get q om]
    exact gl
   .exact λh=>by rcases h with h|h;have:=wn _ h;omega;omega
  .rw[g0,oe _ om];exact pd.get
  .rw[oe D om,pd.old D om (λid off n' c e e2=>by have:=(b8.in _ _ _ _ e).2.1;omega),oc D om,fb.get D om,Fa.get D om (λe=>by have:D=q:=e;omega),gD,cT λj U=>by rw[SZ hG E (show i<L.length by omega) a4 a2 b7 U]]
  .refine⟨by have:=J.old.next;omega,λx d h2=>?_⟩
   have m1:x≠X+8:=λe=>h2 (.inl e)
   have q5:x<D:=om
   rw[oe x m1,pd.old x om (λid off n' c e e2=>by have:=(b8.in _ _ _ _ e).2.1;omega),b3 x om om]
   exact J.old.get x d h2
 rintro K h7 ⟨⟨g,rfl⟩,J⟩
 exact hk L X D vL h2 h5 h7 A g hL ⟨E,om,f1.trans f2,hX,nw.sp,e4,om,hD,by rw[f5.get _ om,hm];exact b4,by rw[f5.get _ om,hm];exact i2,by rw[hm];exact J⟩
end
open Classical in
noncomputable def wT (G:List Nat->Prop)(L:LN)(K:List Nat)(j:Nat):Nat:=K.findIdx λr=>decide (cR G L r j)
structure KR (n:Nat)(G:List Nat->Prop)(L:LN)(hh:H)(a:Cls.KE)(r:Nat):Prop where
 fst:a.fst=r
 ord:a.ord=oD (L.getD r []) n
 size:a.size=(kF G L r).length
 rep:SI hh a.rep (zi (L.getD r []))
 ranks:SI hh a.ranks (zi (kF G L r))
theorem KR.mono {n:Nat}{G:List Nat->Prop}{L:LN}{h h':H}{a:Cls.KE}{r:Nat}(k:KR n G L h a r)(f:Fr h h'):KR n G L h' a r:=⟨k.fst,k.ord,k.size,k.rep.mono f,k.ranks.mono f⟩
def Sc (n:Nat)(G:List Nat->Prop)(L:LN)(r s:Nat):Prop:=oD (L.getD r []) n<oD (L.getD s []) n\/oD (L.getD r []) n=oD (L.getD s []) n/\((kF G L r).length<(kF G L s).length\/(kF G L r).length=(kF G L s).length/\r<s)
structure vB (n:Nat)(G:List Nat->Prop)(L:LN)(K:List Nat):Prop where
 perm:K.Perm (dD G L L.length)
 asc:K.Pairwise (Sc n G L)
structure YW (n:Nat)(G:List Nat->Prop)(L:LN)(K:List Nat)(hh:H)(v:V):Prop where
 ex: ∃B M N S cp vL ks,v= .ptr B 0/\B<hh.next/\M<hh.next/\N<hh.next/\S<hh.next/\hh.get B=some (.cells false [vL,.mp M,.sl S 0 K.length cp,.sl N 0 L.length (.kn L.length)])/\
  hh.get M=some (.wmap .str (Fg L L.length))/\hh.get N=some (.cells false (rc L.length λj=> aC (wT G L K j:Nat)))/\hh.get S=some (.cells false (Cls.qQ ks))/\aJ (KR n G L hh) ks K/\SP hh vL L
theorem YW.mono {n:Nat}{G:List Nat->Prop}{L:LN}{K:List Nat}{h h':H}{v:V}(g:YW n G L K h v)(f:Fr h h'):YW n G L K h' v:=by
 obtain⟨B,M,N,S,m,i,j,e,p,c,q,l,o,r,b,d,a,sp⟩:=g.ex;have s:=f.next;exact⟨B,M,N,S,m,i,j,e,om,om,om,om,by rw[f.get _ p];exact o,by rw[f.get _ c];exact r,by rw[f.get _ q];exact b,by rw[f.get _ l];exact d,a.mono λ_ _ k=>k.mono f,sp.mono f⟩
section
variable {n:Nat} {G:List Nat->Prop} {L:LN} {K:List Nat} (hG:eM n G) (E:dR G L)
include hG E
omit hG E in
theorem Jp (a:0<L.length):0∈dD G L L.length:=kX.2 ⟨a,λj b=>om⟩
theorem Ia (o:K.Perm (dD G L L.length)){k:Nat}(a:k<K.length){j:Nat}(s:j∈kF G L (K.getD k 0)):wT G L K j=k:=by
 classical
 obtain⟨q,f⟩:=oX.1 s;have d:K.Nodup:=o.nodup_iff.2 (by unfold dD;exact List.Pairwise.filter _ List.nodup_range);have l: ∀r∈K,r<L.length/\Lb G L r:=λr t=>kX.1 (o.mem_iff.1 t)
 unfold wT;rw[List.findIdx_eq a];have p:K.getD k 0=K[k]:=Pm.bJ a;rw[p] at f;refine⟨by simpa using f,λi hi=>?_⟩;simp only[decide_eq_false_iff_not];intro c;have m:=l K[i] (pN _);have h:=l K[k] (pN _);have:=KZ hG E m.1 h.1 m.2 h.2 c f;have b:=Sr.1 d i k om a hi;exact b this
theorem Na (i:K.Perm (dD G L L.length)){j:Nat}(b:j<L.length): ∃k,k<K.length/\j∈kF G L (K.getD k 0):=by
 obtain⟨r,l,d,h⟩:=Pb hG E b;have f:r∈K:=i.mem_iff.2 (kX.2 ⟨om,d⟩);obtain⟨k,a,c⟩:=rV.1 f;exact⟨k,a,oX.2 ⟨b,by rw[Pm.bJ a,c];exact h⟩⟩
end
open Classical in
noncomputable def Lq (G:List Nat->Prop)(L:LN)(K:List Nat)(k t j:Nat):Nat:=if (∃k0,k0<k/\j∈kF G L (K.getD k0 0))\/j∈(kF G L (K.getD k 0)).take t then wT G L K j else 0
theorem NL (G:List Nat->Prop)(L:LN)(K:List Nat)(j:Nat):Lq G L K 0 0 j=0:=by
 classical
 unfold Lq;rw[bV];rintro (⟨a,h,_⟩|h)
 .omega
 .simp at h
theorem OC (G:List Nat->Prop)(L:LN)(K:List Nat)(k j:Nat):Lq G L K k (kF G L (K.getD k 0)).length j=Lq G L K (k+1) 0 j:=by
 classical
 unfold Lq;rw[List.take_length,List.take_zero]
 have e:((∃a,a<k/\j∈kF G L (K.getD a 0))\/j∈kF G L (K.getD k 0))↔((∃a,a<k+1/\j∈kF G L (K.getD a 0))\/j∈([]:List Nat)):=by
  constructor
  .rintro (⟨a,c,b⟩|h)
   .exact .inl ⟨a,om,b⟩
   .exact .inl ⟨k,om,h⟩
  .rintro (⟨a,c,b⟩|h)
   .by_cases e:a=k
    .subst e;exact .inr b
    .exact .inl ⟨a,om,b⟩
   .cases h
 by_cases h:((∃a,a<k/\j∈kF G L (K.getD a 0))\/j∈kF G L (K.getD k 0))
 .rw[bL h,bL (e.1 h)]
 .rw[bV h,bV (λx=>h (e.2 x))]
theorem LY {n:Nat}{G:List Nat->Prop}{L:LN}{K:List Nat}(hG:eM n G)(E:dR G L)(d:K.Perm (dD G L L.length)){k:Nat}(c:k<K.length){t:Nat}(a:t<(kF G L (K.getD k 0)).length)(j:Nat):
  Lq G L K k (t+1) j=if j=(kF G L (K.getD k 0)).getD t 0 then k else Lq G L K k t j:=by
 classical
 by_cases e:j=(kF G L (K.getD k 0)).getD t 0
 .rw[bL e]
  have b:j∈kF G L (K.getD k 0):=by rw[e];exact aV a
  unfold Lq
  rw[bL (.inr (by rw[dJ 0 a,e];simp))]
  exact Ia hG E d c b
 .rw[bV e]
  unfold Lq
  rw[dJ 0 a]
  simp only[jO,List.mem_singleton,e,or_false]
theorem OJ {n:Nat}{G:List Nat->Prop}{L:LN}{K:List Nat}(hG:eM n G)(E:dR G L)(d:K.Perm (dD G L L.length)){j:Nat}(b:j<L.length):Lq G L K K.length 0 j=wT G L K j:=by
 classical
 obtain⟨k,a,c⟩:=Na hG E d b;unfold Lq;rw[bL (.inl ⟨k,a,c⟩)]
theorem Ec {h:H}{S:Nat}{ro:Bool}:{ks:List Cls.KE}->{pre:List V}->h.get S=some (.cells ro (pre++Cls.qQ ks))-> ∀{i:Nat} (hi:i<ks.length),h.row S (pre.length+i*4) 4=some ks[i].enc
 | [],_,_,_,hi=>by simp at hi
 |a::r,pre,g,0,_=>by
  unfold H.row;rw[g];show sub (pre++(a.enc++Cls.qQ r)) (pre.length+0*4) 4=some a.enc;simp only[sub,Nat.zero_mul,Nat.add_zero];have:a.enc.length=4:=rfl;rw[bL (by rw[iB,iB];omega),List.drop_left,List.take_append,Bo om,this];simp
 |a::r,pre,g,i+1,hi=>by
  have b:h.get S=some (.cells ro ((pre++a.enc)++Cls.qQ r)):=by rw[g,pJ];rfl
  have:=Ec b (i:=i) (by simpa using hi);rw[iB,show a.enc.length=4 from rfl] at this;rw[show pre.length+(i+1)*4=pre.length+4+i*4 by omega];simpa using this
theorem MS (h:H)(id off:Nat)(a:Cls.KE):Ny h 4 (.ptr id off) (.agg a.enc)=eH (h.get id) h id off a.enc:=vN h id off 4 _ rfl (by simp [Cls.KE.enc,a.hrep.2.1,a.hranks.2.1,show (aC (a.ord:Int)).one=true from rfl,show (aC (a.size:Int)).one=true from rfl])
theorem PU (hh:H)(id:Nat)(a:Cls.KE)(x y z w:V):eH (some (.cells false [x,y,z,w])) hh id 0 a.enc=some (hh.set id (some (.cells false a.enc))):=by
 simp [eH,putAt,Cls.KE.enc]
theorem aJ.ex {α β:Type}{R:α->β->Prop}{d:List α}{c:List β}(h:aJ R d c){a:α}(f:a∈d): ∃b∈c,R a b:=by
 obtain⟨i,hi,rfl⟩:=rV.1 f;have j:=aJ.length h;exact⟨c[i]'om,pN _,aJ.get h i hi om⟩
theorem SI.lit {h:H}{v:V}{l:List Int}(s:SI h v l)(r:0<l.length): ∃id off m cap,v= .sl id off (m+1) cap/\m+1=l.length/\id<h.next/\ ∀i,i<l.length->h.cell id (off+i)=some (aC (l.getD i 0)):=by
 obtain⟨id,off,k,p,q⟩:=s.open;rcases s with ⟨_,f⟩|⟨b,a,len,cap,t,u,e,d,j,_⟩
 .have:l.length=0:=by rw[<-aN,f];rfl
  omega
 .rw[aN,qZ] at d
  have c:=k.ixa .i64 0 om om;subst e;rw[Ih om om] at c;simp only[Option.some.injEq,V.ptr.injEq] at c;obtain⟨rfl,w⟩:=c;have o:a=off:=om
  subst o;exact⟨b,a,l.length- 1,cap,by rw[show l.length- 1+1=len by omega],om,j,q⟩
theorem agH {W0:Nat->Prop}(vc:V)(n:Nat)(O:LN)(R:iA)(G:List Nat->Prop)(h:H)(gc:GC W0 h vc n O R G):
  Ev T 139 [vc] h (λv h'=> ∃p K,v= .tup [p,aC 0]/\YW n G (bZ O R n 0 (bC n)) K h' p/\vB n G (bZ O R n 0 (bC n)) K/\Fr h h'):=by
 refine UP vc n O R G h gc _ λL X D vL s h5 N A g hL e=>?_
 rw[hL]
 have hG:=gc.cX
 have E:=e.el
 obtain⟨vK,J,WK,gB,d8,aK,bK,wD,wB,wN,wn,wX,xK⟩:=e.j.ex
 have a0:=aJ.length aK
 obtain⟨m,hm⟩:=exI L.length
 have h0:0<L.length:=Ss ((E.mem _).2 hG.one)
 have d1:0<J.length:=by rw[a0];exact Ss (Jp h0)
 obtain⟨S,cp,rfl,gS⟩: ∃id a4,vK= .sl id 0 J.length a4/\N.get id=some (.cells false (Cls.qQ J)):=by
  rcases xK with l|l
  .subst l;simp at d1
  .exact l
 have wS:=bK _ _ _ _ rfl
 have nS:=wn _ wS
 have e6:N.cell (X+8) 2=some (.sl S 0 J.length cp):=by rw[H.cell_of gB];rfl
 show Wp T none (Pn 2 mK.fn.body) _ N _
 simp(disch:=omega)only[go_sem,Pn,NZ,mK,e6]
 have hR: ∀r∈dD G L L.length,r<L.length/\Lb G L r:=λr P=>kX.1 P
 have d0: ∀a∈J,a.Pp N N.next S:=λa Z=>by
  obtain⟨r,P,k⟩:=aJ.ex aK Z;obtain⟨a3,a2⟩:=hR r P;obtain⟨l1,l2⟩:=Mb hG E a3 a2;obtain⟨id,off,m',a4,e1,e2,e3,e4⟩:=SI.lit k.ranks.si (by rw[aL];exact l1);have ho:=k.ranks.off;rw[e1] at ho;refine⟨id,off,m',a4,e1,e3,λl=>ho (l▸wS),?_⟩;have:=e4 0 (by rw[aL];exact l1);rw[Nat.add_zero] at this;rw[this,zi,fO _ (d:=0) l1,l2,k.fst]
 refine (Cls.LO N S N.next J cp (by rw[a0];have:=yX (G:=G) (L:=L) L.length;have:=e.le;omega) gS nS (eU _) d0).mono ?_
 rintro _ y ⟨o,b2,pm,Hm,F8⟩
 obtain⟨K,hK⟩:=exI (o.map (λa:Cls.KE=>a.fst))
 have W:K.length=J.length:=by rw[<-hK,fL];exact pm.length_eq
 have c1:J.map (λa:Cls.KE=>a.fst)=dD G L L.length:=by
  refine List.ext_getElem (by rw[fL];exact a0) λi l s=>?_
  rw[List.getElem_map];exact (aJ.get aK i (by simpa using l) s).fst
 have pK:K.Perm (dD G L L.length):=by rw[<-hK,<-c1];exact pm.map _
 have kK: ∀a∈o,KO n G L X WK N a a.fst:=λa Z=>by
  obtain⟨r,P,k⟩:=aJ.ex aK (pm.mem_iff.1 Z);rw[k.fst];exact k
 have FK:Fx WK N y:=⟨F8.next,λq l s=>F8.get q l λh3=>s (by have:q=S:=h3;rw[this];exact wS)⟩
 have d2: ∀a∈o,KO n G L X WK y a a.fst:=λa Z=>(kK a Z).go FK (by have:=wX S wS;omega) wX λ_ _ l=>l
 have e8:=(d8.in _ _ _ _ rfl).2.1
 have xD:=e.xD
 have n8:=F8.next
 have U:y.get (X+8)=some (.cells false [vL,.mp (X+3),.sl S 0 J.length cp,.sl (X+6) 0 L.length (.kn L.length)]):=by
  rw[F8.get _ (wn _ wB) (λl=>by have:X+8=S:=l;omega)];exact gB
 have b5:y.cell (X+8) 2=some (.sl S 0 J.length cp):=by rw[H.cell_of U];rfl
 have e0:N.get (X+6)=some (.cells false (rc L.length λ_=> aC 0)):=by
  rw[e.j.old.get _ (by rw[e.n5];omega) om];exact e.gN
 have c2:y.get (X+6)=some (.cells false (rc L.length λj=> aC (Lq G L K 0 0 j:Nat))):=by
  rw[F8.get _ (wn _ wN) (λl=>by have:X+6=S:=l;omega),e0,show (λj=>aC (Lq G L K 0 0 j:Nat))=λ_=>aC 0 from funext λj=>by rw[NL];rfl]
 have b8: ∀k,k<K.length-> ∃a,o[k]? =some a/\KO n G L X WK y a (K.getD k 0):=λk hk=>by
  have w:k<o.length:=by rw[pm.length_eq,<-W];exact hk
  refine⟨o[k],dC w,?_⟩;have:=d2 _ (pN w);have e2:K.getD k 0=(o[k]).fst:=by rw[Pm.bJ hk];subst hK;rw[List.getElem_map]
  rw[e2];exact this
 have le:=e.le
 have e7:K.length<=L.length:=by rw[W,a0];exact yX _
 have nN:=wn _ wN
 rw[<-W] at b5 U
 refine bE b5 ?_
 refine bY (λvs u=>(∃g:Nat->V,vs= [g 0,g 1,.nilp,aC 0,g 4,g 5,.ptr (X+8) 0,g 7,g 8,g 9,g 10,g 11,g 12,g 13,g 14,g 15,g 16,g 17,g 18,g 19,g 20,g 21,g 22,g 23,g 24,g 25,g 26,g 27,g 28,g 29,g 30,g 31,g 32,g 33,g 34,g 35,g 36,g 37,g 38,g 39,g 40,g 41,g 42,g 43,g 44,g 45])/\u.get (X+6)=some (.cells false (rc L.length λj=> aC (Lq G L K K.length 0 j:Nat)))/\Fx (· =X+6) y u) ?_ ?_
 .refine aH (λk' vs u=> ∃(k:Nat),(∃g:Nat->V,vs= [g 0,g 1,.nilp,aC 0,g 4,g 5,.ptr (X+8) 0,g 7,g 8,g 9,g 10,g 11,g 12,g 13,g 14,g 15,g 16,g 17,g 18,g 19,g 20,g 21,g 22,g 23,g 24,g 25,g 26,g 27,g 28,g 29,g 30,g 31,g 32,g 33,g 34,g 35,g 36,g 37,.sl S 0 K.length cp,aC (K.length:Int),aC k,g 41,g 42,g 43,g 44,g 45])/\k<=K.length/\u.get (X+6)=some (.cells false (rc L.length λj=> aC (Lq G L K k 0 j:Nat)))/\Fx (· =X+6) y u/\k'=K.length-k) K.length
   ⟨0,aB rfl,fE _,c2,Fx.refl _ _,rfl⟩ ?_
  rintro k' B h9 ⟨k,⟨g,rfl⟩,hk,F,z,rfl⟩
  have n9:=z.next
  by_cases a9:(k:Int)<(K.length:Int)
  case neg=>
   have d4:=bT a9;obtain rfl:k=K.length:=om
   refine bE d4 ?_;exact⟨aB rfl,F,z⟩
  have d4:=cJ a9
  have w:k<K.length:=om
  obtain⟨a,ea,ko⟩:=b8 k w
  have b6:k<o.length:=by rw[pm.length_eq,<-W];exact w
  have a5:o[k]=a:=by rw[dC b6] at ea;simpa using ea
  have c3:h9.get S=some (.cells false (Cls.qQ o)):=by rw[z.get _ om (λl=>by have:S=X+6:=l;omega)];exact b2
  have b1:h9.row S (k*4) 4=some a.enc:=by
   have:=Ec (pre:= []) (by simpa using c3) b6;rw[a5] at this;simpa using this
  obtain⟨Y,hY⟩:=exI h9.next
  obtain⟨Z,a7,na,ga,oa,fa⟩:=dF hY [.aD,aC 0,aC 0,.aD]
  obtain⟨hb,b4,nb,gb,ob⟩:=lU Z Y a.enc
  have c0:hb.cell Y 3=some a.ranks:=by rw[H.cell_of gb];rfl
  have lr:=ko.ranks.si.lens
  rw[aL] at lr
  obtain⟨r,P⟩:=exI (K.getD k 0)
  rw[P] at ko lr
  simp(disch:=omega)only[go_sem,d4,b1,hY,a7,MS,ga,PU,b4,c0,lr]
  have c5:r∈dD G L L.length:=by rw[<-P];exact pK.mem_iff.1 (aV w)
  obtain⟨a3,a2⟩:=hR r c5
  obtain⟨l1,l2⟩:=Mb hG E a3 a2
  obtain⟨Q,a1,mR,a6,e1,e2,e3,e4⟩:=SI.lit ko.ranks.si (by rw[aL];exact l1)
  have ho:=ko.ranks.off
  rw[e1] at ho
  have d6:Q≠X+6:=λl=>ho (l▸wN)
  obtain⟨c,hc⟩:=exI ((kF G L r).length)
  rw[aL,hc] at e2 e4
  have e9:c<=L.length:=by
   rw[<-hc];have:=List.Nodup.length_le_of_subset (Al (G:=G) (L:=L) r) (l₂:=List.range L.length) λj hj=>wY.2 (oX.1 hj).1
   rwa [Ng] at this
  rw[hc,e1]
  have Fb:Fx (· =X+6) y hb:=⟨om,λq l s=>by rw[ob q om,oa q om];exact z.get q l s⟩
  have b3:hb.get (X+6)=some (.cells false (rc L.length λj=> aC (Lq G L K k 0 j:Nat))):=by rw[ob _ om,oa _ om];exact F
  have c4: ∀u,Fx (· =X+6) y u->u.cell (X+8) 3=some (.sl (X+6) 0 L.length (.kn L.length)):=λu f=>by
   have:u.get (X+8)=y.get (X+8):=f.get _ (by have:=wn _ wB;omega) om;rw[H.cell_of (this.trans U)];rfl
  refine rY (λvs u=>(∃g:Nat->V,vs= [g 0,g 1,.nilp,aC 0,g 4,g 5,.ptr (X+8) 0,g 7,g 8,g 9,g 10,g 11,g 12,g 13,g 14,g 15,g 16,g 17,g 18,g 19,g 20,g 21,g 22,g 23,g 24,g 25,g 26,g 27,g 28,g 29,g 30,g 31,g 32,g 33,g 34,g 35,g 36,g 37,.sl S 0 K.length cp,aC (K.length:Int),aC k,g 41,g 42,g 43,g 44,g 45])/\u.get (X+6)=some (.cells false (rc L.length λj=> aC (Lq G L K (k+1) 0 j:Nat)))/\Fx (· =X+6) y u) ?_ ?_
  .refine aH (λk' vs u=> ∃(t:Nat),(∃g:Nat->V,vs= [g 0,g 1,.nilp,aC 0,g 4,g 5,.ptr (X+8) 0,g 7,g 8,g 9,g 10,g 11,g 12,g 13,g 14,g 15,g 16,g 17,g 18,aC k,g 20,g 21,g 22,g 23,g 24,g 25,g 26,g 27,g 28,g 29,g 30,g 31,g 32,g 33,g 34,g 35,g 36,g 37,.sl S 0 K.length cp,aC (K.length:Int),aC k,g 41,.sl Q a1 (mR+1) a6,aC c,aC t,g 45])/\t<=c/\u.get (X+6)=some (.cells false (rc L.length λj=> aC (Lq G L K k t j:Nat)))/\Fx (· =X+6) y u/\k'=c-t) c
    ⟨0,aB rfl,fE _,b3,Fb,rfl⟩ ?_
   clear b3 Fb gb ob c0 nb b4 ga oa fa na a7 b1 F z n9
   rintro k' B b0 ⟨t,⟨g2,rfl⟩,ht,b9,Fc,rfl⟩
   by_cases b7:(t:Int)<(c:Int)
   case neg=>
    have d5:=bT b7;obtain rfl:t=c:=om
    refine bE d5 ?_;refine⟨aB rfl,?_,Fc⟩;rw[b9,show (λj=>aC (Lq G L K k t j:Nat))=λj=>aC (Lq G L K (k+1) 0 j:Nat) from funext λj=>by rw[<-OC,P,hc]]
   have d5:=cJ b7
   have c6:t<c:=om
   obtain⟨x,hx⟩:=exI ((kF G L r).getD t 0)
   have c9:x<L.length:=by rw[<-hx];exact (oX.1 (aV om)).1
   have d7:b0.cell Q (a1+t)=some (aC x):=by
    have e5:=e4 t c6;unfold H.cell at e5 |-;rw[Fc.get Q e3 d6,e5,zi,fO _ (d:=0) om,hx]
   have pt:=cF (vs:=rc L.length λj=> aC (Lq G L K k t j:Nat)) (off:=x) (by rw[iK];exact c9)
   have tl:(t:Int).toNat=t:=rfl
   refine iT d5 d7 (c4 b0 Fc) b9 pt ?_
   rw[eJ t]
   refine⟨c-(t+1),om,t+1,aB rfl,om,?_,⟨Fc.next,λq l s=>by rw[H.aF _ s];exact Fc.get q l s⟩,rfl⟩
   rw[jL,cT λj hj=>?_]
   rw[LY hG E pK w (by rw[P];omega),P,hx]
   by_cases ej:j=x
   .rw[bL ej,bL ej]
   .rw[bV ej,bV ej]
  rintro B hd ⟨⟨g2,rfl⟩,c8,Fd⟩
  refine aM ?_
  rw[eJ k]
  exact⟨K.length-(k+1),om,k+1,aB rfl,om,c8,Fd,rfl⟩
 rintro B h9 ⟨⟨g,rfl⟩,F,z⟩
 have n9:=z.next
 refine aM ?_
 have n2:=e.x2
 have o9: ∀q,q<D->q≠X+8->q≠X+6->h9.get q=h5.get q:=λq l s h3=>by
  rw[z.get q (by have:=e.j.nx;omega) h3,F8.get q (by have:=e.j.nx;omega) (λh4=>by have:q=S:=h4;omega),e.j.old.get q (by rw[e.n5];exact l) (λh4=>by rcases h4 with h4|h4;exact s h4;omega)]
 have nx:=e.j.nx
 have a8:Fr s h9:=⟨om,λq hq=>by rw[o9 q om om om];exact e.f25.get q hq⟩
 have d3:Fx WK y h9:=⟨z.next,λq l s=>z.get q l λh3=>s (by have:q=X+6:=h3;rw[this];exact wN)⟩
 have d9:K.Nodup:=pK.nodup_iff.2 (by classical exact (by unfold dD;exact List.Pairwise.filter _ List.nodup_range))
 have c7:o.length=K.length:=by rw[<-hK,fL]
 refine⟨.ptr (X+8) 0,K,rfl,⟨X+8,X+3,X+6,S,cp,vL,o,rfl,om,om,om,om,?_,?_,?_,?_,?_,e.sp.mono a8⟩,⟨pK,?_⟩,e.f2.trans a8⟩
 .rw[z.get _ om om];exact U
 .rw[o9 _ om om om];exact e.gM
 .rw[F,cT λj hj=>by rw[OJ hG E pK hj]]
 .rw[z.get _ om om];exact b2
 .refine aJ.jM c7 λi l s=>?_
  obtain⟨a,ea,ko⟩:=b8 i s
  have a5:o[i]=a:=by rw[dC l] at ea;simpa using ea
  have k9:=ko.go d3 om wX λ_ _ l=>l
  rw[Pm.bJ s] at k9
  rw[a5]
  exact⟨k9.fst,k9.ord,k9.size,k9.rep.si,k9.ranks.si⟩
 .have l:o.Pairwise λa b=>a.fst≠b.fst:=by
   have:=d9;rw[<-hK] at this;exact List.pairwise_map.1 this
  rw[<-hK,List.pairwise_map];refine List.Pairwise.imp_of_mem ?_ (List.Pairwise.and Hm l);rintro a b Z hb ⟨s,h3⟩;have ka:=kK a Z;have kb:=kK b hb;have h4: ¬(b.lt a=true):=by rw[s];simp
  rw[Cls.KE.lt_iff] at h4;unfold Sc;rw[<-ka.ord,<-kb.ord,<-ka.size,<-kb.size];omega
theorem Ni {n:Nat}{G:List Nat->Prop}{L:LN}{r s:Nat}(a:Sc n G L r s)(b:Sc n G L s r):False:=by
 unfold Sc at a b;omega
theorem vB.uniq {n:Nat}{G:List Nat->Prop}{L:LN}{K c:List Nat}(a:vB n G L K)(b:vB n G L c):K=c:=
 (a.perm.trans b.perm.symm).eq_of_pairwise (λ_ _ _ _ d f=>(Ni d f).elim) a.asc b.asc
noncomputable def wI (G:List Nat->Prop)(L:LN)(K:List Nat):List Nat:=(List.range L.length).map (wT G L K)
def eV (ks:List Cls.KE):List V:=ks.flatMap λa=> [a.rep,aC (a.ord:Int),aC (a.size:Int)]
theorem fS (ks:List Cls.KE):(eV ks).length=ks.length*3:=by
 induction ks with
 |nil=>rfl
 |cons a r ih=>
  show ([a.rep,aC (a.ord:Int),aC (a.size:Int)]++eV r).length=_;rw[iB,ih];show 3+r.length*3=(r.length+1)*3;omega
theorem XU {h:H}{Y:Nat}{ro:Bool}{a:Cls.KE}(g:h.get Y=some (.cells ro a.enc)):h.row Y 0 3=some [a.rep,aC (a.ord:Int),aC (a.size:Int)]:=by
 simp [H.row,g,sub,Cls.KE.enc]
theorem Mj {v:V}(a:v.one=true)(x y:Int)(h:H):mC h 3 [.aD,aC 0,aC 0] 1 [(0,3,.agg [v,aC x,aC y])]=some (.sl h.next 0 1 (.kn 1),h.new (.cells false [v,aC x,aC y])):=by
 have e:dT [V.aD,aC 0,aC 0] 3= [V.aD,aC 0,aC 0]:=rfl;simp [mC,iH,putAt,e,a,show ∀l,(V.agg l).cells=l from λ_=>rfl,show ∀z,(aC z).one=true from λ_=>rfl]
theorem OL {W0:Nat->Prop}(vc:V)(n:Nat)(O:LN)(R:iA)(G:List Nat->Prop)(h:H)(i:GC W0 h vc n O R G)(L:LN)(hL:bZ O R n 0 (bC n)=L):
  Ev T 100 [vc] h (λv h'=> ∃vl K ks,v= .tup [vl,aC 0]/\vB n G L K/\SV h' vl 3 (eV ks)/\aJ (KR n G L h') ks K/\Fr h h'):=by
 obtain⟨vO,vR,e,sO,sR⟩:=i.ch
 subst e
 have j:vO.one=true:=EB sO
 have z:vR.one=true:=Yb sR
 obtain⟨A,hA⟩:=exI h.next
 obtain⟨h1,e1,n1,g1,o1,f1⟩:=dF hA [aC n,vO,vR]
 have bx:=aU h (v:= aC n) (u:=vO) (w:=vR) rfl j z
 have rB:=aE g1
 refine pY bx hA e1 rB ?_
 refine (agH _ n O R G h1 (i.mono f1)).mono ?_
 rw[hL]
 rintro _ d ⟨p,K,rfl,go,ik,f2⟩
 obtain⟨B,M,N,S,cp,vL,ks,rfl,hB,hM,hN,hS,gB,gM,gN,gS,aK,sp⟩:=go.ex
 have c2:d.cell B 2=some (.sl S 0 K.length cp):=by rw[H.cell_of gB];rfl
 have a7:=aJ.length aK
 have a5:K.length<=5040:=by
  have h1:=ik.perm.length_eq;have d:=yX (G:=G) (L:=L) L.length;have h3:=dX i;have h4:=(dA i.cX i.isc).2;rw[hL] at h4;omega
 refine aM ?_
 refine bI (λhc=>(hc rfl).elim) (λ_=>?_)
 refine bE c2 ?_
 refine bY (λW t=> ∃b,(∃g:Nat->V,W= [g 0,g 1,g 2,g 3,g 4,g 5,b,g 7,g 8,g 9,g 10,g 11,g 12])/\SV t b 3 (eV ks)/\Fr d t) ?_ ?_
 .refine aH (λk' W t=> ∃(k:Nat) (b:V),(∃g:Nat->V,W= [g 0,g 1,g 2,g 3,.ptr B 0,g 5,b,g 7,g 8,.sl S 0 K.length cp,aC (K.length:Int),aC k,g 12])/\k<=K.length/\cW t b 3 (eV (ks.take k)) d.next/\Fr d t/\k'=K.length-k) K.length
   ⟨0,.aD,aB rfl,fE _,cW.aD _ _ _,Fr.refl _,rfl⟩ ?_
  rintro k' r F ⟨k,b,⟨g,rfl⟩,hk,J,f,rfl⟩
  by_cases l:(k:Int)<(K.length:Int)
  case neg=>
   have d4:=bT l;obtain rfl:k=K.length:=om
   refine bE d4 ?_;rw[Bo om] at J;exact⟨b,aB rfl,J.sv,f⟩
  have d4:=cJ l
  have a6:k<K.length:=om
  have o:k<ks.length:=om
  obtain⟨a,ea⟩:=exI (ks[k])
  have Q:F.get S=bG (Cls.qQ ks):=by rw[f.get _ hS];exact gS
  have a4:F.row S (k*4) 4=some a.enc:=by
   have:=Ec (pre:= []) (by simpa using Q) o;rw[ea] at this;simpa using this
  obtain⟨Y,hY⟩:=exI F.next
  obtain⟨ha,a2,na,ga,oa,fa⟩:=dF hY [.aD,aC 0,aC 0,.aD]
  obtain⟨hb,a0,nb,gb,ob⟩:=lU ha Y a.enc
  obtain⟨Z,hZ⟩:=exI hb.next
  obtain⟨s,U,nc,P,oc,fc⟩:=dF hZ [a.rep,aC (a.ord:Int),aC (a.size:Int)]
  have x:Fr F s:=⟨om,λq hq=>by rw[oc q om,ob q om,oa q om]⟩
  have a1:cW s b 3 (eV (ks.take k)) d.next:=J.fr x
  obtain⟨hd,ad,pd⟩:=a1.push (bytes:=40) (y:= .sl Z 0 1 (.kn 1)) (us:= [a.rep,aC (a.ord:Int),aC (a.size:Int)]) (SV.all rfl om P _) (n:=k) (m:=1) (by rw[fS,wH];omega) rfl om om om
  simp(disch:=omega)only[go_sem,d4,a4,hY,a2,MS,ga,PU,a0,XU gb,Mj a.hrep.2.1,hZ,U,ad]
  rw[eJ k]
  have el:eV (ks.take (k+1))=eV (ks.take k)++ [a.rep,aC (a.ord:Int),aC (a.size:Int)]:=by
   rw[List.take_succ_eq_append_getElem o,ea];simp [eV]
  have n9:=f.next
  have nd:=pd.next
  have a3:Fr d hd:=⟨om,λq hq=>by rw[pd.old q om (λid a8 n' c e e2=>by have:=(J.in _ _ _ _ e).2.1;omega),x.get q om];exact f.get q hq⟩
  exact⟨K.length-(k+1),om,k+1,_,aB rfl,om,by rw[el];exact pd.own (by rw[fS,wH];omega) rfl om,a3,rfl⟩
 rintro r F ⟨b,⟨g,rfl⟩,sv,f⟩
 refine aM ?_
 exact⟨b,K,ks,rfl,ik,sv,aK.mono λ_ _ k=>k.mono f,(f1.trans f2).trans f⟩
set_option maxRecDepth 100000
set_option maxRecDepth 100000
theorem Xs {n:Nat}{a:List Nat}(A:aY n a)(m:n<=7):oD a n∣420:=by
 unfold oD;rw[uN];intro c h;obtain⟨l,d,rfl⟩:=qU.1 h;obtain⟨i,hi,rfl⟩:=qU.1 d;have b:i<n:=by unfold Lc at hi;exact wY.1 (Re.1 hi).1
 rw[vI];have f:=(nG A b).1;have j:=Qv A b;have: ∀k,k<8->0<k->k∣420:=deC
 exact this _ om f
set_option maxRecDepth 100000
theorem FD {n:Nat}{a:List Nat}(A:aY n a):pw n a 1=a:=cV A
set_option maxRecDepth 100000
set_option maxRecDepth 100000
def NC (n:Nat)(A B:List Nat->Prop)(x:List Nat):Prop:= ∀H:List Nat->Prop,eM n H->(∀a,A a->H a)->(∀y b,H y->B b->H (aX y b))->H x
section
variable {n:Nat} {A B A' B' H:List Nat->Prop}
theorem NC.le {x:List Nat}(h:NC n A B x)(f:eM n H)(c: ∀a,A a->H a)(d: ∀y b,H y->B b->H (aX y b)):H x:=h H f c d
theorem NC.of {a:List Nat}(h:A a):NC n A B a:=λ_ _ b _=>b a h
theorem NC.cj {x b:List Nat}(h:NC n A B x)(c:B b):NC n A B (aX x b):=λH f d a=>a _ _ (h H f d a) c
theorem VD (n:Nat):eM n (aY n):=⟨λh=>h,aY.one n,λa b=>a.mul b,λa=>a.inv⟩
theorem NC.cX (i: ∀a,A a->aY n a)(d: ∀b,B b->aY n b):eM n (NC n A B):=
 ⟨λh=>h _ (VD n) i λy b Y f=>dL Y (d b f),λ_ c _ _=>c.one,λh k _ c a b=>c.mul (h _ c a b) (k _ c a b),λh _ c a b=>c.inv (h _ c a b)⟩
theorem NC.same (s: ∀a,A a->aY n a)(r: ∀b,B b->aY n b)(i: ∀a,A' a->aY n a)(f: ∀b,B' b->aY n b)
  (o: ∀a,A a->A' a\/a=bC n) (m: ∀a,A' a->A a\/a=bC n) (k: ∀a,B a->B' a\/a=bC n) (l: ∀a,B' a->B a\/a=bC n) (x:List Nat):NC n A B x↔NC n A' B' x:=by
 have c:{A B A' B':List Nat->Prop}->(∀a,A' a->aY n a)->(∀b,B' b->aY n b)->(∀a,A a->A' a\/a=bC n)->(∀a,B a->B' a\/a=bC n)->NC n A B x->NC n A' B' x:=λ{A B A' B'} p q a b h=>
  h.le (NC.cX p q) (λz j=>by
   rcases a z j with h|rfl
   .exact NC.of h
   .exact (NC.cX p q).one) (λy z d j=>by
   rcases b z j with h|rfl
   .exact d.cj h
   .rw[kZ ((NC.cX p q).bM d)];exact d)
 exact⟨c i f o k,c s r m l⟩
theorem xS (d:eM n H)(c: ∀b,B b->aY n b)(h: ∀y b,H y->B b->H (aX y b)){g:List Nat}(f:bX n B g): ∀y,H y->H (aX y g):=by
 induction f with
 |one=>intro y a;rw[kZ (d.bM a)];exact a
 | @mul z k hz hk ih=>intro y a;rw[iP (d.bM a) (hz.bM c) (c _ hk)];exact h _ _ (ih y a) hk
end
def dN (x y:List Nat):List Nat:=aS (aS (cK x) (cK y)) (aS x y)
section
variable {n:Nat} {x y:List Nat}
theorem rT (X:aY n x)(Y:aY n y):aY n (dN x y):=(X.inv.mul Y.inv).mul (X.mul Y)
theorem Lz (X:aY n x):dN x (bC n)=bC n:=by
 unfold dN;rw[oZ,bD X.inv,bD X,dU X]
theorem Mc (Y:aY n y):dN (bC n) y=bC n:=by
 unfold dN;rw[oZ,cV Y.inv,cV Y,dU Y]
theorem nZ (X:aY n x)(Y:aY n y):dN x y=aS (cK x) (aX x y):=by
 unfold dN aX;rw[aG X.inv Y.inv (X.mul Y),aG Y.inv X Y]
end
def tM (n:Nat)(R R':iA):List Nat->Prop:=NC n (λx=> ∃p,p∈cI R/\ ∃q,q∈cI R'/\x=dN p q) (λb=>b∈cI R\/b∈cI R')
section
variable {n:Nat} {G K:List Nat->Prop} {O O':LN} {R R':iA}
theorem tM.cX (i:eM n G)(f:eM n K)(c:bA n G O R)(d:bA n K O' R'):eM n (tM n R R'):=
 NC.cX (λa ⟨_,hp,_,hq,e⟩=>by rw[e];exact rT (i.bM (cH c hp)) (f.bM (cH d hq))) (λb h=>h.elim (λh=>i.bM (cH c h)) λh=>f.bM (cH d h))
theorem tM.le (f:eM n G)(o:eM n K)(c:bA n G O R)(d:bA n K O' R')(k: ∀y b,G y->K b->G (aX y b)){x:List Nat}(h:tM n R R' x):G x:=by
 refine NC.le h f ?_ ?_
 .rintro a ⟨p,l,q,m,rfl⟩
  have P:=cH c l;have Q:=cH d m;rw[nZ (f.bM P) (o.bM Q)];exact f.mul (f.inv P) (k _ _ P Q)
 .rintro y b j (i|i)
  .have:=cH c i
   exact f.mul (f.mul (f.inv this) j) this
  .exact k _ _ j (cH d i)
theorem tM.self (a:eM n G)(c:bA n G O R){x:List Nat}(h:tM n R R x):G x:=
 tM.le a a c c (λy b f d=>a.mul (a.mul (a.inv d) f) d) h
theorem tM.norm (j:eM n G)(f:eM n K)(c:bA n G O R)(d:bA n K O' R'){y b:List Nat}(a:tM n R R' y)(i:K b):tM n R R' (aX y b):=
 xS (B:=λg=>g∈cI R') (tM.cX j f c d) (λb h=>f.bM (cH d h)) (λy b a i=>NC.cj a (.inr i)) (lX f d i) y a
end
set_option maxHeartbeats 8000000
theorem Gb (h:H){v w:V}(b:v.cells= [v]/\v.one=true)(a:w.cells= [w]/\w.one=true):mC h 1 [.aD] 2 [(0,1,v),(1,1,w)]=some (.sl h.next 0 2 (.kn 2),h.new (.cells false [v,w])):=by
 have e:List.range 2= [0,1]:=rfl;simp [mC,oN,iH,putAt,b.1,b.2,a.1,a.2,dT,e]
theorem Kg {n:Nat}{u w:V}{a b:List Nat}{h h':H}(A:aY n a)(B:aY n b)(d:SI h u (zi a))(c:SI h w (zi b))(f:Fr h h'): ∀i,i< [u,w].length-> ∃a,aY n a/\SI h' (([u,w]:List V).getD i .undef) (zi a):=λi hi=>by
 match i,hi with
 |0,_=>exact⟨a,A,d.mono f⟩
 |1,_=>exact⟨b,B,c.mono f⟩
theorem xU {n:Nat}{a b:List Nat}(A:aY n a)(B:aY n b): ∀i,i<a.length->a.getD i 0<b.length:=λi hi=>by
 rw[B.len];exact A.fZ (by rw[<-A.len];exact hi)
theorem abL (u w:V)(n:Nat)(a b:List Nat)(h:H)(y:1<=n)(p:n<=64)(A:aY n a)(B:aY n b)(f:SI h u (zi a))(d:SI h w (zi b)):
  Ev T 209 [u,w] h (λv h'=> ∃x,v= .tup [x,aC 0]/\PV (λq=>q<h.next) h' x (aS a b)/\Fr h h'):=by
 refine kV ?_
 have l:=SV.cM f
 have i:=SV.cM d
 obtain⟨t,s,G,m,J,k⟩:=dF (h:=h) rfl [u,w]
 simp(disch:=omega)only[go_sem,aI,Gb h (v:=u) (w:=w) ⟨l.1,l.2.1⟩ ⟨i.1,i.2.1⟩,s]
 refine (yJ _ [u,w] n t y p siM (SV.all rfl om m _) (Kg A B f d k)).mono ?_
 rintro _ o ⟨rfl,r⟩
 have c:=k.trans r
 refine aM ?_
 refine bI (λz=>(z rfl).elim) (λ_=>?_)
 refine aM ?_
 refine (nU pX.ok u w a b o (by rw[A.len];omega) (f.mono c) (d.mono c) (xU A B)).mono ?_
 rintro x F j
 have:=c.next
 refine aM ?_
 exact⟨x,rfl,j.pv om,c.trans j.fr⟩
theorem ZU (u:V)(n:Nat)(a:List Nat)(h:H)(s:1<=n)(m:n<=64)(A:aY n a)(c:SI h u (zi a)):
  Ev T 208 [u] h (λv h'=> ∃x,v= .tup [x,aC 0]/\PV (λq=>q<h.next) h' x (cK a)/\Fr h h'):=by
 have j:=SV.cM c
 obtain⟨r,p,y,k,B,f⟩:=dF (h:=h) rfl [u]
 refine Px (cQ h (z:= .aD) j.1 j.2.1) p ?_
 refine (yJ _ [u] n r s m siM (SV.one om k (.kn 1)) (λi hi=>⟨a,A,?_⟩)).mono ?_
 .have:i=0:=by simpa using hi
  subst this
  exact c.mono f
 rintro _ l ⟨rfl,o⟩
 have b:=f.trans o
 refine aM ?_
 refine bI (λt=>(t rfl).elim) (λ_=>?_)
 refine aM ?_
 refine (zI vC.ok u n a l om A (c.mono b)).mono ?_
 rintro x w d
 have:=b.next
 refine aM ?_
 exact⟨x,rfl,d.pv om,b.trans d.fr⟩
theorem SN (u w:V)(n:Nat)(a b:List Nat)(h:H)(O:1<=n)(G:n<=64)(A:aY n a)(B:aY n b)(l:SI h u (zi a))(k:SI h w (zi b)):
  Ev T 207 [u,w] h (λv h'=> ∃x,v= .tup [x,aC 0]/\PV (λq=>q<h.next) h' x (aX a b)/\Fr h h'):=by
 refine kV ?_
 have r:=SV.cM l
 have m:=SV.cM k
 obtain⟨N,K,Q,s,U,p⟩:=dF (h:=h) rfl [u,w]
 simp(disch:=omega)only[go_sem,aI,Gb h (v:=u) (w:=w) ⟨r.1,r.2.1⟩ ⟨m.1,m.2.1⟩,K]
 refine (yJ _ [u,w] n N O G siM (SV.all rfl om s _) (Kg A B l k p)).mono ?_
 rintro _ t ⟨rfl,J⟩
 have i:=p.trans J
 refine aM ?_
 refine bI (λP=>(P rfl).elim) (λ_=>?_)
 refine aM ?_
 refine (zI vC.ok w n b t om B (k.mono i)).mono ?_
 rintro x F o
 have j:=i.trans o.fr
 refine aM ?_
 refine (nU pX.ok x u (cK b) a F (by rw[B.inv.len];omega) (o.pv (W:=λ_=>False) id).si (l.mono j) (xU B.inv A)).mono ?_
 rintro y L f
 have c:=j.trans f.fr
 refine aM ?_
 refine (nU pX.ok y w (aS (cK b) a) b L (by rw[(B.inv.mul A).len];omega) (f.pv (W:=λ_=>False) id).si (k.mono c) (xU (B.inv.mul A) B)).mono ?_
 rintro z R d
 have:=c.next
 refine aM ?_
 exact⟨z,rfl,d.pv om,c.trans d.fr⟩
theorem SH (u w:V)(n:Nat)(a b:List Nat)(h:H)(Q:1<=n)(Y:n<=64)(A:aY n a)(B:aY n b)(p:SI h u (zi a))(o:SI h w (zi b)):
  Ev T 123 [u,w] h (λv h'=> ∃x,v= .tup [x,aC 0]/\PV (λq=>q<h.next) h' x (dN a b)/\Fr h h'):=by
 refine kV ?_
 have K:=SV.cM p
 have F:=SV.cM o
 obtain⟨O,e1,n1,R,o1,J⟩:=dF (h:=h) rfl [u,w]
 simp(disch:=omega)only[go_sem,aI,Gb h (v:=u) (w:=w) ⟨K.1,K.2.1⟩ ⟨F.1,F.2.1⟩,e1]
 refine (yJ _ [u,w] n O Q Y siM (SV.all rfl om R _) (Kg A B p o J)).mono ?_
 rintro _ L ⟨rfl,Z⟩
 have k:=J.trans Z
 refine aM ?_
 refine bI (λhc=>(hc rfl).elim) (λ_=>?_)
 refine aM ?_
 refine (zI vC.ok u n a L om A (p.mono k)).mono ?_
 rintro x U G
 have m:=k.trans G.fr
 refine aM ?_
 refine (zI vC.ok w n b U om B (o.mono m)).mono ?_
 rintro y N f
 have r:=m.trans f.fr
 refine aM ?_
 refine (nU pX.ok x y (cK a) (cK b) N (by rw[A.inv.len];omega) ((G.pv (W:=λ_=>False) id).si.mono f.fr) (f.pv (W:=λ_=>False) id).si (xU A.inv B.inv)).mono ?_
 rintro z P l
 have d:=r.trans l.fr
 refine aM ?_
 refine (nU pX.ok u w a b P (by rw[A.len];omega) (p.mono d) (o.mono d) (xU A B)).mono ?_
 rintro s h6 c
 have i:=d.trans c.fr
 refine aM ?_
 refine (nU pX.ok z s (aS (cK a) (cK b)) (aS a b) h6 (by rw[(A.inv.mul B.inv).len];omega) ((l.pv (W:=λ_=>False) id).si.mono c.fr) (c.pv (W:=λ_=>False) id).si (xU (A.inv.mul B.inv) (A.mul B))).mono ?_
 rintro t h7 j
 have:=i.next
 refine aM ?_
 exact⟨t,rfl,j.pv om,i.trans j.fr⟩
theorem aJ.ahE {α β:Type}{P:α->β->Prop}:{a:List α}->{b:List β}->aJ P a b->aJ P (a.drop 1) (b.drop 1)
 | [], [],h=>h
 |_::_,_::_,h=>h.2
 | [],_::_,h=>h.elim
 |_::_, [],h=>h.elim
theorem Hz {n:Nat}{G:List Nat->Prop}{O:LN}{R:iA}(b:eM n G)(a:bA n G O R){i:Nat}(hi:i<n):1<=(R.getD i []).length/\(R.getD i []).length<=n:=by
 rw[a.rl i hi];have:=(a.mem i hi i).2 ⟨bC n,b.one,Fix.one n i om,fW hi⟩;exact⟨Ss this,kP (kC (λx c=>b.bM c) hi (a.asc i hi) (a.mem i hi)) om⟩
theorem qN {n:Nat}{G:List Nat->Prop}{O:LN}{R:iA}(c:eM n G)(a:bA n G O R):(cI R).length<=n*n:=by
 have:=sG (n:=n) (R:=R) (i:=n) (by rw[a.lr];exact eU _) (λj b=>(Hz c a b).2);rwa [Bo (by rw[a.lr];exact eU _)] at this
theorem wE {W:Nat->Prop}(vc:V)(n:Nat)(O:LN)(R:iA)(G:List Nat->Prop)(t h:H)(s:GC W t vc n O R G)(f0:Fr t h):
  Ev T 122 [vc] h (λv h'=> ∃ws,cW h' v 1 ws h.next/\fG W t ws (cI R)/\Fr h h'):=by
 obtain⟨Z,r,a0,f,rfl,sO,oO,pO,P,oR,aR⟩:=s.cw
 refine kV ?_
 have k:=(SV.cM sO).2.1
 have q:=(SV.cM P).2.1
 have a:=s.isc
 have hG:=s.cX
 have n7:=s.n7
 have lR:=aJ.length aR
 rw[a.lr] at lR
 obtain⟨B,hB⟩:=exI h.next
 obtain⟨h1,e1,n1,g1,o1,y⟩:=dF hB [aC n,Z,r]
 have bx:=aU h (v:= aC n) (u:=Z) (w:=r) rfl k q
 have L:bH r=some (aC n):=by unfold bH;rw[SV.len P (n:=n) om om];rfl
 obtain⟨z,d,Y,o,cR⟩:=SV.shape P n om om
 simp(disch:=omega)only[go_sem,aI,bx,hB,e1,H.cell_of g1,L]
 refine aH (λk' c x=> ∃(i:Nat) (K:V) (ws:List V),(∃g:Nat->V,c= [g 0,g 1,g 2,K,g 4,r,aC n,aC i,g 8])/\i<=n/\cW x K 1 ws h1.next/\fG W t ws (cI (R.take i))/\Fr h1 x/\k'=n-i) n
  ⟨0,.aD, [],aB rfl,fE _,cW.aD _ _ _,trivial,Fr.refl _,rfl⟩ ?_
 rintro k' c x ⟨i,K,ws,⟨g,rfl⟩,hi,ow,pv,F,rfl⟩
 have nF:=F.next
 by_cases l:(i:Int)<(n:Int)
 case neg=>
  have N:=bT l;obtain rfl:i=n:=om
  rw[Bo (by rw[a.lr];exact eU _)] at pv;refine bE N ?_;exact⟨ws,ow.le om,pv,y.trans F⟩
 have N:=cJ l
 have b:i<n:=om
 obtain⟨wr,tr,Q,J,p⟩:=aJ.get aR i om (by rw[a.lr];exact b)
 have er:R[i]'(by rw[a.lr];exact b)=R.getD i []:=by rw[List.getD,dC (by rw[a.lr];exact b)];rfl
 rw[er] at J
 have lw:=aJ.length J
 obtain⟨r1,r2⟩:=Hz hG a b
 have ci:x.cell z (d+i)=some (f[i]'om):=by
  rw[(f0.trans (y.trans F)).cell (o om),cR i om,dC om]
 generalize f[i]'om=vr at tr Q p ci
 obtain⟨vt,U,tt⟩:=CW tr p om
 have a1:=aJ.length pv
 have sl:(cI (R.take i)).length<=i*n:=sG (by rw[a.lr];omega) (λj hj=>(Hz hG a om).2)
 have a2:i*n<=7*7:=Nat.mul_le_mul om n7
 obtain⟨v2,h2,ea,A⟩:=cW.app (bytes:=24) ow nF (tt.mono (f0.trans (y.trans F))) (n:=ws.length) (m:=wr.length- 1) om (by rw[Nx];omega) om om
 refine iT N @Y.ixa ci U ea ?_
 rw[eJ i]
 refine⟨n-(i+1),om,i+1,v2,_,aB rfl,om,A.own,?_,A.fr _ F (eU _),rfl⟩
 rw[xF (by rw[a.lr];exact b)]
 exact aJ.append pv (aJ.ahE J)
theorem oV {α:Type}{l:List α}{i:Nat}{d:α}(hi:i<l.length):l[i]=l.getD i d:=by rw[List.getD,dC hi];rfl
theorem EY {W:Nat->Prop}(D:Nat)(u vO J:V)(n:Nat)(O:LN)(R:iA)(G:List Nat->Prop)(x:List Nat)(h:H)(N:GC W h (.agg [aC n,vO,J]) n O R G)(hD:D<h.next)(gD:h.get D=some (.cells false [aC n,vO,J]))(X:aY n x)(hu:SI h u (zi x)):
  Ev T 165 [.ptr D 0,u] h (λv h'=> ∃b,v= .bool b/\(b=true↔G x)/\Fr h h'):=by
 obtain⟨c0,c2,K,A,e,sO,oO,pO,sR,oR,aR⟩:=N.cw
 cases e
 refine kV ?_
 have c:=N.isc
 have o:=N.cX
 have n7:=N.n7
 have n0:=N.n0
 have lR:=aJ.length aR
 have lO:=aJ.length pO
 rw[c.lr] at lR
 rw[c.lo] at lO
 have b1:bH J=some (aC n):=by unfold bH;rw[SV.len sR (n:=n) om om];rfl
 obtain⟨a4,t,b9,Q,cR⟩:=SV.shape sR n om om
 obtain⟨a7,B,b2,L,cO⟩:=SV.shape sO n om om
 have b0: ∀d,Fr h d->d.get D=some (.cells false [aC n,vO,J]):=λd f=>by rw[f.get D hD];exact gD
 simp(disch:=omega)only[go_sem,aI,H.cell_of gD,b1]
 refine aH (λk' m d=> ∃(i:Nat) (vx:V) (y:List Nat),(∃g:Nat->V,m= [.ptr D 0,vx,g 2,g 3,g 4,g 5,g 6,g 7,J,aC n,aC i,g 11,g 12])/\i<=n/\SI d vx (zi y)/\aY n y/\Fix i y/\(G y↔G x)/\Fr h d/\k'=n-i) n
  ⟨0,u,x,aB rfl,fE _,hu,X,λk hk=>om,Iff.rfl,Fr.refl _,rfl⟩ ?_
 rintro k' m d ⟨i,vx,y,⟨g,rfl⟩,hi,sy,Y,l,q,F,rfl⟩
 by_cases P:(i:Int)<(n:Int)
 case neg=>
  have d1:=bT P;obtain rfl:i=n:=om
  refine bE d1 ?_;exact⟨true,rfl,⟨λ_=>q.1 (by rw[Fix.all Y l];exact o.one),λ_=>rfl⟩,F⟩
 have d1:=cJ P
 have a:i<n:=om
 obtain⟨wr,tr,b3,pr,b4⟩:=aJ.get aR i om (by rw[c.lr];exact a)
 have er:R[i]'(by rw[c.lr];exact a)=R.getD i []:=oV _
 rw[er] at pr
 have lw:=aJ.length pr
 obtain⟨r1,r2⟩:=Hz o c a
 have ci: ∀d,Fr h d->d.cell a4 (t+i)=some (A[i]'om):=λd f=>by
  rw[f.cell (Q om),cR i om,dC om]
 generalize A[i]'om=vr at tr b3 b4 ci
 have po:=aJ.get pO i om (by rw[c.lo];exact a)
 have eo:O[i]'(by rw[c.lo];exact a)=O.getD i []:=oV _
 rw[eo] at po
 have co:d.cell a7 (B+i)=some (K[i]'om):=by
  rw[F.cell (L om),cO i om,dC om]
 generalize K[i]'om=vo at po co
 obtain⟨a3,U,w,a1,a0⟩:=sy.open
 rw[aL,Y.len] at w a1 a0
 obtain⟨p,hp⟩:=exI (y.getD i 0)
 have cy:d.cell a3 (U+i)=some (aC p):=by rw[a0 i a];congr 2;simp [zi,Y.len,a,<-hp]
 have c1:(O.getD i []).length<=n:=kP (kC (λx hx=>o.bM hx) a (c.asc i a) (c.mem i a)) om
 have fb:Fr d (H.mk d.tr (d.next+18)):=(Fr.refl d).bU om
 simp(disch:=omega)only[go_sem,d1,b9.ixa,ci d F,H.cell_of (b0 d F),b2.ixa,co,w.ixa,cy]
 refine (Av _ (O.getD i []) p _ om (c.asc i a) (po.si.mono (F.trans fb))).mono ?_
 rintro _ h2 ⟨k,f,rfl,b8,b6,f2⟩
 have r:=fb.trans f2
 have F2:=F.trans r
 cases f with
 |false=>
  have a6: ¬G x:=λhx=>by
   have:=b8.2 ((c.mem i a p).2 ⟨y,q.2 hx,l,hp⟩);cases this
  refine aM ?_;exact⟨false,rfl,⟨λh=>(by cases h),λh=>absurd h a6⟩,F2⟩
 |true=>
  obtain⟨hk,a5⟩:=b6 rfl;have j:=c.rep i a k hk;rw[a5] at j;obtain⟨z,hz⟩:=exI ((R.getD i []).getD k []);rw[hz] at j;have Z:=o.bM j.mem;have a9:k<(R.getD i []).length:=by rw[c.rl i a];exact hk
  have pz:=aJ.get pr k om a9;rw[show (R.getD i [])[k]=z from by rw[<-hz];exact oV _] at pz;obtain⟨a8,a2,b5,s,b7⟩:=tr.shape (R.getD i []).length om om;have ck:h2.cell a8 (a2+k)=some (wr[k]'om):=by rw[F2.cell (s om),b7 k om,dC om]
  generalize wr[k]'om=vz at pz ck;refine cU @b5.ixa ck ?_;refine (ZU vz n z h2 n0 om Z (pz.si.mono F2)).mono ?_;rintro _ h3 ⟨vi,rfl,pi,f3⟩;refine aM ?_;refine (abL vx vi n y (cK z) h3 n0 om Y Z.inv (sy.mono (r.trans f3)) pi.si).mono ?_;rintro _ h4 ⟨vm,rfl,pm,f4⟩;refine aM ?_;rw[eJ i];refine⟨n-(i+1),om,i+1,vm,aS y (cK z),aB rfl,om,pm.si,Y.mul Z.inv,?_,?_,F.trans (r.trans (f3.trans f4)),rfl⟩
  .refine (Fix.mul Y om l (Fix.inv Z om j.fix)).succ ?_
   rw[dI (by rw[Y.len];exact a),hp];have:=rE Z a;rwa [j.maps] at this
  .rw[<-q]
   refine⟨λhm=>?_,λhy=>o.mul hy (o.inv j.mem)⟩;have:=o.mul hm j.mem;rwa [aG Y Z.inv Z,dU Z,bD Y] at this
section
variable {W W':Nat->Prop} {h h':H} {n D:Nat} {O l:LN} {G:List Nat->Prop}
theorem GC.congr {c:V}{R:iA}{G':List Nat->Prop}(g:GC W h c n O R G)(e: ∀x,G x↔G' x):GC W h c n O R G':=
 ⟨g.cw,g.isc.congr e,⟨λh=>g.cX.bM ((e _).2 h),(e _).1 g.cX.one,λa b=>(e _).1 (g.cX.mul ((e _).2 a) ((e _).2 b)),λa=>(e _).1 (g.cX.inv ((e _).2 a))⟩,g.n0,g.n7⟩
theorem GC.jK {a:V}{R:iA}(g:GC W h a n O R G)(b: ∀id,id<h.next->W' id->W id):GC W' h a n O R G:=g.go (Fx.refl _ _) b
structure La (W:Nat->Prop)(h:H)(D n:Nat)(G:List Nat->Prop):Prop where
 ex: ∃vO vR O R,h.get D=some (.cells false [aC n,vO,vR])/\GC (λid=>W id\/id=D) h (.agg [aC n,vO,vR]) n O R G
 nx:D<h.next
 nW: ¬W D
theorem La.go (r:La W h D n G)(f:Fx W h h')(c: ∀q,q<h.next->W' q->W q):La W' h' D n G:=by
 obtain⟨d,j,O,R,g,i⟩:=r.ex;exact⟨⟨d,j,O,R,by rw[f.get D r.nx r.nW];exact g,i.go ⟨f.next,λid b a=>f.get id b λh=>a (.inl h)⟩ λq b a=>a.imp_left (c q b)⟩,kQ r.nx f.next,λh=>r.nW (c _ r.nx h)⟩
theorem La.fx (r:La W h D n G)(f:Fx W h h'):La W h' D n G:=r.go f λ_ _ h=>h
theorem La.fr (r:La W h D n G)(f:Fr h h'):La W h' D n G:=r.fx (Fx.of f)
theorem La.jK (r:La W h D n G)(a: ∀q,q<h.next->W' q->W q):La W' h D n G:=r.go (Fx.refl _ _) a
theorem La.congr {G':List Nat->Prop}(r:La W h D n G)(e: ∀x,G x↔G' x):La W h D n G':=by
 obtain⟨b,c,O,R,g,a⟩:=r.ex;exact⟨⟨b,c,O,R,g,a.congr e⟩,r.nx,r.nW⟩
theorem acK {x y z:V}(b:x.one=true)(a:y.one=true)(c:z.one=true):oN [aC 0,.aD,.aD] [(0,3,.agg [x,y,z])]=some (.agg [x,y,z]):=by
 simp [oN,iH,putAt,V.cells,b,a,c]
theorem RA (n:Nat)(h:H)(N:1<=n)(Y:n<=7):
  Ev T 161 [aC n] h (λv h'=> ∃D,v= .ptr D 0/\h.next<=D/\La (λq=>q<h.next) h' D n (λx=>x=bC n)/\Fr h h'):=by
 refine nL ?_
 refine (Hy .aD n [] h N Y deC ⟨[],SV.aD _ _,trivial⟩ (λ_ h=>by cases h)).mono ?_
 rintro _ m ⟨vc,O,R,rfl,r,o⟩
 obtain⟨f,i,Q,B,e,s,oO,pO,z,oR,aR⟩:=r.cw
 subst e
 have c:=(SV.cM s).2.1
 have d:=(SV.cM z).2.1
 obtain⟨A,p⟩:=exI m.next
 obtain⟨j,K,n2,t,L,f2⟩:=dF p [aC 0,.aD,.aD]
 obtain⟨k,e3,n3,g3,U⟩:=lU j A [aC n,f,i]
 obtain⟨y,e4,n4,P,Z,f4⟩:=dF (h:=k) rfl [aC n,f,i]
 simp(disch:=omega)only[go_sem,p,K,bW j A 0 (v:= aC n) (u:=f) (w:=i) rfl c d,t,bQ,e3,aE g3,acK (x:= aC n) rfl c d,aU k (v:= aC n) (u:=f) (w:=i) rfl c d,e4]
 have n1:=o.next
 have F:Fr m y:=⟨om,λq hq=>by rw[Z q om,U q om,L q om]⟩
 refine⟨k.next,rfl,om,⟨⟨f,i,O,R,P,?_⟩,om,om⟩,o.trans F⟩
 have J:=r.congr (G':=λx=>x=bC n) λx=>⟨λhx=>bX.le (G:=λx=>x=bC n) ⟨λe=>e▸aY.one n,rfl,λa b=>by rw[a,b,cV (aY.one n)],λa=>by rw[a,oZ]⟩ (λ_ h=>by cases h) hx,λe=>by rw[e];exact .one⟩
 exact (J.jK (W':=λid=>id<h.next\/id=k.next) λid m j=>j.elim (λh=>h) λe=>om).mono F
def Jn (n:Nat)(G:List Nat->Prop)(l:LN):List Nat->Prop:=bX n (λg=>G g\/g∈l)
theorem Jn.cX (b:eM n G)(a: ∀g∈l,aY n g):eM n (Jn n G l):=bX.cX λg h=>h.elim (λh=>b.bM h) (a g)
theorem Jn.nil (a:eM n G)(x:List Nat):G x↔Jn n G [] x:=
 ⟨λh=>bX.of (λg h=>h.elim (λh=>a.bM h) λh=>by cases h) (.inl h),λh=>bX.le a (λg h=>h.elim (λh=>h) λh=>by cases h) h⟩
theorem Jn.in {x:List Nat}(b:eM n G)(a: ∀g∈l,aY n g)(d:Jn n G l x)(y:List Nat):Jn n G l y↔Jn n G (l++ [x]) y:=by
 have c:=Jn.cX b a;have f: ∀g∈l++ [x],aY n g:=λg h=>(jO.1 h).elim (a g) λh=>by rw[List.mem_singleton.1 h];exact c.bM d
 refine⟨λh=>bX.mono (λg h=>h.imp_right λh=>jO.2 (.inl h)) h,λh=>bX.le c (λg h=>?_) h⟩;rcases h with h|h
 .exact bX.of (λg h=>h.elim (λh=>b.bM h) (a g)) (.inl h)
 .rcases jO.1 h with h|h
  .exact bX.of (λg h=>h.elim (λh=>b.bM h) (a g)) (.inr h)
  .rw[List.mem_singleton.1 h];exact d
theorem Jn.push {x:List Nat}{R:iA}(d:eM n G)(f: ∀g∈l,aY n g)(X:aY n x)(c:bA n (Jn n G l) O R)(y:List Nat):bX n (· ∈cI R++ [x]) y↔Jn n G (l++ [x]) y:=by
 have i:=Jn.cX d f;have a: ∀g∈l++ [x],aY n g:=λg h=>(jO.1 h).elim (f g) λh=>by rw[List.mem_singleton.1 h];exact X
 have j: ∀g,g∈cI R++ [x]->aY n g:=λg h=>(jO.1 h).elim (λh=>i.bM (cH c h)) λh=>by rw[List.mem_singleton.1 h];exact X
 constructor
 .refine λh=>bX.le (Jn.cX d a) (λg h=>?_) h
  rcases jO.1 h with h|h
  .exact bX.mono (λg h=>h.imp_right λh=>jO.2 (.inl h)) (cH c h)
  .exact bX.of (λg h=>h.elim (λh=>d.bM h) (a g)) (.inr (jO.2 (.inr h)))
 .refine λh=>bX.le (bX.cX j) (λg h=>?_) h
  have b: ∀g,Jn n G l g->bX n (· ∈cI R++ [x]) g:=λg h=>bX.mono (λg h=>jO.2 (.inl h)) (lX i c h)
  rcases h with h|h
  .exact b g (bX.of (λg h=>h.elim (λh=>d.bM h) (f g)) (.inl h))
  .rcases jO.1 h with h|h
   .exact b g (bX.of (λg h=>h.elim (λh=>d.bM h) (f g)) (.inr h))
   .exact bX.of j (jO.2 (.inr h))
end
theorem Ub (h:H)(a m:Nat)(ws:List V): ∃h',H.mk ((H.mk h.tr a).new (.cells false ws)).tr m=h'/\h'.next=m/\h'.get a=some (.cells false ws)/\ ∀q,q≠a->h'.get q=h.get q:=by
 obtain⟨k,c,j,b,f,i⟩:=dF (h:=H.mk h.tr a) rfl ws;rw[c];exact⟨_,rfl,rfl,b,λq d=>f q d⟩
theorem sJ (v:V):Gz (λ_=>False) v:=by cases v<;>first|exact id|trivial
theorem fG.EA {W:Nat->Prop}{h:H}{v:V}{ws:List V}{l:LN}(sv:SV h v 1 ws)(p:fG W h ws l):SP h v l:=by
 have a:=aJ.length p
 exact⟨ws,sv,aJ.jM (by simpa using a) λi hi b=>by
  have:=(aJ.get p i hi om).si
  simpa using this⟩
theorem Xm {W:Nat->Prop}(D:Nat)(N:V)(ws:List V)(n:Nat)(G:List Nat->Prop)(l:LN)(h:H)(n0:1<=n)(n7:n<=7)(hG:eM n G)(hP: ∀g∈l,aY n g)(hl:l.length<1000000)(hW: ∀q,W q->q<h.next)(hr:La W h D n G)(sv:SV h N 1 ws)(b4:Gz (· =D) N)(pv:fG (· =D) h ws l):
  Ev T 162 [.ptr D 0,N] h (λv h'=>v= .ptr D 0/\La W h' D n (Jn n G l)/\Fx (· =D) h h'):=by
 have lw:=aJ.length pv
 have b5:bH N=some (aC (l.length:Int)):=by unfold bH;rw[SV.len sv (n:=l.length) om om];rfl
 refine yF b5 ?_
 refine aH (λk' j hh=> ∃(i:Nat),(∃g:Nat->V,j= [.ptr D 0,g 1,g 2,g 3,N,aC (l.length:Int),aC i,g 7,g 8])/\i<=l.length/\La W hh D n (Jn n G (l.take i))/\Fx (· =D) h hh/\k'=l.length-i) l.length
  ⟨0,aB rfl,fE _,hr.congr λx=>by rw[List.take_zero];exact Jn.nil hG x,Fx.refl _ _,rfl⟩ ?_
 rintro k' j hh ⟨i,⟨g,rfl⟩,hi,r,F,rfl⟩
 by_cases a0:(i:Int)<(l.length:Int)
 case neg=>
  have d1:=bT a0;obtain rfl:i=l.length:=om
  refine bE d1 ?_;exact⟨by rw[List.take_length] at r;exact r,F⟩
 have d1:=cJ a0
 have s:i<l.length:=om
 obtain⟨id,a1,sh,b7,hc⟩:=(sv.fx b4 F).shape l.length om om
 have J:=(aJ.get pv i om s).fx F
 obtain⟨x,hx⟩:=exI (l.getD i [])
 rw[show l[i]=x from by rw[<-hx];exact oV _] at J
 have cx:hh.cell id (a1+i)=some (ws[i]'om):=by rw[hc i om,dC om]
 generalize ws[i]'om=vx at J cx
 have X:aY n x:=by rw[<-hx];exact hP _ (aV s)
 have p: ∀g∈l.take i,aY n g:=λg hg=>hP g (List.mem_of_mem_take hg)
 have tk:l.take (i+1)=l.take i++ [x]:=by rw[<-hx];exact dJ [] s
 obtain⟨t,A,O,R,gD,P⟩:=r.ex
 have nD:=r.nx
 have nF:=F.next
 refine dQ d1 @sh.ixa cx ?_
 refine (EY D vx t A n O R _ x hh P nD gD X J.si).mono ?_
 rintro _ a ⟨bb,rfl,a7,B⟩
 have r2:=r.fr B
 have F2:Fx (· =D) h a:=F.trans (Fx.of (W:=(· =D)) B) λ_ _ h=>h
 cases bb with
 |true=>
  refine aM ?_;rw[eJ i];exact⟨l.length-(i+1),om,i+1,aB rfl,om,r2.congr λy=>by rw[tk];exact Jn.in hG p (a7.1 rfl) y,F2,rfl⟩
 |false=>
  have a6:=P.mono B;have d:a.get D=some (.cells false [aC n,t,A]):=by rw[B.get D nD];exact gD
  have n2:=B.next;have fb:Fr a (H.mk a.tr (a.next+21)):=(Fr.refl a).bU om;simp(disch:=omega)only[go_sem,H.cell_of d,aE d];refine (wE _ n O R _ a (H.mk a.tr (a.next+21)) a6 fb).mono ?_;rintro vs h3 ⟨us,ow,pu,f3⟩;have Y:=fb.trans f3;have n3:a.next+21<=h3.next:=f3.next;have b0:h3.get D=some (.cells false [aC n,t,A]):=by rw[Y.get D om];exact d
  obtain⟨h4,e4,n4,g4,o4⟩:=Ub h3 (a.next+12) h3.next [vx]
  have U:Fr a h4:=⟨om,λq o=>by rw[o4 q om];exact Y.get q o⟩
  have lu:=aJ.length pu;have gl:=Jn.cX hG p;have b6:=qN gl P.isc;have nn:n*n<=7*7:=Nat.mul_le_mul n7 n7;have wx:=SV.cM J.si;have L:cW h4 vs 1 us (a.next+21):=ow.mono om λq _ _ _ _ h1 _=>o4 q (by have:a.next+21<=q:=h1;omega)
  obtain⟨h5,a5,p5⟩:=L.push (bytes:=24) (SV.one (v:=vx) (id:=a.next+12) om g4 (.kn 1)) (n:=us.length) (m:=1) om rfl om om om;have n5:=p5.next;have ap: ∀k,k<a.next+21->dS vs k:=λk hk b2 a1 m c e=>by have:a.next+21<=b2:=(L.in _ _ _ _ e).2.1;omega
  have f:Fr a h5:=⟨om,λq o=>by rw[p5.old q om (ap q om)];exact U.get q o⟩
  have b3:h4.get D=some (.cells false [aC n,t,A]):=by rw[U.get D om];exact d
  have b1:SP h5 (.sl h4.next 0 (us.length+1) (.un 1)) (cI R++ [x]):=fG.EA (W:=λ_=>False) (p5.own om rfl (b:=0) om).sv
   (aJ.append (aJ.mono (λ_ _ k=>⟨(k.si.mono f),sJ _⟩) pu) ⟨⟨J.si.mono (B.trans f),sJ _⟩,trivial⟩)
  have K:h5.get D=some (.cells false [aC n,t,A]):=by rw[f.get D om];exact d
  have a9:UH (h5.cell D 0) (aC n)=true:=by rw[H.cell_of K];simp [UH,dM]
  simp(disch:=omega)only[go_sem,H.cell_of b0,cQ _ (z:= .aD) wx.1 wx.2.1,e4,H.cell_of b3,a5];refine⟨a9,?_⟩;refine (Hy _ n (cI R++ [x]) h5 n0 n7 (by rw[iB];simp;omega) b1 (λg hg=>(jO.1 hg).elim (λh=>gl.bM (cH P.isc h)) λh=>by rw[List.mem_singleton.1 h];exact X)).mono ?_;rintro _ h6 ⟨vc,O2,R2,rfl,Z,f6⟩;obtain⟨uO,uR,_,_,e,sO,_,_,sR,_,_⟩:=Z.cw;subst e;have Q:=(SV.cM sO).2.1;have a2:=(SV.cM sR).2.1;have a4:=f.trans f6;have n6:=f6.next;have a8:h6.get D=some (.cells false [aC n,t,A]):=by rw[f6.get D om];exact K
  obtain⟨h7,e7,b8,g7,o7⟩:=lU h6 D [aC n,uO,uR];refine gX (bW h6 D 0 (v:= aC n) (u:=uO) (w:=uR) rfl Q a2) a8 @bQ e7 ?_;rw[eJ i]
  have F7:Fx (· =D) a h7:=⟨om,λq h1 o=>by rw[o7 q o,a4.get q h1]⟩
  refine⟨l.length-(i+1),om,i+1,aB rfl,om,⟨⟨uO,uR,O2,R2,g7,?_⟩,om,r.nW⟩,F2.trans F7 λ_ _ h=>h,rfl⟩;have a3:=(Z.congr (G':=Jn n G (l.take (i+1))) λy=>by rw[tk];exact Jn.push hG p X P.isc y).jK (W':=λid=>W id\/id=D) λid h1 a=>a.elim (λh=>by have:=hW _ h;omega) λe=>om
  exact a3.go ⟨om,λq h1 o=>o7 q λe=>o (.inr e)⟩ λ_ _ h=>h
section
variable {n:Nat}
theorem iF {x y b:List Nat}(X:aY n x)(Y:aY n y)(B:aY n b):aX (aS x y) b=aS (aX x b) (aX y b):=by
 unfold aX;have i:=B.inv;rw[aG (i.mul X) B ((i.mul Y).mul B),<-aG B (i.mul Y) B,<-aG B i Y,dB B,cV Y,<-aG i X Y,aG (i.mul X) Y B]
theorem mQ {b:List Nat}(B:aY n b):aX (bC n) b=bC n:=by
 unfold aX;rw[bD B.inv,dU B]
theorem Ht {l:LN}{b:List Nat}(a: ∀g∈l,aY n g)(B:aY n b)(h: ∀x∈l,bX n (· ∈l) (aX x b)){x:List Nat}(c:bX n (· ∈l) x):bX n (· ∈l) (aX x b):=by
 induction c with
 |one=>rw[mQ B];exact .one
 |mul c hg ih=>rw[iF (c.bM a) (a _ hg) B];exact ih.app a (h _ hg)
theorem JK {c l B:LN}(f: ∀b∈B,aY n b)(m: ∀g∈c,aY n g)(d: ∀g∈l,aY n g)(o: ∀g∈c,g∈l)(q: ∀g∈l,NC n (· ∈c) (· ∈B) g)(p: ∀x∈l,∀b∈B,bX n (· ∈l) (aX x b))(x:List Nat):bX n (· ∈l) x↔NC n (· ∈c) (· ∈B) x:=
 ⟨λh=>bX.le (NC.cX m f) q h,λh=>h.le (bX.cX d) (λa j=>bX.of d (o a j)) λ_ b k i=>Ht d (f b i) (λz r=>p z r b i) k⟩
end
theorem PH (id R O P:Nat)(m:V)(B:LN)(n M:Nat)(n0:1<=n)(hn:n<=64)(hB: ∀b∈B,aY n b)(a7:B.length<1000000)(hM:M<10000000)(h:H)(J:Nat->Nat->LN->H->Prop)(l0:LN)(G:J 0 0 l0 h)
  (jF: ∀i k l hh,J i k l hh->hh.get R=bG [.ptr P 0]/\hh.get O=bG [m]/\(∃vl ws,hh.get P=bG [vl]/\SV hh vl 1 ws/\aJ (λv x=>SI hh v (zi x)) ws l)/\SP hh m B/\l.length<=M/\ ∀g∈l,aY n g)
  (jf: ∀i k l hh h',J i k l hh->Fr hh h'->J i k l h')
  (jn: ∀i l hh,J i B.length l hh->J (i+1) 0 l hh)
  (hy: ∀i k l G hh v,i<l.length->k<B.length->J i k l G->Fr G hh->PV (λq=>q<G.next) hh v (aX (l.getD i []) (B.getD k []))->Ey T id [v] hh (λv h'=>v= .bool true/\ ∃l',i<l'.length/\J i (k+1) l' h')):
  Ev T 206 [.yl id,.ptr R 0,.ptr O 0] h (λ_ h'=> ∃l,J l.length 0 l h'):=by
 refine nL ?_
 refine aH (λt a hh=> ∃(i:Nat) (l:LN),(∃g:Nat->V,a= [.yl id,.ptr R 0,.ptr O 0,aC i,g 4,g 5,g 6,g 7,g 8,g 9,g 10,g 11])/\i<=l.length/\J i 0 l hh/\t=M-i) M
  ⟨0,l0,aB rfl,fE _,G,rfl⟩ ?_
 rintro t a h1 ⟨i,l,⟨g,rfl⟩,hi,W,rfl⟩
 obtain⟨c,j,⟨vl,ws,K,sv,L⟩,sB,lM,hP⟩:=jF _ _ _ _ W
 have lw:=aJ.length L
 have r:bH vl=some (aC (l.length:Int)):=by unfold bH;rw[SV.len sv (n:=l.length) om om];rfl
 by_cases o:(i:Int)<(l.length:Int)
 case neg=>
  have Q:=bT o;obtain rfl:i=l.length:=om
  simp(disch:=omega)only[go_sem,H.cell_of c,H.cell_of K,r,Q];exact⟨l,W⟩
 have Q:=cJ o
 have A:=sB.lens
 rw[fL] at A
 simp(disch:=omega)only[go_sem,H.cell_of c,H.cell_of K,r,Q,H.cell_of j,A]
 refine aH (λt a hh=> ∃(k:Nat) (l:LN),(∃g:Nat->V,a= [.yl id,.ptr R 0,.ptr O 0,aC i,g 4,g 5,g 6,m,aC (B.length:Int),aC k,g 10,g 11])/\k<=B.length/\i<l.length/\J i k l hh/\t=B.length-k) B.length
  ⟨0,l,aB rfl,fE _,om,W,rfl⟩ ?_
 clear c j K sv L r Q o
 rintro t a Z ⟨k,l,⟨g,rfl⟩,hk,p,j2,rfl⟩
 obtain⟨c,j,⟨vl,ws,K,sv,L⟩,sB,lM,hP⟩:=jF _ _ _ _ j2
 by_cases y:(k:Int)<(B.length:Int)
 case neg=>
  have U:=bT y;obtain rfl:k=B.length:=om
  refine bE U ?_;rw[eJ i];exact⟨M-(i+1),om,i+1,l,aB rfl,om,jn _ _ _ j2,rfl⟩
 have U:=cJ y
 have f:k<B.length:=om
 have lw:=aJ.length L
 obtain⟨a1,z,a0,a5,a2⟩:=sv.shape l.length om om
 have sx:=aJ.get L i om p
 rw[show l[i]=l.getD i [] from oV _] at sx
 have cl:Z.cell a1 (z+i)=some (ws[i]'om):=by rw[a2 i om,dC om]
 generalize ws[i]'om=vx at sx cl
 obtain⟨a6,a4,us,s,F,a8,a3,N⟩:=sB.open
 rw[fL] at s F
 have cB:=a3 k (by rw[fL];exact f)
 have sb:=wF N f
 generalize us.getD k V.undef=vb at cB sb
 have X:=hP _ (aV (d:= []) p)
 have Y:=hB _ (aV (d:= []) f)
 simp(disch:=omega)only[go_sem,U,s.ixa,cB,H.cell_of c,H.cell_of K,a0.ixa,cl]
 refine (SN vx vb n _ _ Z n0 hn X Y sx sb).mono ?_
 rintro _ h3 ⟨w,rfl,pw,f3⟩
 refine aM ?_
 refine (hy i k l Z h3 w p f j2 f3 pw).mono ?_
 rintro _ h4 ⟨rfl,l',u,j4⟩
 refine aM ?_
 rw[eJ k]
 exact⟨B.length-(k+1),om,k+1,l',aB rfl,om,u,j4,rfl⟩
set_option maxRecDepth 100000
set_option maxRecDepth 100000
structure Plc (l:LN)(x:List Nat)(k:Nat):Prop where
 le:k<=l.length
 lo: ∀i,i<k->rI (l.getD i []) x=true
 hi: ∀i,k<=i->i<l.length->rI (l.getD i []) x=false
theorem SF (J y:V)(n:Nat)(l:LN)(x:List Nat)(h:H)(hn:n<1000)(hl:l.length<1000000)(hP: ∀g∈l,aY n g)(X:aY n x)(W:l.Pairwise Lt)(hv:SP h J l)(hx:SI h y (zi x)):
  Ev T 93 [J,y] h (λv h'=> ∃k:Nat,v= .tup [aC k,.bool (decide (x∈l))]/\Plc l x k/\(x∈l->k<l.length/\l.getD k []=x)/\Fr h h'):=by
 have⟨N,sv,Z⟩:=hv
 have Q:=aJ.length Z
 rw[fL] at Q
 have lv:bH J=some (aC (l.length:Int)):=by unfold bH;rw[SV.len sv (n:=l.length) om om];rfl
 obtain⟨id,Y,sh,a0,hc⟩:=SV.shape sv l.length om om
 have a: ∀i,i<l.length->(l.getD i []).length=n:=λi hi=>(hP _ (aV hi)).len
 have mono: ∀i j,i<j->j<l.length->Lt (l.getD i []) (l.getD j []):=λi j s b=>by
  have ei:l.getD i []=l[i]:=by rw[List.getD,dC om];rfl
  have ej:l.getD j []=l[j]:=by rw[List.getD,dC b];rfl
  rw[ei,ej];exact Sr.1 W i j om b s
 have cell: ∀p,Fr h p-> ∀i,i<l.length->p.cell id (Y+i)=some (N.getD i .undef):=λp f i hi=>by
  rw[f.cell (a0 om),hc i om];simp [List.getD,show i<N.length by omega]
 refine yF lv ?_
 refine bY (λvs p=> ∃k,(∃g:Nat->V,vs= [J,y,g 2,g 3,aC (k:Nat),g 5,g 6,g 7,g 8])/\Plc l x k/\Fr h p) ?_ ?_
 .refine aH (λk' d p=> ∃(i j:Nat),(∃g:Nat->V,d= [J,y,g 2,g 3,aC i,aC j,g 6,g 7,g 8])/\i<=j/\j<=l.length/\(∀q,q<i->rI (l.getD q []) x=true)/\(∀q,j<=q->q<l.length->rI (l.getD q []) x=false)/\Fr h p/\k'=j-i) l.length
   ⟨0,l.length,aB rfl,om,om,λm hm=>om,λm s b=>om,Fr.refl h,rfl⟩ ?_
  rintro k' d p ⟨i,j,⟨g,rfl⟩,a1,hj,L,G,F,rfl⟩
  by_cases A:(i:Int)<(j:Int)
  case neg=>
   have w:=bT A;obtain rfl:i=j:=om
   refine bE w ?_;exact⟨i,aB rfl,⟨hj,L,G⟩,F⟩
  have w:=cJ A
  obtain⟨m,hm⟩:=exI ((i+j)/2)
  have ea:(i:Int)+(j:Int)=((i+j:Nat):Int):=om
  have K:((i+j:Nat):Int).tdiv 2=(m:Int):=by rw[Int.tdiv_eq_ediv_of_nonneg om];omega
  have B:=cell p F m om
  have sm:=wF Z (i:=m) om
  generalize N.getD m .undef=vm at B sm
  refine iT w ea K @sh.ixa B ?_
  refine (EV vm y n _ x p om (a m om) X.len (sm.mono F) (hx.mono F)).mono ?_
  rintro _ t ⟨rfl,P⟩
  cases hl2:rI (l.getD m []) x with
  |true=>
   refine aM ?_;rw[eJ m];refine⟨j-(m+1),om,m+1,j,aB rfl,om,hj,λq U=>?_,G,F.trans P,rfl⟩
   by_cases e:q=m
   .rw[e];exact hl2
   .have s:=mono q m om om
    have b:=(lC (by rw[a m om,X.len])).1 hl2;exact (lC (by rw[a q om,X.len])).2 (Lt.trans (by rw[a q om,a m om]) s b)
  |false=>
   refine aM ?_;refine⟨m-i,om,i,m,aB rfl,om,om,L,λq s b=>?_,F.trans P,rfl⟩
   by_cases e:q=m
   .rw[e];exact hl2
   .rw[<-Bool.not_eq_true]
    intro t;have o:=mono m q om b;have z:=(lC (by rw[a q b,X.len])).1 t;rw[(lC (by rw[a m om,X.len])).2 (Lt.trans (by rw[a q b,a m om]) o z)] at hl2;cases hl2
 rintro d b ⟨k,⟨g,rfl⟩,O,F⟩
 have c:x∈l->k<l.length/\l.getD k []=x:=λR=>by
  obtain⟨q,U,eq⟩:=rV.1 R;have r:l.getD q []=x:=by rw[List.getD,dC U,<-eq];rfl
  have s:k<=q:=Nat.le_of_not_lt λt=>by
   have:=O.lo q t;rw[r,vV] at this;cases this
  have b:k=q:=Nat.le_antisymm s (Nat.le_of_not_lt λt=>by
   have o:=mono k q t U;rw[r] at o;have z:=O.hi k (eU _) om;rw[(lC (by rw[a k om,X.len])).2 o] at z
   cases z)
  exact⟨om,by rw[b];exact r⟩
 by_cases hk:(k:Int)<(l.length:Int)
 .have w:=cJ hk
  have B:=cell b F k om
  have sm:=wF Z (i:=k) om
  generalize N.getD k .undef=vm at B sm
  refine gX lv w @sh.ixa B ?_
  refine (Pu vm y _ _ b (sm.mono F) (hx.mono F) (by rw[aL,a k om];omega) (by rw[aL,X.len];omega)).mono ?_
  rintro _ t ⟨rfl,P⟩
  have K:decide (zi (l.getD k [])=zi x)=decide (x∈l):=by
   rw[decide_eq_decide];constructor
   .intro o
    have z:l.getD k []=x:=List.map_inj_right (λu v b=>om)|>.1 o;rw[<-z];exact aV om
   .intro o;rw[(c o).2]
  refine bE K ?_
  exact⟨k,rfl,O,c,F.trans P⟩
 .have w:=bT hk
  have K:decide (x∈l)=false:=bT λo=>by have:=(c o).1;omega
  refine cU lv w ?_
  exact⟨k,by rw[K],O,c,F⟩
theorem TN (c f:V)(n:Nat)(l:LN)(x:List Nat)(h:H)(q:n<1000)(m:l.length<1000000)(o: ∀g∈l,aY n g)(X:aY n x)(d:l.Pairwise Lt)(j:SP h c l)(p:SI h f (zi x)):
  Ev T 37 [c,f] h (λv h'=>((∃k:Nat,v= aC k/\k<l.length/\l.getD k []=x)\/x∉l/\v= aC (-1))/\Fr h h'):=by
 refine nL ?_
 refine (SF c f n l x h q m o X d j p).mono ?_
 rintro _ r ⟨k,rfl,s,i,F⟩
 by_cases a:x∈l
 .have b:=cJ a
  refine bE b ?_
  exact⟨.inl ⟨k,rfl,i a⟩,F⟩
 .have b:=bT a
  refine bE b ?_
  exact⟨.inr ⟨a,trivial⟩,F⟩
theorem Ca {g:Nat}(B:T g=some jR.fn)(u w:V)(a b:List (List Int))(h:H)(hu:SR h u a)(hw:SR h w b)(la:a.length<1000000)(lb:b.length<1000000)(ra: ∀x∈a,x.length<1000000)(rb: ∀x∈b,x.length<1000000):
  Ev T g [u,w] h (λv h'=>v= .bool (decide (a=b))/\Fr h h'):=by
 refine mG B rfl ?_
 have t:=hu.lens
 have lw:=hw.lens
 have⟨wa,sa,aa⟩:=hu
 have⟨G,sb,ab⟩:=hw
 have a1:=aJ.length aa
 have a0:=aJ.length ab
 obtain⟨id,r,sh,s,hc⟩:=SV.shape sa a.length om om
 obtain⟨q,k,U,d,R⟩:=SV.shape sb b.length om om
 by_cases P:(a.length:Int)=(b.length:Int)
 case neg=>
  have L:=cJ P;simp(disch:=omega)only[go_sem,jR,aI,t,lw,L];exact⟨by rw[bT];intro e;exact P (by rw[e]),Fr.refl h⟩
 have Q:a.length=b.length:=om
 have L:decide ((a.length:Int)≠(b.length:Int))=false:=bT (by simpa using P)
 simp(disch:=omega)only[go_sem,jR,aI,t,lw,L]
 refine aH (λk' f c=> ∃(i:Nat),(∃g:Nat->V,f= [u,w,g 2,aC i,g 4,g 5,g 6])/\i<=a.length/\(∀j,j<i->a.getD j []=b.getD j [])/\Fr h c/\k'=a.length-i) a.length
  ⟨0,aB rfl,fE _,λj hj=>om,Fr.refl h,rfl⟩ ?_
 rintro k' f c ⟨i,⟨g,rfl⟩,hi,hs,F,rfl⟩
 by_cases l:(i:Int)<(a.length:Int)
 case neg=>
  have Y:=bT l;obtain rfl:i=a.length:=om
  refine cU t Y ?_
  have:a=b:=by
   refine List.ext_getElem Q λj h1 h2=>?_
   have:=hs j h1;rwa [List.getD,dC h1,List.getD,dC h2] at this
  exact⟨by rw[cJ this],F⟩
 have Y:=cJ l
 have N:c.cell id (r+i)=some (wa.getD i .undef):=by
  rw[F.cell (s om),hc i om];simp [List.getD,show i<wa.length by omega]
 have O:c.cell q (k+i)=some (G.getD i .undef):=by
  rw[F.cell (d om),R i om];simp [List.getD,show i<G.length by omega]
 have W:=Pt aa (i:=i) om
 have J:=Pt ab (i:=i) om
 generalize wa.getD i .undef=va at N W
 generalize G.getD i .undef=vb at O J
 have n:=W.dM
 have o:=J.dM
 refine kA t Y @sh.ixa N @U.ixa O ?_
 refine (Pu va vb _ _ _ (W.mono (F.trans ((Fr.refl c).bU om))) (J.mono (F.trans ((Fr.refl c).bU om))) (ra _ (aV om)) (rb _ (aV om))).mono ?_
 rintro _ y ⟨rfl,Z⟩
 have F3:=F.trans (((Fr.refl c).bU om).trans Z)
 have m:y.cell id (r+i)=some va:=by
  have K:Fr c y:=((Fr.refl c).bU om).trans Z;rw[K.cell (by have:=s om;have:=F.next;omega)];exact N
 have p:y.cell q (k+i)=some vb:=by
  have K:Fr c y:=((Fr.refl c).bU om).trans Z;rw[K.cell (by have:=d om;have:=F.next;omega)];exact O
 by_cases z:a.getD i []=b.getD i []
 .have A:=cJ z
  refine iT A m p n o ?_
  rw[eJ i]
  refine⟨a.length-(i+1),om,i+1,aB rfl,om,λj hj=>?_,F3,rfl⟩
  by_cases e:j=i
  .rw[e];exact z
  .exact hs j om
 .have A:=bT z
  refine iT A m p n o ?_
  exact⟨by rw[bT];intro e;exact z (by rw[e]),F3⟩
theorem Sa (u w:V)(a b:List (List Int))(h:H)(d:SR h u a)(c:SR h w b)(f:a.length<1000000)(lb:b.length<1000000)(j: ∀x∈a,x.length<1000000)(i: ∀x∈b,x.length<1000000):
  Ev T 90 [u,w] h (λv h'=>v= .bool (decide (a=b))/\Fr h h'):=Ca jR.ok u w a b h d c f lb j i
theorem Si (u w:V)(a b:List (List Int))(h:H)(d:SR h u a)(c:SR h w b)(f:a.length<1000000)(lb:b.length<1000000)(j: ∀x∈a,x.length<1000000)(i: ∀x∈b,x.length<1000000):
  Ev T 41 [u,w] h (λv h'=>v= .bool (decide (a=b))/\Fr h h'):=Ca Hl.ok u w a b h d c f lb j i
theorem Da (v1 v2:V)(J L:Int)(O1 O2:List (List Int))(b d:List (List (List Int)))(h:H)(c1:Hd h v1 J O1 b)(c2:Hd h v2 L O2 d)(b4:mY O1)(a7:mY O2)(Y:rP b)(P:rP d):
  Ev T 31 [v1,v2] h (λv h'=>v= .bool (decide (J=L/\O1=O2/\b=d))/\Fr h h'):=by
 have⟨Z,z,e,sO,sR⟩:=c1
 subst e
 have⟨uO,Q,e,tO,tR⟩:=c2
 subst e
 refine kV ?_
 have a8:Z.one=true:=EB sO
 have c0:z.one=true:=Yb sR
 have U:uO.one=true:=by have⟨_,t,_⟩:=tO;exact t.cM.2.1
 have W:Q.one=true:=by have⟨_,t,_⟩:=tR;exact t.cM.2.1
 have b6:dM z z=true:=by have⟨_,t,_⟩:=sR;exact t.dM
 have K:dM Q Q=true:=by have⟨_,t,_⟩:=tR;exact t.dM
 obtain⟨A,hA⟩:=exI h.next
 obtain⟨h1,e1,n1,g1,o1,f1⟩:=dF hA [aC J,Z,z]
 obtain⟨c,e2,n2,g2,o2,f2⟩:=dF n1 [aC L,uO,Q]
 have bx:=λa:H=>aU a (v:= aC J) (u:=Z) (w:=z) rfl a8 c0
 have b3:=λa:H=>aU a (v:= aC L) (u:=uO) (w:=Q) rfl U W
 have F2:=f1.trans f2
 have gA:c.get A=bG [aC J,Z,z]:=by rw[o2 _ om];exact g1
 have a0: ∀a,Fr c a->a.cell A 0=some (aC J):=λa f=>by rw[f.cell om,H.cell_of gA];rfl
 have a1: ∀a,Fr c a->a.cell A 1=some Z:=λa f=>by rw[f.cell om,H.cell_of gA];rfl
 have a2: ∀a,Fr c a->a.cell A 2=some z:=λa f=>by rw[f.cell om,H.cell_of gA];rfl
 have b0: ∀a,Fr c a->a.cell (A+1) 0=some (aC L):=λa f=>by rw[f.cell om,H.cell_of g2];rfl
 have b1: ∀a,Fr c a->a.cell (A+1) 1=some uO:=λa f=>by rw[f.cell om,H.cell_of g2];rfl
 have b2: ∀a,Fr c a->a.cell (A+1) 2=some Q:=λa f=>by rw[f.cell om,H.cell_of g2];rfl
 have r2:=Fr.refl c
 by_cases hd:J=L
 case neg=>
  have e3:=cJ hd;simp(disch:=omega)only[go_sem,aI,bx,b3,hA,e1,n1,e2,a0 c r2,b0 c r2,e3,jS];exact⟨by rw[bT];exact λx=>hd x.1,F2⟩
 have e3:decide (J≠L)=false:=bT (by simpa using hd)
 simp(disch:=omega)only[go_sem,aI,bx,b3,hA,e1,n1,e2,a0 c r2,b0 c r2,a1 c r2,b1 c r2,e3]
 have mem:{l:List (List Int)}->(∀i,i<l.length->(l.getD i []).length<1000000)-> ∀x∈l,x.length<1000000:=λhl x r=>by
  obtain⟨i,hi,rfl⟩:=rV.1 r;have:=hl i hi;rwa [List.getD,dC hi] at this
 refine (Sa Z uO O1 O2 c (sO.mono F2) (tO.mono F2) b4.1 a7.1 (mem b4.2) (mem a7.2)).mono ?_
 rintro _ h3 ⟨rfl,f3⟩
 have⟨wR,b7,aR,_⟩:=sR
 have⟨zR,G,b5,_⟩:=tR
 have d0:=Y.1
 have d3:=P.1
 have d4:=aJ.length aR
 have d5:=aJ.length b5
 have m:bH z=some (aC (b.length:Int)):=by unfold bH;rw[SV.len b7 (n:=b.length) om om];rfl
 have a6:bH Q=some (aC (d.length:Int)):=by unfold bH;rw[SV.len G (n:=d.length) om om];rfl
 have F3:=F2.trans f3
 by_cases hO:O1=O2
 case neg=>
  have e4:=bT hO;refine cU e4 @jS ?_;exact⟨by rw[bT];exact λx=>hO x.2.1,F3⟩
 have e4:=cJ hO
 by_cases hl:(b.length:Int)=(d.length:Int)
 case neg=>
  have e5:=cJ hl;refine kA e4 (a2 h3 f3) (b2 h3 f3) m a6 e5 ?_;exact⟨by rw[bT];exact λx=>hl (by rw[x.2.2]),F3⟩
 have e5:decide ((b.length:Int)≠(d.length:Int))=false:=bT (by simpa using hl)
 have c8:b.length=d.length:=om
 obtain⟨id,c6,sh,c4,hc⟩:=SV.shape b7 b.length om om
 obtain⟨c3,b8,c9,a3,c7⟩:=SV.shape G d.length om om
 refine kA e4 (a2 h3 f3) (b2 h3 f3) m a6 e5 ?_
 refine aH (λk' B a=> ∃(i:Nat),(∃g:Nat->V,B= [g 0,g 1,.ptr A 0,.ptr (A+1) 0,g 4,aC i,g 6,g 7,g 8])/\i<=b.length/\(∀j,j<i->b.getD j []=d.getD j [])/\Fr h3 a/\k'=b.length-i) b.length
  ⟨0,aB rfl,fE _,λj hj=>om,Fr.refl h3,rfl⟩ ?_
 rintro k' B a ⟨i,⟨g,rfl⟩,hi,hs,F,rfl⟩
 have o:=f3.trans F
 by_cases a9:(i:Int)<(b.length:Int)
 case neg=>
  have e1:=bT a9;obtain rfl:i=b.length:=om
  refine dQ (a2 a o) m e1 ?_
  have:b=d:=by
   refine List.ext_getElem c8 λj h1 c=>?_
   have:=hs j h1;rwa [List.getD,dC h1,List.getD,dC c] at this
  exact⟨by rw[cJ ⟨hd,hO,this⟩],F3.trans F⟩
 have e1:=cJ a9
 have O:i<b.length:=om
 have s: ∀r,Fr h r->r.cell id (c6+i)=some (wR.getD i .undef):=λr f=>by
  rw[f.cell (c4 om),hc i om];simp [List.getD,show i<wR.length by omega]
 have y: ∀r,Fr h r->r.cell c3 (b8+i)=some (zR.getD i .undef):=λr f=>by
  rw[f.cell (a3 om),c7 i om];simp [List.getD,show i<zR.length by omega]
 have gg:{ws:List V}->{R:List (List (List Int))}->aJ (SR h) ws R->i<R.length->SR h (ws.getD i .undef) (R.getD i []):=λ{ws R} al b9=>by
  have h1:=aJ.length al;have:=aJ.get al i om b9;rw[List.getD,List.getD,dC om,dC b9];exact this
 have s1:=gg aR O
 have s2:=gg b5 om
 generalize wR.getD i .undef=va at s s1
 generalize zR.getD i .undef=vb at y s2
 have a4:dM va va=true:=by have⟨_,t,_⟩:=s1;exact t.dM
 have a5:dM vb vb=true:=by have⟨_,t,_⟩:=s2;exact t.dM
 have Fh:=F3.trans F
 refine qL (a2 a o) (b2 a o) m e1 @sh.ixa @c9.ixa (s a Fh) (y a Fh) ?_
 refine (Si va vb _ _ _ (s1.mono (Fh.trans ((Fr.refl a).bU om))) (s2.mono (Fh.trans ((Fr.refl a).bU om))) (Y.2 i O).1 (P.2 i om).1 (mem (Y.2 i O).2) (mem (P.2 i om).2)).mono ?_
 rintro _ p ⟨rfl,c5⟩
 have f4:Fr a p:=((Fr.refl a).bU om).trans c5
 have q:=o.trans f4
 have k:=Fh.trans f4
 by_cases he:b.getD i []=d.getD i []
 .have N:decide (b.getD i []=d.getD i [])=true:=cJ he
  refine uG N (a2 p q) (b2 p q) (s p k) (y p k) a4 a5 b6 K ?_
  rw[eJ i]
  refine⟨b.length-(i+1),om,i+1,aB rfl,om,λj hj=>?_,F.trans f4,rfl⟩
  by_cases e:j=i
  .rw[e];exact he
  .exact hs j om
 .have N:decide (b.getD i []=d.getD i [])=false:=bT he
  refine uG N (a2 p q) (b2 p q) (s p k) (y p k) a4 a5 b6 K ?_
  exact⟨by rw[bT];exact λx=>he (by rw[x.2.2]),k⟩
set_option maxRecDepth 100000
theorem Ao {W:Nat->Prop}(vc:V)(n:Nat)(O:LN)(R:iA)(G:List Nat->Prop)(h:H)(d:GC W h vc n O R G):
  Ev T 96 [vc] h (λv h'=>SP h' v R.flatten/\Fr h h'):=by
 obtain⟨L,k,e,sO,sR⟩:=d.ch
 subst e
 have l:L.one=true:=EB sO
 have z:k.one=true:=Yb sR
 have⟨J,t,aR,_⟩:=sR
 have n7:=d.n7
 have lR:=d.isc.lr
 have lw:=aJ.length aR
 rw[fL,lR] at lw
 obtain⟨A,hA⟩:=exI h.next
 obtain⟨r,e1,n1,g1,o1,B⟩:=dF hA [aC n,L,k]
 have bx:=aU h (v:= aC n) (u:=L) (w:=k) rfl l z
 have p:bH k=some (aC n):=by unfold bH;rw[SV.len t (n:=n) om om];rfl
 obtain⟨id,y,sh,U,hc⟩:=SV.shape t n om om
 have a2: ∀b,Fr r b->b.cell A 2=some k:=λb f=>by rw[f.cell om,H.cell_of g1];rfl
 have rl: ∀i,i<n->(R.getD i []).length<=n/\0<(R.getD i []).length:=λi hi=>by
  refine⟨?_,(Gf d.cX d.isc hi).1⟩;rw[d.isc.rl i hi];have:=kC (λx hx=>d.cX.bM hx) hi (d.isc.asc i hi) (d.isc.mem i hi);omega
 have fl: ∀i,i<=n->((R.take i).flatten).length<=i*n:=λi hi=>by
  induction i with
  |zero=>simp
  |succ i ih=>
   have r:=(rl i om).1;rw[dJ [] om,List.flatten_append,iB,Nat.succ_mul];have:=ih om;simp only[List.flatten_cons,List.flatten_nil,qV];omega
 refine Ku bx hA e1 ?_
 refine aH (λk' j b=> ∃(i:Nat) (Z:V) (a:List V),(∃g:Nat->V,j= [g 0,.ptr A 0,g 2,Z,aC i,g 5])/\i<=n/\cW b Z 1 a r.next/\aJ (SI h) a (((R.take i).flatten).map zi)/\Fr r b/\k'=n-i) n
  ⟨0,.aD, [],aB rfl,fE _,cW.aD _ _ _,trivial,Fr.refl r,rfl⟩ ?_
 rintro k' j b ⟨i,Z,a,⟨g,rfl⟩,hi,ow,K,F,rfl⟩
 by_cases o:(i:Int)<(n:Int)
 case neg=>
  have d1:=bT o;obtain rfl:i=n:=om
  refine dQ (a2 b F) p d1 ?_;rw[Bo om] at K;exact⟨⟨a,ow.sv,K.mono λ_ _ s=>s.mono (B.trans F)⟩,B.trans F⟩
 have d1:=cJ o
 have N:i<n:=om
 have cc:b.cell id (y+i)=some (J.getD i .undef):=by
  rw[(B.trans F).cell (U om),hc i om];simp [List.getD,show i<J.length by omega]
 have sr:SR h (J.getD i .undef) ((R.getD i []).map zi):=by
  have h2:=aJ.get aR i om (by rw[fL];omega);rw[List.getElem_map] at h2;rw[List.getD,List.getD,dC om,dC om];exact h2
 generalize J.getD i .undef=va at cc sr
 have⟨wi,si,ai⟩:=sr
 have Q:=aJ.length ai
 rw[fL] at Q
 have hr:=rl i N
 have Y:=aJ.length K
 rw[fL] at Y
 have a0:=fl i om
 have a1:i*n<=7*7:=Nat.mul_le_mul om n7
 have Fh:=B.trans F
 obtain⟨hd,ad,P⟩:=ow.push (bytes:=24) (si.mono Fh) (n:=a.length) (m:=(R.getD i []).length) om om om hr.2 om
 refine kA (a2 b F) p d1 @sh.ixa cc ad ?_
 rw[eJ i]
 have nF:=F.next
 have nd:=P.next
 refine⟨n-(i+1),om,i+1,_,a++wi,aB rfl,om,P.own om om om,?_,⟨om,λq hq=>?_⟩,rfl⟩
 .rw[dJ [] om,List.flatten_append,List.map_append]
  simp only[List.flatten_cons,List.flatten_nil,qV]
  exact aJ.append K ai
 .rw[P.old q om (λid y n' c e e2=>by have:=(ow.in _ _ _ _ e).2.1;omega)]
  exact F.get q hq
theorem XW (a b:Nat)(h:H)(q:a<1000000)(n:b<1000000):Ev T 243 [aC a,aC b] h (λv h'=>v= aC (Nat.gcd a b:Nat)/\Fr h h'):=by
 refine nL ?_;refine aH (λc d k=> ∃(x y:Nat),(∃g:Nat->V,d= [aC x,aC y,g 2,g 3])/\x<1000000/\y<1000000/\Nat.gcd x y=Nat.gcd a b/\Fr h k/\c=y) b
  ⟨a,b,aB rfl,q,n,rfl,Fr.refl h,rfl⟩ ?_
 rintro c d k ⟨x,y,⟨g,rfl⟩,r,m,l,F,p⟩;subst p
 by_cases j:(c:Int)=0
 .have i:decide ((c:Int)≠0)=false:=bT (by simpa using j)
  obtain rfl:c=0:=om
  refine bE i ?_;rw[<-l,Nat.gcd_zero_right];exact⟨rfl,F⟩
 .have i:=cJ j
  have o:(x:Int).tmod (c:Int)=((x%c:Nat):Int):=Th x c;have f:=Nat.mod_lt x (show c>0 by omega);refine dQ i j o ?_;exact⟨x%c,f,c,x%c,aB rfl,m,om,by rw[Nat.gcd_comm,<-Nat.gcd_rec,Nat.gcd_comm];exact l,F.bU om,rfl⟩
theorem xC {ks:List Cls.KE}{i:Nat}(hi:i<ks.length):(eV ks)[i*3]? =some ks[i].rep/\(eV ks)[i*3+1]? =some (aC (ks[i].ord:Int))/\(eV ks)[i*3+2]? =some (aC (ks[i].size:Int)):=by
 induction ks generalizing i with
 |nil=>simp at hi
 |cons a r ih=>
  have e:eV (a::r)= [a.rep,aC (a.ord:Int),aC (a.size:Int)]++eV r:=rfl
  cases i with
  |zero=>exact⟨rfl,rfl,rfl⟩
  |succ i=>
   have b:=ih (i:=i) (by simpa using hi);rw[e,show (i+1)*3=i*3+3 by omega];refine⟨?_,?_,?_⟩
   .rw[zT siM];exact b.1
   .rw[zT siM];exact b.2.1
   .rw[zT siM];exact b.2.2
end Go.Proofs.YtcdbmkidaecdiaaGreat
namespace Go.Pm
section
variable {n:Nat} {t:qW}
theorem pF.gt (T:pF n t){i p:Nat}{y:List Nat}(h:t i p=some y):i<p:=by
 have Y:=T.bM _ _ _ h;have F:=T.fix _ _ _ h;obtain⟨b,c,d⟩:=T.lt _ _ _ h;have m:=T.maps _ _ _ h;rcases Nat.lt_or_ge p i with a|a
 .exact absurd (Y.inj b c (m.trans (F p a).symm)) oq
 .omega
def eR (t:qW)(i p:Nat):wW:=(List.range p).filterMap (t i)
def eB (n:Nat)(t:qW)(i:Nat):wW:=(List.range i).flatMap λi=>eR t i n
theorem CA (i p:Nat):eR t i (p+1)=eR t i p++(t i p).toList:=by
 unfold eR;rw[List.range_succ,List.filterMap_append];cases h:t i p<;>simp [h]
theorem ET (i:Nat):eB n t (i+1)=eB n t i++eR t i n:=by
 unfold eB;rw[List.range_succ,List.flatMap_append];simp
theorem Pk:eB n t n=fY n t 0:=by
 unfold eB fY eR;simp
theorem vZ (T:pF n t):(fY n t 0).Nodup:=by
 have d: ∀i p c j y,t i p=some y->t c j=some y->i=c/\p=j:=λi p c j y k f=>by
  have u:=T.gt k;have v:=T.gt f;have r:=T.fix _ _ _ k;have q:=T.fix _ _ _ f;have o:=T.maps _ _ _ k;have m:=T.maps _ _ _ f
  have e:i=c:=by
   rcases Nat.lt_trichotomy i c with h|h|h
   .have:=q i h;omega
   .exact h
   .have:=r c h;omega
  subst e;exact⟨rfl,o.symm.trans m⟩
 rw[<-Pk];unfold eB;rw[List.Nodup,List.pairwise_flatMap];refine⟨λi _=>?_,?_⟩
 .unfold eR
  rw[List.pairwise_filterMap];refine (List.nodup_range (n:=n)).imp ?_;intro p j a y l s b e;subst e;exact a (d _ _ _ _ _ l b).2
 .refine (List.nodup_range (n:=n)).imp ?_
  intro i c a y l s b e;subst e;obtain⟨p,_,k⟩:=List.mem_filterMap.1 l;obtain⟨j,_,f⟩:=List.mem_filterMap.1 b;exact a (d _ _ _ _ _ k f).1
def frF (n:Nat)(t:qW)(l:wW):wW:=(fY n t 0).filter λy=>decide (y∉l)
def clF (n:Nat)(t:qW)(x:List Nat)(l:wW):wW:=if (fY n t 0).length<(fY n (jI t n x) 0).length then l++frF n (jI t n x) l else l
structure zP (n:Nat)(L:List Nat->Prop)(t:qW)(l:wW):Prop where
 tl:Jd n L t
 nd:l.Nodup
 mem: ∀y,y∈l↔y∈fY n t 0
variable {L:List Nat->Prop} {l:wW}
theorem zP.bM (c:zP n L t l): ∀y∈l,aY n y:=λy a=>c.tl.tab.KD y ((c.mem y).1 a)
theorem zP.bound (c:zP n L t l):l.length<=n^n:=xV c.nd c.bM
theorem zP.start (c:Jd n L t):zP n L t (fY n t 0):=⟨c,vZ c.tab,λ_=>Iff.rfl⟩
theorem Wz {a:qW}(s:Sub t a): ∀y,y∈fY n t 0->y∈fY n a 0:=λy d=>by
 obtain⟨i,p,f,b,h,c⟩:=gJ.1 d;exact gJ.2 ⟨i,p,f,b,h,s _ _ _ c⟩
theorem zP.step (c:zP n L t l)(A: ∀g,L g->aY n g){x:List Nat}(F:bX n L x):
  zP n L (jI t n x) (clF n t x l)/\Sub t (jI t n x)/\ins (jI t n x) n 0 x=none/\ ∃m,clF n t x l=l++m:=by
 obtain⟨a,f,N⟩:=c.tl.ins A F
 have v:=vZ a.tab
 refine⟨?_,f,N,?_⟩
 .cases h:ins t n 0 x with
  |none=>
   have e:jI t n x=t:=by unfold jI;rw[h]
   unfold clF;rw[e,if_neg (Nat.lt_irrefl _)];exact c
  |some q=>
   have⟨i,r⟩:=q;have e:jI t n x=put t i (r.getD i 0) r:=by unfold jI;rw[h]
   obtain⟨Y,B,J,U,Z,G,_⟩:=xT c.tl.tab n 0 x i r oq (F.bM A) (λk hk=>oq) h;have Q:r∈fY n (jI t n x) 0:=gJ.2 ⟨i,r.getD i 0,Nat.zero_le _,B,J.fZ B,by rw[e];unfold put;rw[if_pos ⟨rfl,rfl⟩]⟩
   have p:r∉fY n t 0:=λh=>by
    obtain⟨j,q,_,_,_,d⟩:=gJ.1 h;have u:=f _ _ _ d;have g1:=a.tab.gt u;have K:=a.tab.fix _ _ _ u;have R:=a.tab.maps _ _ _ u;have W:jI t n x i (r.getD i 0)=some r:=by rw[e];unfold put;rw[if_pos ⟨rfl,rfl⟩]
    have g2:=a.tab.gt W
    have s:i=j:=by
     rcases Nat.lt_trichotomy i j with h|h|h
     .have:=K i h;omega
     .exact h
     .have:=U j h;omega
    subst s;rw[<-R] at d;rw[G] at d;cases d
   have o:(fY n t 0).length<(fY n (jI t n x) 0).length:=by
    have:(r::fY n t 0).length<=(fY n (jI t n x) 0).length:=List.Nodup.length_le_of_subset (List.nodup_cons.2 ⟨p,vZ c.tl.tab⟩) (λy b=>by
     rcases List.mem_cons.1 b with rfl|b
     .exact Q
     .exact Wz f y b)
    rw[List.length_cons] at this;omega
   unfold clF;rw[if_pos o];refine⟨a,List.nodup_append.2 ⟨c.nd,v.filter _,λy b z P O=>?_⟩,λy=>?_⟩
   .subst O
    have:=(List.mem_filter.1 P).2;simp at this;exact this b
   .rw[List.mem_append]
    unfold frF;rw[List.mem_filter];constructor
    .rintro (h|h)
     .exact Wz f y ((c.mem y).1 h)
     .exact h.1
    .intro h
     by_cases w:y∈l
     .exact .inl w
     .exact .inr ⟨h,by simpa using w⟩
 .unfold clF
  split
  .exact⟨_,rfl⟩
  .exact⟨[],(List.append_nil _).symm⟩
theorem zP.gen (c:zP n L t l): ∀y∈l,bX n L y:=λy a=>c.tl.gen y ((c.mem y).1 a)
def Pr (n:Nat)(t:qW)(l:wW)(a b:Nat):Prop:=ins t n 0 (aS (l.getD a []) (l.getD b []))=none
theorem Pr.mono {c:qW}{m:wW}{a b:Nat}(h:Pr n t l a b)(s:Sub t c)(i:a<l.length)(f:b<l.length):Pr n c (l++m) a b:=by
 have e: ∀k,k<l.length->(l++m).getD k []=l.getD k []:=λk d=>by rw[List.getD,List.getD,List.getElem?_append_left d]
 unfold Pr;rw[e a i,e b f];exact Db s _ _ _ h
theorem zP.closed (c:zP n L t l)(h: ∀a b,a<l.length->b<l.length->Pr n t l a b):Gq n t:=λa b m q=>by
 obtain⟨i,hi,o⟩:=List.mem_iff_getElem.1 ((c.mem a).2 m);obtain⟨j,d,f⟩:=List.mem_iff_getElem.1 ((c.mem b).2 q);have:=h i j hi d;unfold Pr at this;have k:l.getD i []=a:=by rw[List.getD,List.getElem?_eq_getElem hi,<-o];rfl
 have p:l.getD j []=b:=by rw[List.getD,List.getElem?_eq_getElem d,<-f];rfl
 rwa [k,p] at this
def zN (t:qW)(i k:Nat):List Nat:=(List.range k).filter λp=>p==i||(t i p).isSome
theorem AQ (T:pF n t)(i:Nat):zN t i i= []:=by
 unfold zN;refine List.filter_eq_nil_iff.2 λp a=>?_
 have:=List.mem_range.1 a;simp only[Bool.or_eq_true,beq_iff_eq,not_or];refine⟨oq,λh=>?_⟩;obtain⟨y,b⟩:=Option.isSome_iff_exists.1 h;have:=T.gt b;omega
theorem JT (i k:Nat):zN t i (k+1)=zN t i k++if k=i\/(t i k).isSome then [k] else []:=by
 unfold zN;rw[List.range_succ,List.filter_append]
 by_cases h:k=i
 .subst h;simp
 .have e:(k==i)=false:=by simpa using h
  cases h2:t i k<;>simp [h,h2,List.filter,e]
theorem OZ (i:Nat):zN t i n=(lF n t i).orb:=rfl
theorem LG (i k:Nat):(zN t i k).Pairwise (· < ·):=List.pairwise_lt_range.filter _
end
end Go.Pm
namespace Go.Proofs.YtcdbmkidaecdiaaGreat
open Go Go.Ay Go.Pm
theorem Ek (h:H)(x:Int):mC h 1 [aC 0] 1 [(0,1,aC x)]=some (.sl h.next 0 1 (.kn 1),h.new (.cells false (ints [x]))):=by
 have e:dT [aC 0] 1= [aC 0]:=rfl;simp [mC,iH,e,putAt,V.cells,V.one,ints]
theorem OY {h:H}{v:V}{sz b:Nat}{ws:List V}(o:cW h v sz ws b): ∀id off len cap,v= .sl id off len cap->b<=id:=by
 rcases o with ⟨rfl,_⟩|⟨id,n,cap,a,rfl,_,_,c,_⟩
 .intro _ _ _ _ e;cases e
 .intro _ _ _ _ e;cases e;exact c
theorem Cf (l:List Nat)(x:Nat):zi (l++ [x])=zi l++ [(x:Int)]:=by simp [zi]
theorem Mr {l:List Nat}{i:Nat}(hi:i<l.length):l.take (i+1)=l.take i++ [l.getD i 0]:=by
 rw[List.take_add_one,dC hi,bJ hi];rfl
theorem nV (u w:V)(a b:List Nat)(h:H)(hN:a.length<=1000)(R:SI h u (zi a))(hw:SI h w (zi b))(hr: ∀i,i<a.length->a.getD i 0<b.length):
  Ev T 40 [u,w] h (λv h'=>SI h' v (zi (aS a b))/\Fr h h'/\ ∀id off len cap,v= .sl id off len cap->h.next<=id):=by
 have P:=R.lens
 rw[aL] at P
 obtain⟨id,off,N,B,Y⟩:=R.open
 rw[aL] at N B Y
 obtain⟨J,y,A,f,z⟩:=hw.open
 rw[aL] at A f z
 refine nL ?_
 refine aH (λO l Q=> ∃(i:Nat) (o:V),(∃j:Nat->V,l= [u,w,j 2,o,aC i,j 5])/\i<=a.length/\cW Q o 1 (ints (zi ((aS a b).take i))) h.next/\Fr h Q/\O=a.length-i) a.length
  ⟨0,.aD,aB rfl,fE _,cW.aD _ _ _,Fr.refl h,rfl⟩ ?_
 rintro O l c ⟨i,o,⟨jk,rfl⟩,hi,G,F,rfl⟩
 refine bE P ?_
 by_cases q:(i:Int)<(a.length:Int)
 .rw[cJ q]
  have d:i<a.length:=om
  have ci:c.cell id (off+i)=some (aC (a.getD i 0:Nat)):=by rw[F.cell (B om),Y i d];congr 2;simp [zi,d]
  have r:=hr i d
  have W:=dI (b:=b) d
  generalize hk:a.getD i 0=k at ci r W
  have ck:c.cell J (y+k)=some (aC (b.getD k 0:Nat)):=by rw[F.cell (f om),z k r];congr 2;simp [zi,r]
  refine iT @N.ixa ci @A.ixa ck @Ek ?_
  have p:Fr c (c.new (.cells false (ints [((b.getD k 0:Nat):Int)]))):=(Fr.refl c).new _
  have s:(c.new (.cells false (ints [((b.getD k 0:Nat):Int)]))).get c.next=some (.cells false (ints [((b.getD k 0:Nat):Int)])):=H.aQ ..
  have U:(c.new (.cells false (ints [((b.getD k 0:Nat):Int)]))).next=c.next+1:=H.aZ ..
  generalize c.new (.cells false (ints [((b.getD k 0:Nat):Int)]))=L at*
  have sx:SV L (.sl c.next 0 1 (.kn 1)) 1 (ints [((b.getD k 0:Nat):Int)]):=SV.all rfl om s _
  have nF:=F.next
  have hl:(aS a b).length=a.length:=fV a b
  obtain⟨v2,Z,K,t⟩:=(G.fr p).app (bytes:=8) (n:=i) (m:=1) om sx (by rw[aN,aL,wH,qZ];omega) rfl om om
  refine bE K ?_
  have x:=t.own
  rw[<-oH,<-W,<-Cf,<-Mr om] at x
  rw[eJ i]
  exact⟨a.length-(i+1),om,i+1,v2,aB rfl,om,x,t.fr h (F.trans p) (eU _),rfl⟩
 rw[bT q]
 obtain rfl:i=a.length:=om
 refine aM ?_
 rw[Bo (by rw[fV];omega)] at G
 exact⟨G.sv,F,OY G⟩
theorem Rw (n:Nat)(h:H)(K:n<=1000):
  Ev T 91 [aC n] h (λv h'=>SI h' v (zi (bC n))/\Fr h h'/\ ∀id off len cap,v= .sl id off len cap->h.next<=id):=by
 refine nL ?_
 refine aH (λw b t=> ∃(i:Nat) (o:V),(∃j:Nat->V,b= [aC n,j 1,o,aC i,j 4])/\i<=n/\cW t o 1 (ints (zi ((bC n).take i))) h.next/\Fr h t/\w=n-i) n
  ⟨0,.aD,aB rfl,fE _,cW.aD _ _ _,Fr.refl h,rfl⟩ ?_
 rintro w b a ⟨i,o,⟨J,rfl⟩,hi,p,F,rfl⟩
 refine aM ?_
 by_cases d:(i:Int)<(n:Int)
 .rw[cJ d]
  have s:i<n:=om
  refine bE @Ek ?_
  have c:Fr a (a.new (.cells false (ints [(i:Int)]))):=(Fr.refl a).new _
  have f:(a.new (.cells false (ints [(i:Int)]))).get a.next=some (.cells false (ints [(i:Int)])):=H.aQ ..
  have u:(a.new (.cells false (ints [(i:Int)]))).next=a.next+1:=H.aZ ..
  generalize a.new (.cells false (ints [(i:Int)]))=r at*
  have y:SV r (.sl a.next 0 1 (.kn 1)) 1 (ints [(i:Int)]):=SV.all rfl om f _
  have L:=F.next
  have G:=jB n
  obtain⟨x,B,q,k⟩:=(p.fr c).app (bytes:=8) (n:=i) (m:=1) om y (by rw[aN,aL,wH,qZ];omega) rfl om om
  refine bE q ?_
  have l:=k.own
  have z:=fW s
  have A:zi ((bC n).take i)++ [(i:Int)]=zi ((bC n).take (i+1)):=by rw[Mr om,Cf,z]
  rw[<-oH,A] at l
  rw[eJ i]
  exact⟨n-(i+1),om,i+1,x,aB rfl,om,l,k.fr h (F.trans c) (eU _),rfl⟩
 rw[bT d]
 obtain rfl:i=n:=om
 refine aM ?_
 rw[Bo (by rw[jB];omega)] at p
 exact⟨p.sv,F,OY p⟩
theorem Cd (u:V)(n:Nat)(a:List Nat)(h:H)(Y:n<=1000)(A:aY n a)(L:SI h u (zi a)):
  Ev T 39 [u] h (λv h'=>Vf h h' v (cK a)):=by
 refine kV ?_
 have l:=A.len
 have w:=L.lens
 rw[aL,l] at w
 obtain⟨id,off,G,q,O⟩:=L.open
 rw[aL,l] at G q O
 simp(disch:=omega)only[go_sem,aI,w,mJ h n om]
 have o:Fr h (h.new (.cells false (rc n λ_=> aC 0))):=(Fr.refl h).new _
 have f:(h.new (.cells false (rc n λ_=> aC 0))).get h.next=some (.cells false (rc n λ_=> aC 0)):=H.aQ ..
 have d:(h.new (.cells false (rc n λ_=> aC 0))).next=h.next+1:=H.aZ ..
 generalize h.new (.cells false (rc n λ_=> aC 0))=W at*
 obtain⟨S,p⟩:=exI h.next
 rw[p] at f d
 rw[p]
 refine aH (λK c x=> ∃(i:Nat),(∃j:Nat->V,c= [u,.aD,.sl S 0 n (.kn n),aC i,j 4])/\i<=n/\
   x.get S=some (.cells false (rc n λj=>if a.idxOf j<i then aC (a.idxOf j:Nat) else aC 0))/\x.next=S+1/\Fr h x/\K=n-i) n
  ⟨0,aB rfl,fE _,by rw[f];rfl,d,o,rfl⟩ ?_
 clear f o d
 rintro K c y ⟨i,⟨Z,rfl⟩,hi,z,J,F,rfl⟩
 refine bE w ?_
 by_cases m:(i:Int)<(n:Int)
 .rw[cJ m]
  have b:i<n:=om
  have ci:y.cell id (off+i)=some (aC (a.getD i 0:Nat)):=by rw[F.cell (q om),O i b];congr 2;simp [zi,l,b]
  have r:=A.fZ b
  have N:a.idxOf (a.getD i 0)=i:=A.inj (A.idx r).1 b (A.idx r).2
  generalize Q:a.getD i 0=k at ci r N
  have R:decide ((k:Int)<0)=false:=bT om
  have s:decide ((n:Int)<=(k:Int))=false:=bT om
  have B:=cF (vs:=rc n λj=>if a.idxOf j<i then aC (a.idxOf j:Nat) else aC 0) (off:=k) (by rw[iK];exact r) y S (aC i)
  rw[jL] at B
  refine kA @G.ixa ci R s z B ?_
  rw[eJ i]
  refine⟨n-(i+1),om,i+1,aB rfl,om,?_,J,F.set om _,rfl⟩
  congr 2
  refine cT λj t=>?_
  by_cases e:j=k
  .rw[bL e,e,N,bL om]
  .rw[bV e]
   have P:a.idxOf j≠i:=λU=>e (by rw[<-(A.idx t).2,U,Q])
   by_cases s:a.idxOf j<i
   .rw[bL s,bL om]
   .rw[bV s,bV om]
 rw[bT m]
 obtain rfl:i=n:=om
 refine aM ?_
 refine⟨by rw[iI,l,p],?_,by rw[p];exact J,F⟩
 rw[p,z]
 congr 2
 rw[<-Uh,iI,l]
 exact cT λj t=>by rw[bL (A.idx t).1,vF (by rw[l];exact t)]
structure Du (b:Nat)(W:Nat->Prop)(h:H)(n:Nat)(tv:V)(ρ:Nat->Nat)(F:Nat->Nat->V)(t:qW):Prop where
 sv:SV h tv 1 (rc n λi=> .sl (ρ i) 0 n (.kn n))
 off:Gz W tv
 row: ∀i,i<n->h.get (ρ i)=some (.cells false (rc n (F i)))
 wb: ∀i,i<n->W (ρ i)
 Iq: ∀id,W id->id<h.next
 low: ∀id,W id->b<=id
 inj: ∀i j,i<n->j<n->ρ i=ρ j->i=j
 ent: ∀i p,i<n->p<n->Slot W h (F i p) (t i p)
section
variable {b:Nat} {W:Nat->Prop} {h h':H} {n:Nat} {tv:V} {ρ:Nat->Nat} {F:Nat->Nat->V} {t:qW}
theorem Du.open (R:Du b W h n tv ρ F t):bH tv=some (aC n)/\ ∃id off,Sl tv 1 n id off/\ ∀i,i<n->h.cell id (off+i)=some (.sl (ρ i) 0 n (.kn n)):=by
 have s:=R.sv;have f:(rc n λi=>V.sl (ρ i) 0 n (.kn n)).length=n:=iK n _;refine⟨by unfold bH;rw[SV.len s (n:=n) om om];rfl,?_⟩;obtain⟨id,off,d,a,c⟩:=SV.shape s n om om;refine⟨id,off,d,λi hi=>?_⟩;rw[c i om,Be hi]
theorem Du.cell (R:Du b W h n tv ρ F t){i p:Nat}(hi:i<n)(a:p<n):h.cell (ρ i) p=some (F i p):=iJ (R.row i hi) a
theorem Du.mono (R:Du b W h n tv ρ F t)(f:Fr h h'):Du b W h' n tv ρ F t:=
 ⟨R.sv.mono f,R.off,λi hi=>by rw[f.get _ (R.Iq _ (R.wb i hi))];exact R.row i hi,R.wb,λid a=>kQ (R.Iq id a) f.next,R.low,R.inj,λi p hi c=>(R.ent i p hi c).fx (Fx.of f)⟩
theorem Du.go (R:Du b W h n tv ρ F t){W':Nat->Prop}(f:Fx W h h')(j: ∀i,i<n->h'.get (ρ i)=h.get (ρ i))(c: ∀id,id<h.next->W' id->W id)(a: ∀id,W id->W' id)(Iq: ∀id,W' id->id<h'.next)(low: ∀id,W' id->b<=id):Du b W' h' n tv ρ F t:=
 ⟨R.sv.fx R.off f,R.off.jK R.sv c,λi hi=>by rw[j i hi];exact R.row i hi,λi hi=>a _ (R.wb i hi),Iq,low,R.inj,λi p hi d=>(R.ent i p hi d).go f c⟩
def WB (n:Nat)(ρ:Nat->Nat)(id:Nat):Prop:= ∃i,i<n/\ρ i=id
theorem Du.wbx (R:Du b W h n tv ρ F t){a c:H}(f:Fx (WB n ρ) a c):Fx W a c:=f.jK λid _ d=>by
 obtain⟨i,hi,rfl⟩:=d;exact R.wb i hi
def F2 (F:Nat->Nat->V)(i p:Nat)(v:V):Nat->Nat->V:=λj q=>if j=i/\q=p then v else F j q
theorem Du.put (R:Du b W h n tv ρ F t){i p:Nat}(hi:i<n)(k:p<n){c:V}{x:List Nat}(m:PV W h c x):
  ∃h',eH (h.get (ρ i)) h (ρ i) p [c]=some h'/\Du b W h' n tv ρ (F2 F i p c) (Pm.put t i p x)/\Fx (WB n ρ) h h'/\h'.next=h.next:=by
 have o:=cF (vs:=rc n (F i)) (off:=p) (by rw[iK];exact k) h (ρ i) c
 rw[R.row i hi,o,jL]
 refine⟨_,rfl,?_,Fx.set h (W:=WB n ρ) ⟨i,hi,rfl⟩ _,rfl⟩
 have f:Fx W h (h.set (ρ i) (some (.cells false (rc n λj=>if j=p then c else F i j)))):=Fx.set h (R.wb i hi) _
 refine⟨R.sv.fx R.off f,R.off,λj d=>?_,R.wb,R.Iq,R.low,R.inj,λj q d l=>?_⟩
 .by_cases e:j=i
  .subst e
   rw[H.aW]
   congr 2
   refine cT λq _=>?_
   unfold F2
   by_cases a:q=p
   .rw[bL a,bL ⟨rfl,a⟩]
   .rw[bV a,bV (λh=>a h.2)]
  .rw[H.aF h (λa=>e (R.inj _ _ d hi a)),R.row j d]
   congr 2
   refine cT λq _=>?_
   unfold F2
   rw[bV (λh=>e h.1)]
 .unfold F2 Pm.put
  by_cases e:j=i/\q=p
  .rw[bL e,bL e]
   exact PV.fx m f
  .rw[bV e,bV e]
   exact (R.ent j q d l).fx f
theorem PV.fresh {v:V}{l:List Nat}(s:SI h' v (zi l))(c: ∀id off len cap,v= .sl id off len cap->h.next<=id)(a: ∀id,W id->id<h.next):PV W h' v l:=by
 refine⟨s,?_⟩
 cases v with
 |sl id off len cap=>exact λd=>by have:=c _ _ _ _ rfl;have:=a id d;omega
 |_=>trivial
theorem Slot.nil {v:V}(s:Slot W h v none):v= .aD:=s
end
theorem Nn (b:Nat)(W:Nat->Prop)(h:H)(n:Nat)(tv:V)(ρ:Nat->Nat)(F:Nat->Nat->V)(t:qW)(vx:V)(x:List Nat)(hn:n<=64)(h0:0<n)(R:Du b W h n tv ρ F t)(hx:PV W h vx x)(X:aY n x)(TI:pF n t):
  Ev T 87 [tv,vx] h (λv h'=> ∃F',v= .bool (ins t n 0 x).isSome/\Du b W h' n tv ρ F' (jI t n x)/\Fx (WB n ρ) h h'):=by
 obtain⟨lv,id,a6,sh,_⟩:=R.open
 refine nL ?_
 refine aH (λk' k hh=> ∃(i:Nat) (y:List Nat) (r:V),(∃g:Nat->V,k= [tv,r,g 2,aC i,g 4,g 5,g 6,g 7])/\i<=n/\ins t (n-i) i y=ins t n 0 x/\PV W hh r y/\aY n y/\Fr h hh/\k'=n-i) n
  ⟨0,x,vx,aB rfl,fE _,rfl,hx,X,Fr.refl h,rfl⟩ ?_
 rintro k' k h2 ⟨i,y,r,⟨g,rfl⟩,hi,u,s,Y,f,rfl⟩
 have m:=R.mono f
 by_cases B:(i:Int)<(n:Int)
 case neg=>
  have A:=bT B;obtain rfl:i=n:=om
  refine cU lv A ?_;rw[Nat.sub_self] at u;have a:ins t i 0 x=none:=u.symm;refine⟨F,by rw[a];rfl,?_,Fx.of f⟩;unfold jI;rw[a];exact m
 have A:=cJ B
 have c:i<n:=om
 obtain⟨a0,G,d,L,J⟩:=s.si.open
 rw[aL,Y.len] at d L J
 have ci:h2.cell a0 (G+i)=some (aC (y.getD i 0:Nat)):=by rw[J i c];congr 2;simp [zi,Y.len,c]
 have Q:=Y.fZ c
 obtain⟨p,o⟩:=exI (y.getD i 0)
 rw[o] at ci Q
 have q:n-i=(n-(i+1))+1:=om
 rw[q] at u
 obtain⟨_,a5,a4,K,a3⟩:=m.open
 have cr:=a3 i c
 have P:=m.cell c Q
 have U:=m.ent i p c Q
 by_cases l:p=i
 .have a:ins t (n-(i+1)) (i+1) y=ins t n 0 x:=by
   rw[<-u]
   conv=>rhs;unfold ins
   rw[bL (o.trans l)]
  have O:decide ((p:Int)=(i:Int))=true:=cJ om;refine iT lv A @d.ixa ci O ?_;rw[eJ i];exact⟨n-(i+1),om,i+1,y,r,aB rfl,om,a,s,Y,f,rfl⟩
 have O:decide ((p:Int)=(i:Int))=false:=bT om
 have e3:decide ((p:Int)<0)=false:=bT om
 have e4:decide ((n:Int)<=(p:Int))=false:=bT om
 cases hto:t i p with
 |none=>
  rw[hto] at U;have a2:=U.nil;rw[a2] at P
  have a:ins t n 0 x=some (i,y):=by
   rw[<-u];unfold ins;rw[bV (by rw[o];exact l),o,hto]
  obtain⟨h3,pt,R3,N,n3⟩:=m.put c Q s;simp(disch:=omega)only[go_sem,lv,A,d.ixa,ci,O,e3,e4,K.ixa,cr,P,kO s.eZ.1 s.eZ.2,pt];have e5:jI t n x=Pm.put t i p y:=by unfold jI;rw[a];simp only;rw[o]
  refine⟨F2 F i p r,by rw[a];rfl,by rw[e5];exact R3,(Fx.of f).trans N (λ_ _ h=>h)⟩
 |some z=>
  rw[hto] at U;have Z:=TI.bM _ _ _ hto;have hz:PV W h2 (F i p) z:=U;have sn:=Ch hz (aY.ne h0 Z) false
  have a:ins t (n-(i+1)) (i+1) (aS y (cK z))=ins t n 0 x:=by
   rw[<-u]
   conv=>rhs;unfold ins
   rw[bV (by rw[o];exact l),o,hto]
  generalize F i p=vz at P hz sn;simp(disch:=omega)only[go_sem,lv,A,d.ixa,ci,O,e3,e4,K.ixa,cr,P,sn];refine (Cd vz n z h2 om Z hz.si).mono ?_;rintro w h3 nw;have N:=nw.fr;have pw:=nw.pv (W:=W) (λhw=>by have:=m.Iq _ hw;omega);refine aM ?_;refine (nV r w y (cK z) h3 (by rw[Y.len];omega) (s.si.mono N) pw.si (λj hj=>by rw[iI,Z.len];exact Y.fZ (by rw[<-Y.len];exact hj))).mono ?_;rintro v h4 ⟨s4,f4,l4⟩;refine aM ?_;rw[eJ i];exact⟨n-(i+1),om,i+1,_,v,aB rfl,om,a,PV.fresh s4 l4 (λid a1=>kQ (m.Iq id a1) N.next),Y.mul Z.inv,(f.trans N).trans f4,rfl⟩
end Go.Proofs.YtcdbmkidaecdiaaGreat
