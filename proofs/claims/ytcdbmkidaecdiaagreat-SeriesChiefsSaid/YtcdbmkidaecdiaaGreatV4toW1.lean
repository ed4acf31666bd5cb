/- Texts of the claim. -/
import Derived.Test.YtcdbmkidaecdiaaGreatP8btoV1
import Derived.Test.YtcdbmkidaecdiaaGreatP6btoP8a
set_option maxHeartbeats 64000000
set_option maxRecDepth 100000
namespace Go.Proofs.YtcdbmkidaecdiaaGreat
open Go Go.Ay Go.Pm
set_option maxHeartbeats 32000000
theorem Zs {W:Nat->Prop}(q f:V)(n:Nat)(O:List (List Nat))(R:List (List (List Nat)))(G:List Nat->Prop)(x:List Nat)(h:H)(c:GC W h q n O R G)(o:SI h f (zi x))(X:aY n x):
  Ev T 154 [q,f] h (λv h'=>v= .int .i64 0/\Fr h h'):=by
 obtain⟨i,k,rfl,a,b⟩:=c.shape
 have J:=c.n0
 have L:=c.n7
 obtain⟨B,s⟩: ∃B,h.next=B:=⟨_,rfl⟩
 obtain⟨P,F,N,m,Q,j⟩:=dF s [.int .i64 (n:Int),i,k]
 have t:=aU h (v:= .int .i64 (n:Int)) (u:=i) (w:=k) rfl a b
 have p:=o.lens
 rw[aL,X.len] at p
 have l:decide ((0:Int)≠0)=false:=rfl
 have y:decide ((n:Int)≠(n:Int))=false:=decide_eq_false (λh=>h rfl)
 refine pY t s F (aE m) ?_
 refine ((c.mono j).Ba).mono ?_
 rintro _ z ⟨rfl,d⟩
 refine bE l ?_
 refine (mM f (zi x) z (by rw[aL,X.len];omega) (o.mono (j.trans d))).mono ?_
 rw[Am X J om]
 rintro _ A ⟨rfl,r⟩
 have K:A.get B=some (.cells false [.int .i64 (n:Int),i,k]):=by rw[r.get _ (by have:=d.next;omega),d.get _ om];exact m
 simp(disch:=omega)only[go_sem,l,p,H.cell_of K,y]
 exact j.trans (d.trans r)
theorem TZ {W:Nat->Prop}(vc vx:V)(n:Nat)(O:List (List Nat))(R:List (List (List Nat)))(G:List Nat->Prop)(x:List Nat)(h:H)(F:GC W h vc n O R G)(hx:SI h vx (zi x))(hG:G x):
  Ev T 116 [vc,vx] h (λv h'=> ∃r:Nat,v= .tup [.int .i64 (r:Int),.int .i64 0]/\(bZ O R n 0 (bC n))[r]? =some x/\Fr h h'):=by
 have X:=F.cX.bM hG
 obtain⟨vO,vR,rfl,d6,g9⟩:=F.shape
 have n0:=F.n0
 have n7:=F.n7
 have sz:=dX F
 obtain⟨B,hB⟩: ∃B,h.next=B:=⟨_,rfl⟩
 obtain⟨h1,e1,n1,g1,o1,f1⟩:=dF hB [.int .i64 (n:Int),vO,vR]
 have bx:=aU h (v:= .int .i64 (n:Int)) (u:=vO) (w:=vR) rfl d6 g9
 have d0:decide ((0:Int)≠0)=false:=rfl
 refine pY bx hB e1 (aE g1) ?_
 refine (Zs _ vx n O R G x h1 (F.mono f1) (hx.mono f1) X).mono ?_
 rintro _ h2 ⟨rfl,f2⟩
 have F2:=f1.trans f2
 have g2:h2.get B=some (.cells false [.int .i64 (n:Int),vO,vR]):=by rw[f2.get _ om];exact g1
 refine cU d0 (aE g2) ?_
 refine (Es _ n O R G h2 (F.mono F2)).mono ?_
 rintro _ h3 ⟨S,rfl,k0,i9,gS,f3⟩
 have F3:=F2.trans f3
 have l2:=f2.next
 have g3:h3.get B=some (.cells false [.int .i64 (n:Int),vO,vR]):=by rw[f3.get _ om];exact g2
 simp(disch:=omega)only[go_sem,Bool.not_true,aE g3]
 refine (TQ _ vx n O R G x h3 (F.mono F3) (hx.mono F3) X).mono ?_
 rintro _ h4 ⟨b,rfl,hb,f4⟩
 obtain rfl:b=true:=hb.2 hG
 have F4:=F3.trans f4
 have l3:=f3.next
 have g4:h4.get B=some (.cells false [.int .i64 (n:Int),vO,vR]):=by rw[f4.get _ om];exact g3
 have i2:h4.get S=_:=(f4.get S i9).trans gS
 simp(disch:=omega)only[go_sem,Bool.not_true,H.cell_of g4]
 refine (Rw n h4 om).mono ?_
 rintro vu h5 ⟨su,f5,_⟩
 have F5:=F4.trans f5
 have l4:=f4.next
 have g5:h5.get B=some (.cells false [.int .i64 (n:Int),vO,vR]):=by rw[f5.get _ om];exact g4
 have i1:h5.get S=_:=(f5.get S om).trans i2
 obtain⟨_,_,e0,sO,sR⟩:=F.ch
 cases e0
 obtain⟨j7,eO,cO,i7,i3,c9,wO,a6,a3⟩:=mI sO
 obtain⟨j9,eR,cR,j3,i0,e5,wR,e4,a4⟩:=sU sR
 rw[fL,F.isc.lo] at a6 a3
 rw[fL,F.isc.lr] at e4 a4
 obtain⟨idx,g0,a8,b7,c8⟩:=hx.open
 rw[aL,X.len] at a8 b7 c8
 have j2:x∈bZ O R n 0 (bC n):=((dA F.cX F.isc).1.mem x).2 hG
 have t:=F.isc
 have cX:=F.cX
 have j5:(bZ O R n 0 (bC n)).length=iC O n 0:=(dA F.cX F.isc).2
 refine aM ?_
 refine aH (λk' J hh=> ∃(i r:Nat) (vu:V) (u:List Nat),(∃g:Nat->V,J= [g 0,vx,.ptr B 0,g 3,g 4,g 5,.sl S 0 (n+1) (.kn (n+1)),g 7,g 8,.int .i64 (r:Int),vu,.int .i64 (i:Int),g 12,g 13,g 14,g 15,g 16,g 17,g 18,g 19,g 20,g 21])/\i<=n/\SI hh vu (zi u)/\aY n u/\x∈bZ O R (n-i) i u/\(∀k,(bZ O R (n-i) i u)[k]? =some x->(bZ O R n 0 (bC n))[r+k]? =some x)/\Fr h5 hh/\k'=n-i) n
  ⟨0,0,vu,bC n,aB rfl,fE _,su,aY.one n,j2,λk y=>by rw[Nat.zero_add];exact y,Fr.refl _,rfl⟩ ?_
 rintro k' J h6 ⟨i,r,vu,u,⟨g,rfl⟩,hi,su,U,el,hr,f6,rfl⟩
 have l5:=f5.next
 have g6:h6.get B=some (.cells false [.int .i64 (n:Int),vO,vR]):=by rw[f6.get _ om];exact g5
 have j0:h6.get S=_:=(f6.get S om).trans i1
 have F6:=F5.trans f6
 by_cases d8:(i:Int)<(n:Int)
 case neg=>
  have d1:decide ((i:Int)<(n:Int))=false:=decide_eq_false d8;obtain rfl:i=n:=om
  simp(disch:=omega)only[go_sem,H.cell_of g6,d1];rw[Nat.sub_self,bZ,List.mem_singleton] at el;subst el;have:=hr 0 (by rw[Nat.sub_self];rfl);exact⟨r,rfl,this,F6⟩
 have d1:decide ((i:Int)<(n:Int))=true:=decide_eq_true d8
 have f:i<n:=om
 obtain⟨d,hd⟩: ∃d,n-(i+1)=d:=⟨_,rfl⟩
 rw[show n-i=d+1 from om] at el hr
 obtain⟨p,hp⟩: ∃p,x.getD i 0=p:=⟨_,rfl⟩
 obtain⟨UO,e6,c2⟩:=IG cX t om U el
 rw[hp] at UO e6 c2
 obtain⟨q,hq,_,j1,e3,c6,sP,_,_⟩:=lY cX t U f UO
 obtain⟨bO,f0,b3⟩:=a3 i f
 obtain⟨bR,g8,c1⟩:=a4 i f
 rw[fO zi (d:= []) (by rw[t.lo];exact f)] at b3
 rw[fO (List.map zi) (d:= []) (by rw[t.lr];exact f)] at c1
 generalize wO.getD i V.undef=vo at f0 b3
 generalize wR.getD i V.undef=vr at g8 c1
 obtain⟨a1,P,b0,a0⟩: ∃a1 P,Sl vo 1 (O.getD i []).length a1 P/\ ∀k,k<(O.getD i []).length->a1<h.next/\h.cell a1 (P+k)=some (.int .i64 (((O.getD i []).getD k 0:Nat):Int)):=by
  obtain⟨a,b,s,c,d⟩:=b3.open;rw[aL] at s c d;refine⟨a,b,s,λk y=>⟨c om,?_⟩⟩;rw[d k y];congr 2;exact fO (λk:Nat=>(k:Int)) (d:=0) om
 have Q:=b3.lens
 rw[aL] at Q
 obtain⟨k2,er,j8,j4,i4,e2,wr,c3,L⟩:=mI c1
 rw[fL,t.rl i f] at c3 L
 have i6:(O.getD i []).length<=n:=kP (kC (λx hx=>cX.bM hx) f (t.asc i f) (t.mem i f)) om
 have s7:iC O d (i+1)<=7^7:=kP (Fl (m:=7) om d (i+1) λj h1 h2=>kP (kC (λx hx=>cX.bM hx) om (t.asc j om) (t.mem j om)) om) (Nat.pow_le_pow_right om om)
 obtain⟨h0,f9,a7,b6,e9⟩:=su.open
 rw[aL,U.len] at a7 b6 e9
 obtain⟨s,hs⟩: ∃s,iC O d (i+1)=s:=⟨_,rfl⟩
 have cS:h6.cell S (i+1)=some (.int .i64 (s:Int)):=by
  rw[H.cell_of j0,Be om,hd,hs]
 rw[hs] at c2 s7
 have r5:r<=5040:=by
  obtain⟨k,y,e⟩:=rV.1 el;have:=(rW.1 (hr k (by rw[dC y,e]))).1;omega
 have b1: ∀k,k<(O.getD i []).length->(O.getD i []).getD k 0<n:=λk y=>yK cX t f (aV y)
 have inj: ∀j k,j<(O.getD i []).length->k<(O.getD i []).length->u.getD ((O.getD i []).getD j 0) 0=p->u.getD ((O.getD i []).getD k 0) 0=p->j=k:=λj k Y y ej ek=>by
  have e:=U.inj (b1 j Y) (b1 k y) (ej.trans ek.symm);rw[bJ Y,bJ y] at e;have e7:(O.getD i []).Pairwise (· < ·):=t.asc i f;rcases Nat.lt_trichotomy j k with h|h|h
  .have:=Sr.1 e7 j k Y y h;omega
  .exact h
  .have:=Sr.1 e7 k j y Y h;omega
 obtain⟨cf,c0,c7,cE⟩: ∃cf:Nat->Nat,cf 0=0/\(∀k,k<(O.getD i []).length->cf (k+1)=cf k+if u.getD ((O.getD i []).getD k 0) 0<p then 1 else 0)/\cf (O.getD i []).length=((eY O u i).filter λa=>decide (a<p)).length:=by
  refine⟨λk=>(((eY O u i).take k).filter λa=>decide (a<p)).length,rfl,λk y=>?_,?_⟩
  .have h9:k<(eY O u i).length:=by rw[eY,fL];exact y
   have e:(eY O u i)[k]=u.getD ((O.getD i []).getD k 0) 0:=by simp only[eY,List.getElem_map,bJ y]
   show (List.filter _ ((eY O u i).take (k+1))).length=_;rw[List.take_succ_eq_append_getElem h9,List.filter_append,iB,e];congr 1
   by_cases h:u.getD ((O.getD i []).getD k 0) 0<p
   .rw[List.filter_cons_of_pos (p:=λa=>decide (a<p)) (decide_eq_true h),bL h];rfl
   .rw[List.filter_cons_of_neg (p:=λa=>decide (a<p)) (by rw[tU];exact h),bV h];rfl
  .show (List.filter _ ((eY O u i).take _)).length=_
   rw[Bo (by rw[eY,fL];omega)]
 obtain⟨m,hm⟩: ∃m,(O.getD i []).length=m:=⟨_,rfl⟩
 rw[hm] at Q b0 a0 c3 L i6 b1 inj cE hq c7
 have cB: ∀k,k<=m->cf k<=k:=λk=>by
  induction k with
  |zero=>intro _;omega
  |succ k ih=>
   intro y;have:=ih om;rw[c7 k om];split<;>omega
 simp(disch:=omega)only[go_sem,H.cell_of g6,d1]
 refine aH (λk' J hh=> ∃(k a A:Nat),(∃g:Nat->V,J= [g 0,vx,.ptr B 0,g 3,g 4,g 5,.sl S 0 (n+1) (.kn (n+1)),g 7,g 8,.int .i64 (A:Int),vu,.int .i64 (i:Int),.int .i64 (a:Int),.int .i64 (k:Int),g 14,g 15,g 16,g 17,g 18,g 19,g 20,g 21])/\k<=m/\A=r+cf k*s/\(∀j,j<k->u.getD ((O.getD i []).getD j 0) 0=p->a=j)/\Fr h6 hh/\k'=m-k) m
  ⟨0,0,r,aB rfl,fE _,by rw[c0,Nat.zero_mul,Nat.add_zero],λj Y=>om,Fr.refl _,rfl⟩ ?_
 rintro k' J h7 ⟨k,a,A,⟨g',rfl⟩,y,hA,ha,f7,rfl⟩
 have l6:=f6.next
 have g7:h7.get B=some (.cells false [.int .i64 (n:Int),vO,vR]):=by rw[f7.get _ om];exact g6
 have F7:=F6.trans f7
 have a9:h7.cell i3 (c9+i)=some vo:=by rw[F7.cell bO];exact f0
 by_cases d9:(k:Int)<(m:Int)
 case neg=>
  have d2:decide ((k:Int)<(m:Int))=false:=decide_eq_false d9;obtain rfl:k=m:=om
  have ea:a=q:=ha q hq j1;subst ea;obtain⟨br,d7,b2⟩:=L a hq;rw[fO zi (l:=R.getD i []) (i:=a) (d:= []) (by rw[t.rl i f];omega)] at b2;have Z:=cX.bM e3.mem;generalize (R.getD i []).getD a []=z at b2 c6 Z;generalize wr.getD a V.undef=vz at d7 b2;have i8:h7.cell i4 (e2+a)=some vz:=by rw[F7.cell br];exact d7
  have i5:h7.cell i0 (e5+i)=some vr:=by rw[F7.cell bR];exact g8
  simp(disch:=omega)only[go_sem,H.cell_of g7,a6.ixa,a9,Q,d2,e4.ixa,i5,c3.ixa,i8];refine (nV vz vu z u h7 (by rw[Z.len];omega) (b2.mono F7) (su.mono f7) (λj Y=>by rw[U.len];exact Z.fZ (by rw[<-Z.len];exact Y))).mono ?_;rintro vm h8 ⟨sm,f8,_⟩;refine aM ?_;rw[show (i:Int)+1=((i+1:Nat):Int) from om];refine⟨n-(i+1),om,i+1,A,vm,aS z u,aB rfl,om,sm,Z.mul U,by rw[hd,<-c6];exact e6,λk y=>?_,f6.trans (f7.trans f8),rfl⟩;rw[hd,<-c6] at y;have:=hr _ (c2 k y);rw[hA,cE,Nat.add_assoc];exact this
 have d2:decide ((k:Int)<(m:Int))=true:=decide_eq_true d9
 have N:k<m:=om
 obtain⟨b4,c4⟩:=a0 k N
 have c5:h7.cell a1 (P+k)=some (.int .i64 (((O.getD i []).getD k 0:Nat):Int)):=by rw[F7.cell b4];exact c4
 have b8:=b1 k N
 have K:=c7 k N
 have j6:=cB k y
 have e8: ∀j,j<k->u.getD ((O.getD i []).getD j 0) 0=p->a=j:=ha
 have a5:=λj Y=>inj j k Y N
 obtain⟨o,ho⟩: ∃o,(O.getD i []).getD k 0=o:=⟨_,rfl⟩
 rw[ho] at c5 b8 K a5
 have cu:h7.cell h0 (f9+o)=some (.int .i64 ((u.getD o 0:Nat):Int)):=by rw[f7.cell (b6 om),e9 o b8];congr 2;simp [zi,U.len,b8]
 have cx:h7.cell idx (g0+i)=some (.int .i64 (p:Int)):=by rw[F7.cell (b7 om),c8 i f];congr 2;simp [zi,X.len,f,<-hp]
 have b9:h7.cell S (i+1)=some (.int .i64 (s:Int)):=by rw[f7.cell om];exact cS
 obtain⟨w,hw⟩: ∃w,u.getD o 0=w:=⟨_,rfl⟩
 rw[hw] at cu K a5
 have d5:u.getD ((O.getD i []).getD k 0) 0=p->w=p:=λe=>by rw[<-hw,<-ho];exact e
 have k1:cf k*s<=7*7^7:=Nat.mul_le_mul om s7
 rcases Nat.lt_trichotomy w p with b5|b5|b5
 .have d3:decide ((w:Int)<(p:Int))=true:=decide_eq_true om
  have d4:decide ((w:Int)=(p:Int))=false:=decide_eq_false om
  rw[bL b5] at K
  simp(disch:=omega)only[go_sem,H.cell_of g7,a6.ixa,a9,Q,d2,b0.ixa,c5,a7.ixa,cu,a8.ixa,cx,d3,d4,(by omega:((i:Int)+1).toNat=i+1),b9]
  rw[show (k:Int)+1=((k+1:Nat):Int) from om,show (A:Int)+(s:Int)=((A+s:Nat):Int) from om]
  refine⟨m-(k+1),om,k+1,a,A+s,aB rfl,om,by rw[K,Nat.add_mul,Nat.one_mul];omega,λj Y e=>?_,f7,rfl⟩
  by_cases a2:j=k
  .subst a2;have:=d5 e;omega
  .exact e8 j om e
 .have d3:decide ((w:Int)<(p:Int))=false:=decide_eq_false om
  have d4:decide ((w:Int)=(p:Int))=true:=decide_eq_true om
  rw[bV om] at K
  simp(disch:=omega)only[go_sem,H.cell_of g7,a6.ixa,a9,Q,d2,b0.ixa,c5,a7.ixa,cu,a8.ixa,cx,d3,d4,b9]
  rw[show (k:Int)+1=((k+1:Nat):Int) from om]
  refine⟨m-(k+1),om,k+1,k,A,aB rfl,om,by rw[K];omega,λj Y e=>?_,f7,rfl⟩
  by_cases a2:j=k
  .exact a2.symm
  .exact (a5 j om e b5).symm
 .have d3:decide ((w:Int)<(p:Int))=false:=decide_eq_false om
  have d4:decide ((w:Int)=(p:Int))=false:=decide_eq_false om
  rw[bV om] at K
  simp(disch:=omega)only[go_sem,H.cell_of g7,a6.ixa,a9,Q,d2,b0.ixa,c5,a7.ixa,cu,a8.ixa,cx,d3,d4,b9]
  rw[show (k:Int)+1=((k+1:Nat):Int) from om]
  refine⟨m-(k+1),om,k+1,a,A,aB rfl,om,by rw[K];omega,λj Y e=>?_,f7,rfl⟩
  by_cases a2:j=k
  .subst a2;have:=d5 e;omega
  .exact e8 j om e
theorem aaL {G K:List Nat->Prop}{L M:List (List Nat)}{r:List Nat}(E:dR G L)(D:dR K M)(p:r.length=M.length)(m: ∀j,j<r.length->L[r.getD j 0]? =M[j]?):Rk L K r:=by
 have at': ∀j (a:j<r.length),∃q:r.getD j 0<L.length,L[r.getD j 0]=M[j]'om:=λj a=>by
  have:=m j a;rw[dC (by omega:j<M.length)] at this;exact rW.1 this
 refine⟨Sr.2 λj k a d f=>?_,λi=>⟨λhi=>?_,λ⟨hi,d⟩=>?_⟩⟩
 .obtain⟨c,b⟩:=at' j a
  obtain⟨l,n⟩:=at' k d;have lt:=Sr.1 D.asc j k om om f;rw[<-b,<-n] at lt;rw[<-bJ a,<-bJ d];rcases Nat.lt_trichotomy (r.getD j 0) (r.getD k 0) with h|h|h
  .exact h
  .have:L[r.getD j 0]=L[r.getD k 0]:=by congr 1
   rw[this] at lt;exact lt.irrefl.elim
  .exact (lt.asymm (Sr.1 E.asc _ _ l c h)).elim
 .obtain⟨j,a,e⟩:=rV.1 hi
  obtain⟨c,b⟩:=at' j a;rw[bJ a,e] at c;refine⟨c,?_⟩;rw[List.getD,dC c]
  have o:L[i]=M[j]'om:=by
   rw[<-b];congr 1;rw[bJ a,e]
  show K L[i];rw[o];exact (D.mem _).1 (pN _)
 .rw[List.getD,dC hi] at d
  obtain⟨j,a,e⟩:=rV.1 ((D.mem _).2 d);obtain⟨c,b⟩:=at' j om;rw[e] at b;have:=(List.getElem_inj E.nodup).1 b;rw[bJ om] at this;exact this▸pN _
theorem HF {W W':Nat->Prop}(vc vd:V)(n:Nat)(O Z:List (List Nat))(R R':List (List (List Nat)))(G K:List Nat->Prop)(L:List (List Nat))(h:H)(gc:GC W h vc n O R G)(q:GC W' h vd n Z R' K)(E:dR G L)(le: ∀x,K x->G x):
  Ev T 63 [vc,vd] h (λv h'=> ∃r,Rk L K r/\cW h' v 1 (ints (zi r)) h.next/\Fr h h'):=by
 obtain⟨p,t,rfl,z,P⟩:=gc.shape
 obtain⟨y,N,rfl,f,l⟩:=q.shape
 refine kV ?_
 obtain⟨B,hB⟩: ∃B,h.next=B:=⟨_,rfl⟩
 obtain⟨h1,e1,n1,g1,o1,f1⟩:=dF hB [.int .i64 (n:Int),p,t]
 obtain⟨h2,e2,n2,g2,o2,f2⟩:=dF n1 [.int .i64 (n:Int),y,N]
 have bx:=aU h (v:= .int .i64 (n:Int)) (u:=p) (w:=t) rfl z P
 have Y:=aU h1 (v:= .int .i64 (n:Int)) (u:=y) (w:=N) rfl f l
 have F2:=f1.trans f2
 have a2:h2.get B=some (.cells false [.int .i64 (n:Int),p,t]):=by rw[f2.get _ om];exact g1
 obtain⟨D,ld⟩:=dA q.cX q.isc
 have sz:=dX q
 generalize hM:bZ Z R' n 0 (bC n)=M at D ld
 have eL:=gc.el E
 refine qL @aI bx hB e1 Y n1 e2 (aE g2) ?_
 refine (Ws _ n Z R' K h2 (q.mono F2) M hM).mono ?_
 rintro _ U ⟨vl,wl,rfl,ol,pl,f3⟩
 have F3:=F2.trans f3
 have g3:U.get B=some (.cells false [.int .i64 (n:Int),p,t]):=by rw[f3.get _ om];exact a2
 obtain⟨a0,F,a1,d⟩:=Tg ol pl
 have m:=(fG.sp' ol.sv pl:SP U vl M).lens
 rw[fL] at m
 refine aM ?_
 refine aH (λk' a hh=> ∃(i:Nat) (vo:V) (r:List Nat),(∃g:Nat->V,a= [g 0,g 1,.ptr B 0,g 3,g 4,vl,vo,.int .i64 (i:Int),g 8,g 9])/\i<=M.length/\r.length=i/\(∀j,j<i->L[r.getD j 0]? =M[j]?)/\cW hh vo 1 (ints (zi r)) U.next/\Fr U hh/\k'=M.length-i) M.length
  ⟨0,.aD, [],aB rfl,fE _,rfl,λj hj=>om,cW.aD _ _ _,Fr.refl _,rfl⟩ ?_
 rintro k' a Q ⟨i,vo,r,⟨g,rfl⟩,hi,hl,hr,ow,o,rfl⟩
 have l3:=f3.next
 have l4:=o.next
 have F4:=F3.trans o
 have g4:Q.get B=some (.cells false [.int .i64 (n:Int),p,t]):=by rw[o.get _ om];exact g3
 by_cases A:(i:Int)<(M.length:Int)
 case neg=>
  have d1:decide ((i:Int)<(M.length:Int))=false:=decide_eq_false A;obtain rfl:i=M.length:=om
  refine cU m d1 ?_;exact⟨r,aaL E D hl (λj hj=>hr j om),ow.le (by have:=F3.next;omega),F4⟩
 have d1:decide ((i:Int)<(M.length:Int))=true:=decide_eq_true A
 have c:i<M.length:=om
 obtain⟨b,ce,pv⟩:=d i c
 generalize wl.getD i V.undef=vx at ce pv
 have c4:Q.cell a0 (F+i)=some vx:=by rw[o.cell b];exact ce
 have hx:K (M.getD i []):=(D.mem _).1 (aV c)
 have mx:M[i]? =some (M.getD i []):=by rw[List.getD,dC c];rfl
 generalize M.getD i []=x at pv hx mx
 have fb:=(Fr.refl Q).bU (n:=Q.next+11) om
 refine iT m d1 @a1.ixa c4 (aE g4) ?_
 refine (TZ _ vx n O R G x _ (gc.mono (F4.trans fb)) (pv.si.mono (o.trans fb)) (le x hx)).mono ?_
 rintro _ h5 ⟨k,rfl,hk,f5⟩
 have J:=fb.trans f5
 obtain⟨h6,a6,s,f6,n6,_⟩:=tL (v:= .int .i64 (k:Int)) (ow.fr J) (o.trans J) (by rw[aN,aL];omega) (bytes:=8) om
 rw[aN,aL] at a6 s
 simp(disch:=omega)only[go_sem,Ek,show H.new h5 (.cells false (ints [(k:Int)]))=H.new h5 (.cells false [.int .i64 (k:Int)]) from rfl,a6]
 rw[show (i:Int)+1=((i+1:Nat):Int) from om]
 refine⟨M.length-(i+1),om,i+1,_,r++ [k],aB rfl,om,by rw[iB,hl];rfl,λj hj=>?_,?_,f6,rfl⟩
 .by_cases e:j=i
  .subst e;rw[List.getD,zT om,hl,Nat.sub_self,mx,<-eL];exact hk
  .rw[List.getD,wU om];exact hr j om
 .rw[Cf,oH];exact s
theorem Qz (vg vb:V)(n:Nat)(gens a:LN)(h:H)(n0:1<=n)(n7:n<=7)(gP: ∀g∈gens,aY n g)(BP: ∀b∈a,aY n b)(gl:gens.length<100000)(Bl:a.length<=1000)(sg:SP h vg gens)(sB:SP h vb a):
  Ev T 152 [aC n,vg,vb] h (λv h'=> ∃O R,GC (λq=>q<h.next) h' v n O R (NC n (· ∈gens) (· ∈a))/\Fr h h'):=by
 obtain⟨B,hB⟩:=exI h.next
 obtain⟨h1,e1,n1,g1,o1,f1⟩:=dF hB [aC 0,.aD,.aD]
 have a7:=sB.lens
 rw[fL] at a7
 obtain⟨f7,e0,wB,d0,a1,i1,c8,b1⟩:=sB.open
 rw[fL] at d0 a1 i1 c8
 obtain⟨NG,Y⟩:=exI (NC n (· ∈gens) (· ∈a))
 have a8:eM n NG:=Y▸NC.cX gP BP
 refine Px hB e1 ?_
 refine (Kb vg n gens h1 n0 n7 om (sg.mono f1) gP).mono ?_
 rintro _ Q ⟨O0,R0,c7,f2⟩
 obtain⟨vO,vR,rfl,oO,oR⟩:=c7.shape
 have n2:=f2.next
 obtain⟨C,hC⟩:=exI Q.next
 obtain⟨h3,e3,n3,g3,o3,f3⟩:=dF hC [aC 0,.aD,.aD]
 obtain⟨h4,e4,n4,g4,o4⟩:=lU h3 C [aC n,vO,vR]
 have b9:Fr Q h4:=⟨om,λq L=>by rw[o4 q om,o3 q om]⟩
 refine kA hC e3 (bW h3 C 0 (v:= aC n) (u:=vO) (w:=vR) rfl oO oR) g3 @bQ e4 ?_
 refine aH (λo vs P=> ∃(vO vR:V) (O:LN) (R:iA) (G:List Nat->Prop),(∃g:Nat->V,vs= [aC n,vg,vb,.ptr B 0,.ptr C 0,g 5,g 6,g 7,g 8,g 9,g 10,g 11,g 12,g 13])/\P.get C=some (.cells false [aC n,vO,vR])/\GC (λq=>q<B+1\/q=C) P (.agg [aC n,vO,vR]) n O R G/\(∀g∈gens,G g)/\(∀y,G y->NG y)/\Fr h1 P/\C<P.next/\5040-iC O n 0<=o) 5040
  ⟨vO,vR,O0,R0,_,aB rfl,g4,?_,λg A=>bX.of gP A,λy hy=>bX.le a8 (λg A=>Y▸NC.of A) hy,⟨om,λq L=>by rw[b9.get q om];exact f2.get q L⟩,om,?_⟩ ?_
 .refine (c7.jK (W':=λq=>q<B+1\/q=C) λq hn L=>?_).mono b9
  rcases L with h|h
  .show q<h1.next;omega
  .omega
 .omega
 rintro o K P ⟨xO,xR,O,R,G,⟨g,rfl⟩,gC,s,b2,a6,F,nC,i4⟩
 have sz:=dX s
 refine bE (aE gC) ?_
 refine (Hc _ n O R G P P s (Fr.refl P)).mono ?_
 rintro v5 hs ⟨d4,a3,a5,f5⟩
 have lS:=Qe s
 have gS:=Ka s.cX s.isc
 have pS: ∀g∈R.flatten,G g:=λg A=>(gS g).1 (bX.of (λg A=>s.cX.bM (iD s.isc g A)) A)
 generalize hS:R.flatten=S at a5 lS gS pS
 have l5:=aJ.length a5
 rw[fL] at l5
 have b6:=a3.sv
 have c9:bH v5=some (aC (S.length:Int)):=by unfold bH;rw[SV.len b6 (n:=S.length) om om];rfl
 obtain⟨b,hb⟩:=exI hs.next
 have Fs:Fr h1 hs:=F.trans f5
 have b8:hs.get C=some (.cells false [aC n,xO,xR]):=by rw[f5.get C nC];exact gC
 have d6:C<hs.next:=kQ nC f5.next
 have d9:=s.mono f5
 have PS: ∀i,i<S.length->aY n (S.getD i []):=λi hi=>s.cX.bM (pS _ (aV hi))
 have PB: ∀k,k<a.length->aY n (a.getD k []):=λk hk=>BP _ (aV hk)
 have nF:=F.next
 have j3:=f5.next
 refine aM ?_
 refine bY (λvs hi=> ∃(t:V) (N:List V) (more:LN),(∃g:Nat->V,vs= [aC n,vg,vb,.ptr B 0,.ptr C 0,v5,t,g 7,g 8,g 9,g 10,g 11,g 12,g 13])/\cW hi t 1 N hs.next/\fG (λq=>q<b\/dG t q) hi N more/\(∀g∈more,NG g/\ ¬G g)/\(∀i k,i<S.length->k<a.length->G (aX (S.getD i []) (a.getD k []))\/aX (S.getD i []) (a.getD k [])∈more)/\more.length<=49*1000/\Fr hs hi) ?_ ?_
 .refine aH (λo vs hi=> ∃(i:Nat) (t:V) (N:List V) (more:LN),(∃g:Nat->V,vs= [aC n,vg,vb,.ptr B 0,.ptr C 0,v5,t,aC i,g 8,g 9,g 10,g 11,g 12,g 13])/\i<=S.length/\cW hi t 1 N hs.next/\fG (λq=>q<b\/dG t q) hi N more/\(∀g∈more,NG g/\ ¬G g)/\(∀J k,J<i->k<a.length->G (aX (S.getD J []) (a.getD k []))\/aX (S.getD J []) (a.getD k [])∈more)/\more.length<=i*a.length/\Fr hs hi/\o=S.length-i) S.length
   ⟨0,.aD, [], [],aB rfl,fE _,cW.aD _ _ _,trivial,λg h=>(by cases h),λJ k h=>absurd h (Nat.not_lt_zero _),siM,Fr.refl _,rfl⟩ ?_
  rintro o K i7 ⟨i,t,N,more,⟨g,rfl⟩,hi,Z,pv,hm,hv,lm,Fi,rfl⟩
  by_cases c3:(i:Int)<(S.length:Int)
  case neg=>
   have d1:=bT c3;obtain rfl:i=S.length:=om
   refine cU c9 d1 ?_;exact⟨t,N,more,aB rfl,Z,pv,hm,hv,kP lm (Nat.mul_le_mul lS Bl),Fi⟩
  have d1:=cJ c3
  have a9:i<S.length:=om
  refine cU c9 d1 ?_
  refine aH (λo K P=> ∃(k:Nat) (t:V) (N:List V) (more:LN),(∃g:Nat->V,K= [aC n,vg,vb,.ptr B 0,.ptr C 0,v5,t,aC i,aC k,g 9,g 10,g 11,g 12,g 13])/\k<=a.length/\cW P t 1 N hs.next/\fG (λq=>q<b\/dG t q) P N more/\(∀g∈more,NG g/\ ¬G g)/\(∀J o,J<i\/J=i/\o<k->o<a.length->G (aX (S.getD J []) (a.getD o []))\/aX (S.getD J []) (a.getD o [])∈more)/\more.length<=i*a.length+k/\Fr hs P/\o=a.length-k) a.length
   ⟨0,t,N,more,aB rfl,fE _,Z,pv,hm,λJ o h=>hv J o om,lm,Fi,rfl⟩ ?_
  clear Z pv hm hv lm Fi
  rintro o K l ⟨k,t,N,more,⟨g,rfl⟩,hk,Z,pv,hm,hv,lm,Fk,rfl⟩
  by_cases c1:(k:Int)<(a.length:Int)
  case neg=>
   have d2:=bT c1;obtain rfl:k=a.length:=om
   refine cU a7 d2 ?_;rw[eJ i];exact⟨S.length-(i+1),om,i+1,t,N,more,aB rfl,om,Z,pv,hm,λJ k h Q=>hv J k om Q,by rw[Nat.succ_mul];exact lm,Fk,rfl⟩
  have d2:=cJ c1
  have b0:k<a.length:=om
  have mm:i*a.length<=49*1000:=Nat.mul_le_mul om Bl
  have l6:=aJ.length pv
  obtain⟨h0,c6,g6,i2,g2⟩:=(b6.mono Fk).shape S.length om om
  have cS:l.cell h0 (c6+i)=some (d4.getD i V.undef):=by rw[g2 i om,List.getD,dC om];rfl
  have e5:=wF a5 a9
  have cB:l.cell f7 (e0+k)=some (wB.getD k V.undef):=by rw[((f1.trans Fs).trans Fk).cell (a1 om),c8 k om]
  have b4:=wF b1 b0
  have P1:=PS i a9
  have Q1:=PB k b0
  have g5:=pS _ (aV (d:= []) a9)
  have bB:=aV (d:= []) b0
  obtain⟨x,hx⟩:=exI (aX (S.getD i []) (a.getD k []))
  have X:aY n x:=hx▸dL P1 Q1
  have xN:NG x:=by
   rw[<-hx,<-Y];exact NC.cj (by rw[Y];exact a6 _ g5) bB
  generalize d4.getD i V.undef=vs at cS e5
  generalize wB.getD k V.undef=vw at cB b4
  have fb:Fr l (H.mk l.tr (l.next+10)):=(Fr.refl l).bU om
  have j6:(H.mk l.tr (l.next+10)).next=l.next+10:=rfl
  refine kA a7 d2 @g6.ixa cS @d0.ixa cB ?_
  refine (JB vs vw n _ _ _ om P1 Q1 (e5.mono (f5.trans (Fk.trans fb))) (b4.mono (((f1.trans Fs).trans Fk).trans fb))).mono ?_
  rw[hx]
  rintro v9 c4 ⟨s9,f9,n9⟩
  have h5:=aaJ s9 n9
  have F2:=fb.trans f9
  have b5:=Fk.trans F2
  have i8:=F2.next
  have g8:c4.get C=some (.cells false [aC n,xO,xR]):=by rw[b5.get C d6];exact b8
  refine bE (aE g8) ?_
  refine (DN _ v9 n O R _ x c4 n0 om s.cX s.isc (d9.ch.mono b5) s9 X).mono ?_
  rintro _ h6 ⟨bb,rfl,c0,e6⟩
  have F3:=F2.trans e6
  have d8:=Fk.trans F3
  cases bb with
  |true=>
   refine aM ?_;rw[eJ k];refine⟨a.length-(k+1),om,k+1,t,N,more,aB rfl,om,Z.fr F3,fG.fr pv F3,hm,λJ o h1 Q=>?_,om,d8,rfl⟩
   by_cases e:J=i/\o=k
   .rw[e.1,e.2,hx];exact .inl (c0.1 rfl)
   .exact hv J o om Q
  |false=>
   have nx: ¬G x:=λh=>by have:=c0.2 h;cases this
   have wx:=SV.cM s9;obtain⟨j7,a4,g7,f6,f4,j5⟩:=BT (x:=x) (v:=v9) (Z.fr F3) d8 om (b:=b) om (fG.fr pv F3) ⟨s9.mono e6,(PV.OV Z (by have:=Fk.next;omega) (h5.jK λq _ (h:q<l.next)=>by show q<l.next+10;omega)).off⟩;refine cU (cQ h6 (z:= .aD) wx.1 wx.2.1) a4 ?_;rw[eJ k];refine⟨a.length-(k+1),om,k+1,_,_,more++ [x],aB rfl,om,g7,f6,λg A=>?_,λJ o h1 Q=>?_,by rw[iB,List.length_singleton];omega,f4,rfl⟩
   .rcases jO.1 A with h|h
    .exact hm g h
    .rw[List.mem_singleton.1 h];exact⟨xN,nx⟩
   .by_cases e:J=i/\o=k
    .rw[e.1,e.2,hx];exact .inr siM
    .exact (hv J o om Q).imp id λh=>jO.2 (.inl h)
 rintro K hi ⟨t,N,more,⟨g,rfl⟩,Z,pv,hm,hv,lm,Fi⟩
 have l6:=aJ.length pv
 have b3:bH t=some (aC (more.length:Int)):=by unfold bH;rw[SV.len Z.sv (n:=more.length) om om];rfl
 have i6:=Fi.next
 have h7:hi.get C=some (.cells false [aC n,xO,xR]):=by rw[Fi.get C d6];exact b8
 by_cases c5:more.length=0
 .have d3:decide ((more.length:Int)=0)=true:=cJ om
  have f0:more= []:=Yl c5
  have e7:hi.get B=some (.cells false [aC 0,.aD,.aD]):=by rw[(Fs.trans Fi).get B om];exact g1
  obtain⟨_,qO,qR⟩:=s.one
  obtain⟨h9,e9,n9,g9,o9⟩:=lU hi B [aC n,xO,xR]
  refine qL b3 d3 (aE h7) (bW hi B 0 (v:= aC n) (u:=xO) (w:=xR) rfl qO qR) e7 @bQ e9 (aE g9) ?_
  have Fh:Fr h hi:=(f1.trans Fs).trans Fi
  have eG: ∀y,G y↔NG y:=λy=>by
   refine⟨a6 y,λhy=>?_⟩;rw[<-Y] at hy;refine hy.le s.cX b2 λz c hz hc=>?_
   obtain⟨k,hk,rfl⟩:=rV.1 hc;have f8: ∀g∈S,aY n g:=λg A=>s.cX.bM (pS g A)
   have ek:a[k]=a.getD k []:=oV hk;rw[ek];refine (gS _).1 (Ht f8 (PB k hk) (λz hz=>?_) ((gS z).2 hz));obtain⟨i,b7,rfl⟩:=rV.1 hz;rw[oV (d:= []) b7];rcases hv i k b7 hk with h|h
   .exact (gS _).2 h
   .rw[f0] at h;cases h
  rw[Y]
  refine⟨O,R,((d9.mono Fi).congr eG).go ⟨om,λq h1 Q=>o9 q λe=>Q (.inl om)⟩ λq _ (h:q<B)=> .inl om,⟨by have:=Fh.next;omega,λq L=>by rw[o9 q om];exact Fh.get q L⟩⟩
 .have d3:decide ((more.length:Int)=0)=false:=bT om
  obtain⟨vq,L,aq,Ap⟩:=(a3.fr Fi).app (bytes:=24) om Z.sv (n:=S.length) (m:=more.length) om om om om
  have nq:=Ap.next
  have a2:Fr P L:=Ap.fr P (f5.trans Fi) (eU _)
  have c2:Fr h1 L:=F.trans a2
  have j1:Fr h L:=f1.trans c2
  have g0: ∀k,b<=k->dS v5 k:=λk hk j2 j0 m c e e2=>by have:=(a3.in _ _ _ _ e).1;omega
  have e8:Fx (λq=>q<b) hi L:=⟨om,λq h1 Q=>Ap.get q om (g0 q om)⟩
  have h8:SP L vq (S++more):=fG.EA (W:=λ_=>False) Ap.own.sv (aJ.append (aJ.mono (λ_ _ p=>⟨p.mono a2,sJ _⟩) (Ag a5)) (aJ.mono (λ_ _ p=>(PV.go p (Fx.wide e8 λq h=> .inl h) λq _ h=>h.elim)) pv))
  refine dQ b3 d3 aq ?_
  have d7: ∀g∈S++more,aY n g:=λg A=>(jO.1 A).elim (λh=>s.cX.bM (pS g h)) λh=>a8.bM (hm g h).1
  refine (Kb vq n (S++more) L n0 n7 (by rw[iB];omega) h8 d7).mono ?_
  rintro _ hr ⟨O2,R2,U,fr⟩
  obtain⟨yO,yR,rfl,pO,pR⟩:=U.shape
  have d5:=c2.trans fr
  have i9:=fr.next
  have i0:hr.get C=some (.cells false [aC n,xO,xR]):=by rw[fr.get C om,a2.get C nC];exact gC
  obtain⟨h9,e9,n9,g9,o9⟩:=lU hr C [aC n,yO,yR]
  refine gX (bW hr C 0 (v:= aC n) (u:=yO) (w:=yR) rfl pO pR) i0 @bQ e9 ?_
  have a0: ∀y,G y->bX n (· ∈S++more) y:=λy hy=>bX.mono (λg A=>jO.2 (.inl A)) ((gS y).2 hy)
  obtain⟨z,hz⟩: ∃z,z∈more:=by
   cases more with
   |nil=>exact absurd rfl c5
   |cons z r=>exact⟨z,siM⟩
  have i5:=dX U
  have j4:2*iC O n 0<=iC O2 n 0:=by
   obtain⟨E,e⟩:=dA s.cX s.isc;obtain⟨F',f⟩:=dA U.cX U.isc;rw[<-e,<-f];exact dbl s.cX U.cX E F' a0 (bX.of d7 (jO.2 (.inr hz))) (hm z hz).2
  have i3:=tF n 0 λj _ Q=>(s.row (j:=j) om).1
  refine⟨_,?_,yO,yR,O2,R2,_,aB rfl,g9,?_,λg A=>a0 g (b2 g A),λy hy=>bX.le a8 (λg A=>(jO.1 A).elim (λh=>a6 g (pS g h)) λh=>(hm g h).1) hy,⟨by have:=d5.next;omega,λq L=>by rw[o9 q om];exact d5.get q L⟩,om,eU _⟩
  .omega
  .exact U.go ⟨om,λq h1 Q=>o9 q λe=>Q (by show q<_;omega)⟩ λq _ h=>by
    show q<L.next;rcases h with h|h
    .omega
    .omega
set_option maxHeartbeats 32000000
theorem QY {W:Nat->Prop}(vc N:V)(n:Nat)(O:List (List Nat))(R:List (List (List Nat)))(G:List Nat->Prop)(gens:List (List Nat))(h:H)(b:GC W h vc n O R G)(gP: ∀g∈gens,aY n g)(gl:gens.length<=4096)(sg:SP h N gens):
  Ev T 113 [vc,N] h (λv h'=> ∃vd O' R',v= .tup [vd,.int .i64 0]/\GC (λq=>q<h.next) h' vd n O' R' (NC n (· ∈gens) (· ∈R.flatten))/\Fr h h'):=by
 obtain⟨m,p,rfl,y,K⟩:=b.shape
 have n0:=b.n0
 have n7:=b.n7
 have a2:=Qe b
 obtain⟨B,hB⟩: ∃B,h.next=B:=⟨_,rfl⟩
 obtain⟨h1,e1,n1,g1,o1,f1⟩:=dF hB [.int .i64 (n:Int),m,p]
 obtain⟨Q,e2,n2,g2,o2,f2⟩:=dF n1 [.int .i64 0,.aD,.aD]
 have bx:=aU h (v:= .int .i64 (n:Int)) (u:=m) (w:=p) rfl y K
 have F2:=f1.trans f2
 have J:Q.get B=some (.cells false [.int .i64 (n:Int),m,p]):=by rw[f2.get _ om];exact g1
 have d0:decide ((0:Int)≠0)=false:=rfl
 refine GG bx hB e1 n1 e2 (aE J) ?_
 refine ((b.mono F2).Ba).mono ?_
 rintro _ h3 ⟨rfl,P⟩
 have F3:=F2.trans P
 obtain⟨Z,es,x,d,wS,A,cS⟩:=Hs sg
 have dl:decide ((gens.length:Int)>4096)=false:=decide_eq_false om
 refine dQ d0 Z dl ?_
 refine aH (λk' c hh=> ∃(k:Nat),(∃g:Nat->V,c= [g 0,N,.ptr B 0,.ptr (B+1) 0,g 4,g 5,.int .i64 (k:Int),g 7,g 8,g 9,g 10,g 11,g 12])/\k<=gens.length/\Fr h3 hh/\k'=gens.length-k) gens.length
  ⟨0,aB rfl,fE _,Fr.refl _,rfl⟩ ?_
 rintro k' c o ⟨k,⟨g,rfl⟩,hk,z,rfl⟩
 have l3:=P.next
 have l4:=z.next
 have l:=F3.trans z
 have L:o.get B=some (.cells false [.int .i64 (n:Int),m,p]):=by rw[z.get _ om,P.get _ om];exact J
 have u4:o.get (B+1)=some (.cells false [.int .i64 0,.aD,.aD]):=by rw[z.get _ om,P.get _ om];exact g2
 by_cases F:(k:Int)<(gens.length:Int)
 case neg=>
  have d1:decide ((k:Int)<(gens.length:Int))=false:=decide_eq_false F;have fb:=(Fr.refl o).bU (n:=o.next+8) om;simp(disch:=omega)only[go_sem,Z,d1,H.cell_of L,aE L];refine (Ao _ n O R G _ (b.mono (l.trans fb))).mono ?_;rintro vs j ⟨sp,t⟩;have a:=fb.trans t;have u5:j.get (B+1)=some (.cells false [.int .i64 0,.aD,.aD]):=by rw[a.get _ om];exact u4
  refine aM ?_;have g5:j.get B=some (.cells false [.int .i64 (n:Int),m,p]):=by rw[a.get _ om];exact L
  refine⟨by rw[H.cell_of g5];simp [UH,dM],?_⟩;refine (Qz N vs n gens R.flatten j n0 n7 gP (λg hg=>b.cX.bM (iD b.isc g hg)) om om (sg.mono (l.trans a)) sp).mono ?_;rintro _ h6 ⟨O2,R2,s,f6⟩;obtain⟨xO,xR,rfl,a1,U⟩:=s.shape;have l5:=a.next;have l6:=f6.next;have u6:h6.get (B+1)=some (.cells false [.int .i64 0,.aD,.aD]):=by rw[f6.get _ om];exact u5
  have F6:=l.trans (a.trans f6);obtain⟨hs,a0,ns,gs,os⟩:=lU h6 (B+1) [.int .i64 (n:Int),xO,xR];refine iT (bW h6 (B+1) 0 (v:= .int .i64 (n:Int)) (u:=xO) (w:=xR) rfl a1 U) u6 @bQ a0 (aE gs) ?_;refine⟨_,O2,R2,rfl,?_,⟨om,λq hq=>by rw[os q om];exact F6.get q hq⟩⟩;exact s.go ⟨om,λq h1 Q=>os q λe=>Q (by show q<_;omega)⟩ λq _ (h:q<B)=>by show q<j.next;omega
 have d1:decide ((k:Int)<(gens.length:Int))=true:=decide_eq_true F
 have r:k<gens.length:=om
 obtain⟨bS,i,f⟩:=cS k r
 generalize wS.getD k V.undef=Y at i f
 have c4:o.cell x (d+k)=some Y:=by rw[l.cell bS];exact i
 have X:aY n (gens.getD k []):=gP _ (aV r)
 refine gX Z d1 @A.ixa c4 ?_
 refine (mM Y (zi (gens.getD k [])) o (by rw[aL,X.len];omega) (f.mono l)).mono ?_
 rw[Am X n0 om]
 rintro _ j ⟨rfl,t⟩
 have g5:j.get B=some (.cells false [.int .i64 (n:Int),m,p]):=by rw[t.get _ om];exact L
 have c5:j.cell x (d+k)=some Y:=by rw[(l.trans t).cell bS];exact i
 have lx:=f.lens
 rw[aL,X.len] at lx
 have dn:decide ((n:Int)≠(n:Int))=false:=decide_eq_false (λh=>h rfl)
 simp(disch:=omega)only[go_sem,d0,A.ixa,c5,lx,H.cell_of g5,dn]
 rw[show (k:Int)+1=((k+1:Nat):Int) from om]
 exact⟨gens.length-(k+1),om,k+1,aB rfl,om,z.trans (t.bU om),rfl⟩
section
variable {ks:List Cls.KE}
def Ph (a:Cls.KE):List V:= [a.rep,aC (a.ord:Int),aC (a.size:Int)]
theorem kI (a:Cls.KE)(r:List Cls.KE):eV (a::r)=Ph a++eV r:=rfl
theorem HC (a b:List Cls.KE):eV (a++b)=eV a++eV b:=by unfold eV;rw[List.flatMap_append]
theorem DJ:{ks:List Cls.KE}->{pre:List V}->{i:Nat}->(a:Cls.KE)->i<ks.length->putAt (pre++eV ks) (pre.length+i*3) (Ph a)=some (pre++eV (ks.set i a))
 | [],_,_,_,hi=>by simp at hi
 |b::r,pre,0,a,_=>by
  have d:(Ph a).length=3:=rfl;have c:(Ph b).length=3:=rfl;unfold putAt;rw[kI,List.set_cons_zero,kI,bL (by simp only[iB];omega),Nat.zero_mul,Nat.add_zero,List.take_left,d,<-c,<-iB,<-pJ,List.drop_left,pJ]
 |b::r,pre,i+1,a,hi=>by
  have:=DJ (ks:=r) (pre:=pre++Ph b) (i:=i) a (by simpa using hi);rw[iB,show (Ph b).length=3 from rfl] at this;rw[show pre.length+(i+1)*3=pre.length+3+i*3 by omega,List.set_cons_succ,kI,kI,<-pJ,<-pJ];exact this
theorem QQ {i:Nat}(hi:i<ks.length)(h:H)(S:Nat)(a:Cls.KE):eH (some (.cells false (eV ks))) h S (0+i*3) [a.rep,aC (a.ord:Int),aC (a.size:Int)]=some (h.set S (some (.cells false (eV (ks.set i a))))):=by
 have:=DJ (pre:= []) a hi;simp only[List.nil_append,List.length_nil] at this;show Option.map (λb=>h.set S (some (Ob.cells false b))) (putAt (eV ks) (0+i*3) (Ph a))=_;rw[this];rfl
def zKE:Cls.KE:=⟨.aD,0,0,.aD,0,⟨rfl,rfl,rfl⟩,⟨rfl,rfl,rfl⟩⟩
theorem Uc (n:Nat):dT [.aD,aC 0,aC 0] (n*3)=eV (List.replicate n zKE):=by
 induction n with
 |zero=>rfl
 |succ n ih=>
  rw[List.replicate_succ,kI,<-ih];unfold dT;rw[show (n+1)*3=n*3+1+1+1 by omega,List.range_succ_eq_map,List.range_succ_eq_map,List.range_succ_eq_map];simp only[List.map_cons,List.map_map];refine congrArg (λl=>V.aD::aC 0::aC 0::l) (Sk λi _=>?_);show [V.aD,aC 0,aC 0].getD ((i+3)%3) V.undef= [V.aD,aC 0,aC 0].getD (i%3) V.undef;rw[Nat.add_mod_right]
theorem ahP (h:H)(n:Nat)(a:n<=100000):Ct h 3 40 [.aD,aC 0,aC 0] (aC n) (aC n)=some (.sl h.next 0 n (.kn n),h.new (.cells false (eV (List.replicate n zKE)))):=by
 rw[qT om (Int.le_refl _) om om,IF,Uc]
def Tf (M K:List Nat)(ks:List Cls.KE)(w t:Nat):List Cls.KE:=(List.range w).map λq=>if M.idxOf (K.getD q 0)<t then ks.getD (M.idxOf (K.getD q 0)) zKE else zKE
theorem QT (M K:List Nat)(ks:List Cls.KE)(w:Nat):Tf M K ks w 0=List.replicate w zKE:=by
 unfold Tf;refine List.ext_getElem siM λi a b=>by simp
theorem CP (M K:List Nat)(ks:List Cls.KE)(w t:Nat):(Tf M K ks w t).length=w:=by simp [Tf]
theorem YL {M K:List Nat}{w t:Nat}(a:K.Perm M)(nd:M.Nodup)(o:M.length=w)(r:t<w):(Tf M K ks w t).set (K.idxOf (M.getD t 0)) (ks.getD t zKE)=Tf M K ks w (t+1):=by
 have s:=a.length_eq;have c:=a.nodup_iff.2 nd;have i:M.getD t 0∈K:=a.mem_iff.2 (aV om);have k:=iLL.2 i;have n:M.idxOf (M.getD t 0)=t:=by rw[Pm.bJ (show t<M.length by omega)];exact nd.idxOf_getElem _ _
 refine List.ext_getElem (by simp [Tf]) λq m p=>?_
 have j:q<w:=by simpa [Tf] using m
 rw[List.getElem_set];simp only[Tf,List.getElem_map,List.getElem_range]
 by_cases e:K.idxOf (M.getD t 0)=q
 .rw[bL e]
  have d:K.getD q 0=M.getD t 0:=by rw[<-e,Pm.bJ k,List.getElem_idxOf]
  rw[d,n,bL om]
 .rw[bV e]
  have d:M.idxOf (K.getD q 0)≠t:=λh=>by
   have b:K.getD q 0∈M:=a.mem_iff.1 (aV om);have f:=iLL.2 b;have l:M.getD t 0=K.getD q 0:=by rw[<-h,Pm.bJ f,List.getElem_idxOf]
   rw[l,Pm.bJ (show q<K.length by omega)] at e;exact e (c.idxOf_getElem _ _)
  by_cases h:M.idxOf (K.getD q 0)<t
  .rw[bL h,bL om]
  .rw[bV h,bV om]
theorem TC {M K:List Nat}{w:Nat}(b:K.Perm M)(h:M.length=w){P:Cls.KE->Nat->Prop}(al:aJ P ks M):aJ P (Tf M K ks w w) K:=by
 have i:=b.length_eq;have f:=aJ.length al;refine aJ.jM (by rw[CP];omega) λq j c=>?_
 have a:K.getD q 0∈M:=b.mem_iff.1 (aV om);have d:=iLL.2 a;simp only[Tf,List.getElem_map,List.getElem_range];rw[bL om,List.getD,dC om];have:=aJ.get al (M.idxOf (K.getD q 0)) om d;rw[List.getElem_idxOf] at this;have e:K.getD q 0=K[q]:=Pm.bJ c;have:P ks[M.idxOf (K.getD q 0)] K[q]:=by rw[<-e];exact this
 exact this
theorem Yy (a b:Cls.KE)(n:Nat)(x y:List Nat)(h:H)(J:n<100000)(L:x.length=n)(U:y.length=n)(O:SI h a.rep (zi x))(R:SI h b.rep (zi y))(c:Bool)(q:(a.ord<b.ord\/a.ord=b.ord/\(a.size<b.size\/a.size=b.size/\Lt x y))↔c=true):
  Ev T 201 [.agg [a.rep,aC (a.ord:Int),aC (a.size:Int)],.agg [b.rep,aC (b.ord:Int),aC (b.size:Int)]] h (λv h'=>v= .bool c/\Fr h h'):=by
 refine kV ?_
 obtain⟨B,k⟩:=exI h.next
 obtain⟨Q,p,i,G,o1,N⟩:=dF k [a.rep,aC (a.ord:Int),aC (a.size:Int)]
 obtain⟨z,r,Y,K,Z,A⟩:=dF i [b.rep,aC (b.ord:Int),aC (b.size:Int)]
 have m:=aU h (v:=a.rep) (u:= aC (a.ord:Int)) (w:= aC (a.size:Int)) a.hrep.2.1 rfl rfl
 have f:=aU Q (v:=b.rep) (u:= aC (b.ord:Int)) (w:= aC (b.size:Int)) b.hrep.2.1 rfl rfl
 have o:z.get B=some (.cells false [a.rep,aC (a.ord:Int),aC (a.size:Int)]):=by rw[A.get _ om];exact G
 have F:=N.trans A
 have go:=H.cell_of o
 have d:=H.cell_of K
 by_cases s:a.ord=b.ord
 case neg=>
  have j:decide ((a.ord:Int)≠(b.ord:Int))=true:=cJ om;simp(disch:=omega)only[go_sem,aI,m,k,p,f,i,r,go,d,j];refine⟨?_,F⟩;congr 1;rw[Lf,tU,<-q];exact⟨λh=> .inl om,by rintro (h|⟨h,_⟩);omega;exact absurd h s⟩
 have j:decide ((a.ord:Int)≠(b.ord:Int))=false:=bT om
 by_cases t:a.size=b.size
 case neg=>
  have l:decide ((a.size:Int)≠(b.size:Int))=true:=cJ om;simp(disch:=omega)only[go_sem,aI,m,k,p,f,i,r,go,d,j,l];refine⟨?_,F⟩;congr 1;rw[Lf,tU,<-q];exact⟨λh=> .inr ⟨s,.inl om⟩,by rintro (h|⟨_,h|⟨h,_⟩⟩);omega;omega;exact absurd h t⟩
 have l:decide ((a.size:Int)≠(b.size:Int))=false:=bT om
 simp(disch:=omega)only[go_sem,aI,m,k,p,f,i,r,go,d,j,l]
 refine (EV a.rep b.rep n x y z J L U (O.mono F) (R.mono F)).mono ?_
 rintro _ W ⟨rfl,P⟩
 refine aM ?_
 refine⟨?_,F.trans P⟩
 congr 1
 rw[Lf,lC om,<-q]
 exact⟨λh=> .inr ⟨s,.inr ⟨t,h⟩⟩,by rintro (h|⟨_,h|⟨_,h⟩⟩);omega;omega;exact h⟩
end
section
variable {i j:Nat} {Q:List Nat}
theorem EZ {α:Type}{R:α->α->Prop}(c: ∀a b,R a b-> ¬R b a)(p:α->Bool){y:α}(f: ∀a,p a=true↔R a y):{S:List α}->S.Pairwise R-> ∀q,S[q]? =some y->(S.filter p).length=q
 | [],_,q,h=>by simp at h
 |x::S,hs,0,h=>by
  obtain⟨l,_⟩:=List.pairwise_cons.1 hs;have e:x=y:=by simpa using h
  rw[List.length_eq_zero_iff,List.filter_eq_nil_iff];intro b m k;have d:=(f b).1 k;rcases uL.1 m with s|m
  .subst s e;exact c _ _ d d
  .subst e;exact c _ _ d (l b m)
 |x::S,hs,q+1,h=>by
  obtain⟨l,r⟩:=List.pairwise_cons.1 hs;have n:S[q]? =some y:=by simpa using h
  have o:=EZ c p f r q n;have t:p x=true:=(f x).2 (l _ (Oc n));rw[List.filter_cons,bL t,List.length_cons,o]
section
variable {n:Nat} {G:List Nat->Prop} {L:LN} {K:List Nat}
theorem Ha (k:Nat):(dD G L k).Nodup:=by
 unfold dD;exact List.Pairwise.filter _ List.nodup_range
theorem afG (n:Nat)(G:List Nat->Prop)(L:LN): ∃K,vB n G L K:=by
 classical
 refine⟨(dD G L L.length).mergeSort λr s=>decide (¬Sc n G L s r),List.mergeSort_perm _ _,?_⟩
 have f:=List.pairwise_mergeSort (le:=λr s=>decide (¬Sc n G L s r)) (λa b c f d=>by
  simp only[decide_eq_true_eq] at f d |-
  unfold Sc at*;omega) (λa b=>by
  simp only[Bool.or_eq_true,decide_eq_true_eq]
  unfold Sc;omega) (dD G L L.length)
 have d:((dD G L L.length).mergeSort λr s=>decide (¬Sc n G L s r)).Nodup:=(List.mergeSort_perm _ _).nodup_iff.2 (Ha _);rw[Xz] at d;refine (f.and d).imp λ⟨h,h4⟩=>?_
 simp only[decide_eq_true_eq] at h;unfold Sc at*;omega
theorem Ly {i:Nat}: ∀k,∃r,dD G L (i+k)=dD G L i++r
 |0=>⟨[],siM⟩
 |k+1=>by
  obtain⟨r,h⟩:=Ly (i:=i) k
  by_cases a:Lb G L (i+k)
  .exact⟨r++ [i+k],by rw[<-Nat.add_assoc,(oE _).1 a,h,pJ]⟩
  .exact⟨r,by rw[<-Nat.add_assoc,(oE _).2 a,h]⟩
theorem MK (hi:i<L.length)(a:Lb G L i):(dD G L i).length<(dD G L L.length).length/\(dD G L L.length).getD (dD G L i).length 0=i:=by
 obtain⟨r,h⟩:=Ly (G:=G) (L:=L) (i:=i+1) (L.length-(i+1));rw[show i+1+(L.length-(i+1))=L.length by omega,(oE i).1 a] at h;rw[h];simp [List.getD]
open Classical in
noncomputable def Et (G:List Nat->Prop)(L:LN)(i j:Nat):Nat:=if ∃i0,i0<i/\cR G L i0 j then wT G L (dD G L L.length) j+1 else 0
open Classical in
noncomputable def Ln (G:List Nat->Prop)(L:LN)(i:Nat)(Q:List Nat)(j:Nat):Nat:=if j∈Q then (dD G L i).length+1 else Et G L i j
theorem MC (j:Nat):Et G L 0 j=0:=by
 unfold Et;rw[bV];rintro⟨i0,h,_⟩;omega
theorem WV (i j:Nat):Ln G L i [] j=Et G L i j:=by
 unfold Ln;rw[bV siM]
theorem Ty {k:Nat}:Ln G L i (Q++ [k]) j=if j=k then (dD G L i).length+1 else Ln G L i Q j:=by
 unfold Ln
 by_cases e:j=k
 .subst e;rw[bL siM,bL rfl]
 .rw[bV e]
  by_cases h:j∈Q
  .rw[bL (by simp [h]),bL h]
  .rw[bV (by simp [h,e]),bV h]
theorem EX:Et G L i j=0↔ ¬ ∃i0,i0<i/\cR G L i0 j:=by
 unfold Et
 by_cases h: ∃i0,i0<i/\cR G L i0 j
 .rw[bL h];exact⟨λa=>om,λa=>absurd h a⟩
 .rw[bV h];exact⟨λ_=>h,λ_=>rfl⟩
theorem Tq:Et G L i i=0↔Lb G L i:=by
 rw[EX];exact⟨λh j b a=>h ⟨j,b,a⟩,λh ⟨j,b,a⟩=>h j b a⟩
variable (hG:eM n G) (E:dR G L)
include hG E
theorem OQ (hi:i<L.length)(d: ¬Lb G L i)(j:Nat):Et G L (i+1) j=Et G L i j:=by
 have e:(∃a,a<i+1/\cR G L a j)↔ ∃a,a<i/\cR G L a j:=by
  refine⟨λ⟨a,h1,h2⟩=>?_,λ⟨a,h1,h2⟩=>⟨a,om,h2⟩⟩
  by_cases e:a=i
  .subst e
   obtain⟨k,b,c⟩: ∃k,k<a/\cR G L k a:=zQ λf=>d λk b c=>f ⟨k,b,c⟩
   exact⟨k,b,oP hG E om c h2⟩
  .exact⟨a,om,h2⟩
 unfold Et
 by_cases h: ∃a,a<i/\cR G L a j
 .rw[bL (e.2 h),bL h]
 .rw[bV (λx=>h (e.1 x)),bV h]
theorem NY (hi:i<L.length)(f:Lb G L i)(b:j<L.length)(c:cR G L i j):wT G L (dD G L L.length) j=(dD G L i).length:=by
 obtain⟨a,d⟩:=MK hi f;exact Ia hG E (List.Perm.refl _) a (oX.2 ⟨b,by rw[d];exact c⟩)
theorem VF (hi:i<L.length)(c:Lb G L i)(f:j<L.length)(d:cR G L i j):Ln G L i Q j=0↔j∉Q:=by
 unfold Ln
 by_cases h:j∈Q
 .rw[bL h];exact⟨λa=>om,λa=>absurd h a⟩
 .rw[bV h,EX]
  exact⟨λ_=>h,λ_ ⟨b,h1,a⟩=>c b h1 (oP hG E om a (Bx hG E hi d))⟩
theorem TX (hi:i<L.length)(f:Lb G L i)(c: ∀j,j∈Q↔j<L.length/\cR G L i j)(d:j<L.length):Ln G L i Q j=Et G L (i+1) j:=by
 unfold Ln
 by_cases h:j∈Q
 .have b:=((c j).1 h).2
  rw[bL h];unfold Et;rw[bL ⟨i,om,b⟩,NY hG E hi f d b]
 .rw[bV h]
  have k: ¬cR G L i j:=λb=>h ((c j).2 ⟨d,b⟩)
  have e:(∃a,a<i+1/\cR G L a j)↔ ∃a,a<i/\cR G L a j:=by
   refine⟨λ⟨a,h1,h2⟩=>?_,λ⟨a,h1,h2⟩=>⟨a,om,h2⟩⟩
   by_cases e:a=i
   .subst e;exact absurd h2 k
   .exact⟨a,om,h2⟩
  unfold Et
  by_cases h: ∃a,a<i/\cR G L a j
  .rw[bL (e.2 h),bL h]
  .rw[bV (λx=>h (e.1 x)),bV h]
theorem LQ (a:j<L.length):Et G L L.length j=wT G L (dD G L L.length) j+1:=by
 unfold Et;rw[bL ⟨j,a,Cs hG E a⟩]
omit hG in
theorem UZ {r s:Nat}(k:r<L.length)(m:s<L.length):Lt (L.getD r []) (L.getD s [])↔r<s:=by
 have d:=Sr.1 E.asc
 have o:{a b:Nat}->a<L.length->b<L.length->a<b->Lt (L.getD a []) (L.getD b []):=λ{a b} f l h=>by
  have:=d a b f l h;rwa [List.getD,dC f,List.getD,dC l]
 refine⟨λh=>?_,o k m⟩;rcases Nat.lt_trichotomy r s with c|c|c
 .exact c
 .subst c;exact (Lt.irrefl h).elim
 .exact ((o m k c).asymm h).elim
omit hG E in
theorem RO (f:vB n G L K)(p:Nat->Bool){t:Nat}(o:t<(dD G L L.length).length)(c: ∀u,u<(dD G L L.length).length->(p u=true↔Sc n G L ((dD G L L.length).getD u 0) ((dD G L L.length).getD t 0))):
  ((List.range (dD G L L.length).length).filter p).length=K.idxOf ((dD G L L.length).getD t 0):=by
 classical
 have k:(dD G L L.length).getD t 0∈K:=f.perm.mem_iff.2 (aV o)
 have l:=iLL.2 k
 have q:=EZ (R:=Sc n G L) (λa b d h=>Ni d h) (λr=>decide (Sc n G L r ((dD G L L.length).getD t 0))) (y:=(dD G L L.length).getD t 0) (λa=>by simp) f.asc (K.idxOf ((dD G L L.length).getD t 0)) (by rw[dC l,List.getElem_idxOf])
 rw[<-q,(f.perm.filter _).length_eq]
 generalize dD G L L.length=M at c
 generalize M.getD t 0=y at c
 have:(List.range M.length).filter p=(List.range M.length).filter λu=>decide (Sc n G L (M.getD u 0) y):=List.filter_congr λu m=>by
  have:=c u (wY.1 m);rw[Lf,this,tU]
 rw[this]
 have e:M=(List.range M.length).map λu=>M.getD u 0:=List.ext_getElem siM λi d h=>by simp [List.getD,d]
 conv=>rhs;rw[e]
 rw[List.filter_map,fL]
 rfl
theorem ML (c:vB n G L K)(l:j<L.length):wT G L (dD G L L.length) j<(dD G L L.length).length/\wT G L K j=K.idxOf ((dD G L L.length).getD (wT G L (dD G L L.length) j) 0):=by
 obtain⟨k,a,d⟩:=Na hG E (List.Perm.refl _) l;have h:=Ia hG E (List.Perm.refl _) a d;rw[h];have f:(dD G L L.length).getD k 0∈K:=c.perm.mem_iff.2 (aV a);have b:=iLL.2 f;refine⟨a,Ia hG E c.perm b ?_⟩;rw[bJ b,List.getElem_idxOf];exact d
end
end
section
variable {a b c d e f:V}
theorem ZF {v:V}(l:a.one=true)(i:b.one=true)(j:c.one=true)(k:v.cells= [v])(h:v.one=true):oN [aC 0,.aD,.aD,.aD,.aD,.aD] [(0,3,.agg [a,b,c]),(3,1,v)]=some (.agg [a,b,c,v,.aD,.aD]):=by
 simp [oN,iH,putAt,l,i,j,k,h,show (V.agg [a,b,c]).cells= [a,b,c] from rfl]
theorem Rh (h:H)(id:Nat)(n:a.one=true)(k:b.one=true)(l:c.one=true)(i:d.one=true)(m:e.one=true)(j:f.one=true):Ny h 6 (.ptr id 0) (.agg [a,b,c,d,e,f])=eH (h.get id) h id 0 [a,b,c,d,e,f]:=vN h id 0 6 _ rfl (by simp [n,k,l,i,m,j])
theorem Jv {j l k m n i:V}(h:H)(id:Nat):eH (some (.cells false [j,l,k,m,n,i])) h id 0 [a,b,c,d,e,f]=some (h.set id (some (.cells false [a,b,c,d,e,f]))):=by
 simp [eH,putAt]
theorem ER {h:H}{id:Nat}{ro:Bool}(i:h.get id=some (.cells ro [a,b,c,d,e,f])):h.row id 0 6=some [a,b,c,d,e,f]:=by
 simp [H.row,i,sub]
theorem AM (hh:H)(id:Nat)(y:V):eH (some (.cells false [a,b,c])) hh id 2 [y]=some (hh.set id (some (.cells false [a,b,y]))):=by
 simp [eH,putAt]
structure Sq (n:Nat)(G:List Nat->Prop)(L:LN)(W:Nat->Prop)(h:H)(a:Cls.KE)(r:Nat):Prop where
 ord:a.ord=oD (L.getD r []) n
 size:a.size=(kF G L r).length
 rep:PV W h a.rep (L.getD r [])
structure RdO (n:Nat)(G:List Nat->Prop)(L:LN)(K:List Nat)(b:Nat)(vO vR:V)(hh:H)(v:V):Prop where
 ex: ∃vL S ks vM,v= .agg [aC n,vO,vR,vL,.sl S 0 K.length (.kn K.length),vM]/\b<=S/\S<hh.next/\hh.get S=some (.cells false (eV ks))/\aJ (Sq n G L (λq=>q<b\/S<=q) hh) ks K/\SP hh vL L/\SI hh vM (zi (wI G L K))
theorem Zn {h:H}{id o:Nat}(k:h.cell id o=some a)(i:h.cell id (o+1)=some b)(j:h.cell id (o+2)=some c):h.row id o 3=some [a,b,c]:=by
 unfold H.cell at k i j;unfold H.row;split at k
 .rename_i s l e
  rw[e] at i j;have i:l[o+1]? =some b:=i;have j:l[o+2]? =some c:=j;obtain⟨q,p⟩:=rW.1 k;obtain⟨lb,r⟩:=rW.1 i;obtain⟨m,n⟩:=rW.1 j
  try rw[e]
  simp only[sub];rw[bL om,Ij q,Ij lb,Ij m,p,r,n]
  rfl
 .cases k
theorem SU {W:Nat->Prop}(vc:V)(n:Nat)(O:LN)(R:iA)(G:List Nat->Prop)(h:H)(gc:GC W h vc n O R G)(L:LN)(hL:bZ O R n 0 (bC n)=L):
  Ev T 149 [vc] h (λv h'=> ∃vO vR K vg,vc= .agg [aC n,vO,vR]/\v= .tup [vg,aC 0]/\vB n G L K/\RdO n G L K h.next vO vR h' vg/\Fr h h'):=by
 have a4:=gc
 obtain⟨vO,vR,rfl,sO,sR⟩:=gc.ch
 refine kV ?_
 have hG:=gc.cX
 have n7:=gc.n7
 have n0:=gc.n0
 obtain⟨E,ll⟩:=dA gc.cX gc.isc
 have y4:=dX gc
 rw[hL] at E ll
 have a0:vO.one=true/\vR.one=true:=⟨EB sO,Yb sR⟩
 obtain⟨B,hB⟩:=exI h.next
 obtain⟨l,e1,n1,g1,o1,f1⟩:=dF hB [aC n,vO,vR]
 obtain⟨A,e2,n2,g2,o2,f2⟩:=dF n1 [aC 0,.aD,.aD,.aD,.aD,.aD]
 have bx:=aU h (v:= aC n) (u:=vO) (w:=vR) rfl a0.1 a0.2
 have rB: ∀hh,Fr A hh->hh.row B 0 3=some [aC n,vO,vR]:=λhh f=>aE (by rw[f.get B om,f2.get B om];exact g1)
 have F2:=f1.trans f2
 simp(disch:=omega)only[go_sem,aI,bx,hB,e1,n1,e2,rB A (Fr.refl _)]
 refine (Ws _ n O R G A (a4.mono F2) L hL).mono ?_
 rintro _ h3 ⟨vL,j3,rfl,c9,l5,f3⟩
 have sL:SP h3 vL L:=fG.sp' c9.sv l5
 obtain⟨m,hm⟩:=exI L.length
 have a9:=sL.lens
 have wL:=SV.cM (show SV h3 vL 1 _ from sL.choose_spec.1)
 rw[fL,hm] at a9
 obtain⟨P,hP⟩:=exI h3.next
 obtain⟨h4,e4,n4,g4,o4,f4⟩:=dF hP [aC 0,.aD,.aD,.aD,.aD,.aD]
 obtain⟨h5,e5,n5,g5,o5⟩:=lU h4 P [aC n,vO,vR,vL,.aD,.aD]
 have d7:Fr h3 h5:=⟨om,λq hq=>by rw[o5 q om,o4 q om]⟩
 refine bE (rB h3 f3) ?_
 refine bI (λhc=>(hc rfl).elim) (λ_=>?_)
 refine uG (rB h3 f3) (ZF (a:= aC n) rfl a0.1 a0.2 wL.1 wL.2.1) hP e4 (Rh h4 P (a:= aC n) (b:=vO) (c:=vR) (d:=vL) (e:= .aD) (f:= .aD) rfl a0.1 a0.2 wL.2.1 rfl rfl) g4 @Jv e5 (rB h5 (f3.trans d7)) ?_
 have F5:=(F2.trans f3).trans d7
 refine (Ao _ n O R G h5 (a4.mono F5)).mono ?_
 rintro vS h6 ⟨sS,f6⟩
 obtain⟨D,hD⟩:=exI h6.next
 obtain⟨h7,e7,x0,g7,o7,f7⟩:=dF hD (rc m λ_=> aC 0)
 simp(disch:=omega)only[go_sem,a9,mJ _ m om,hD,e7]
 obtain⟨u9,q6,c5,cL⟩:=Tg c9 l5
 obtain⟨d8,y5,v5,m4,r7,i7,cS⟩:=Hs sS
 rw[hm] at c5 cL
 obtain⟨S,hS⟩:=exI R.flatten
 have b9: ∀s∈S,G s:=by rw[<-hS];exact iD a4.isc
 have k9: ∀x,G x->bX n (λg=>g∈S) x:=λx hx=>by
  have:=(mT hG a4.isc x).2 hx;rw[<-hS];exact this
 have m8:R.flatten.length<=49:=by
  have l:=nH (m:=7) (R:=R.map (List.map zi)) (i:=n) (by rw[fL,a4.isc.lr];exact eU _) (λj hj=>by
   rw[fO (List.map zi) (d:= []) (by rw[a4.isc.lr];exact hj),fL,a4.isc.rl j hj]
   have:=(a4.row hj).2;omega)
  rw[Bo (by rw[fL,a4.isc.lr];exact eU _)] at l;have e:(R.map (List.map zi)).flatten.length=R.flatten.length:=by simp [List.length_flatten,List.map_map,Function.comp_def]
  rw[e] at l;have A:n*7<=7*7:=Nat.mul_le_mul_right 7 n7;omega
 rw[hS] at d8 i7 cS m8
 obtain⟨sl,r1⟩:=exI S.length
 rw[r1] at d8 i7 cS m8
 have x1:=f6.next
 have x2:=d7.next
 have F6:=F5.trans f6
 have x6:=F2.next
 have x8:=f3.next
 have fD: ∀hh,Fx (· =D) h7 hh->Fr h6 hh:=λhh f=>⟨by have:=f.next;omega,λq hq=>by rw[f.get q om (λe=>by have:q=D:=e;omega)];exact o7 q om⟩
 have i2: ∀hh,Fx (· =D) h7 hh->Fr h3 hh:=λhh f=>(d7.trans f6).trans (fD hh f)
 have r5: ∀i,i<m-> ∀hh,Fr h3 hh->hh.cell u9 (q6+i)=some (j3.getD i V.undef):=λi hi hh f=>by rw[f.cell (cL i hi).1];exact (cL i hi).2.1
 have s9: ∀i,i<sl-> ∀hh,Fr h6 hh->hh.cell v5 (m4+i)=some (r7.getD i V.undef):=λi hi hh f=>by rw[f.cell (cS i hi).1];exact (cS i hi).2.1
 have LP: ∀g∈L,aY n g:=λg hg=>hG.bM ((E.mem g).1 hg)
 clear e1 e2 o2 e4 g4 o4 e5 o5 bx
 refine bY (λvs hh=> ∃(vK:V) (ks:List Cls.KE),(∃g:Nat->V,vs= [g 0,.ptr B 0,.ptr (B+1) 0,g 3,vL,g 5,.ptr P 0,g 7,.sl D 0 m (.kn m),vK,g 10,g 11,g 12,g 13,g 14,g 15,g 16,g 17,g 18,g 19,g 20,g 21,g 22,g 23,g 24,g 25,g 26,g 27,g 28,g 29,g 30,g 31,g 32,g 33])/\cW hh vK 3 (eV ks) (D+1)/\aJ (Sq n G L (λq=>q<A.next) h3) ks (dD G L m)/\hh.get D=some (.cells false (rc m λj=> aC (Et G L m j:Nat)))/\D<hh.next/\Fx (· =D) h7 hh) ?_ ?_
 .refine aH (λk' vs hh=> ∃(i:Nat) (vK:V) (ks:List Cls.KE),(∃g:Nat->V,vs= [g 0,.ptr B 0,.ptr (B+1) 0,g 3,vL,g 5,.ptr P 0,vS,.sl D 0 m (.kn m),vK,aC i,g 11,g 12,g 13,g 14,g 15,g 16,g 17,g 18,g 19,g 20,g 21,g 22,g 23,g 24,g 25,g 26,g 27,g 28,g 29,g 30,g 31,g 32,g 33])/\i<=m/\cW hh vK 3 (eV ks) (D+1)/\aJ (Sq n G L (λq=>q<A.next) h3) ks (dD G L i)/\hh.get D=some (.cells false (rc m λj=> aC (Et G L i j:Nat)))/\D<hh.next/\Fx (· =D) h7 hh/\k'=m-i) m
   ⟨0,.aD, [],aB rfl,fE _,cW.aD _ _ _,trivial,by rw[g7,show (λj=>aC (Et G L 0 j:Nat))=λ_=>aC 0 from funext λj=>by rw[MC];rfl],om,Fx.refl _ _,rfl⟩ ?_
  rintro k' Z ha ⟨i,vK,ks,⟨g,rfl⟩,hi,ow,al,gD,nD,Fa,rfl⟩
  by_cases a1:(i:Int)<(m:Int)
  case neg=>
   have d1:=bT a1;obtain rfl:i=m:=om
   refine cU a9 d1 ?_;exact⟨vK,ks,aB rfl,ow,al,gD,nD,Fa⟩
  have d1:=cJ a1
  have k0:i<m:=om
  have b8:i<L.length:=om
  have cD:=iJ gD k0
  by_cases hr:Lb G L i
  case neg=>
   have d2:decide (((Et G L i i:Nat):Int)≠0)=true:=cJ λh=>hr (Tq.1 om)
   refine gX a9 d1 cD d2 ?_;rw[eJ i];exact⟨m-(i+1),om,i+1,vK,ks,aB rfl,om,ow,by rw[(oE i).2 hr];exact al,by rw[gD,show (λj=>aC (Et G L (i+1) j:Nat))=λj=>aC (Et G L i j:Nat) from funext λj=>by rw[OQ hG E b8 hr j]],nD,Fa,rfl⟩
  have d2:decide (((Et G L i i:Nat):Int)≠0)=false:=bT λh=>h (by rw[Tq.2 hr];rfl)
  obtain⟨_,_,pi⟩:=cL i k0
  have j0:=r5 i k0
  generalize j3.getD i V.undef=vx at j0 pi
  have si:=pi.si
  have X:=jJ hG E b8
  have j2:=i2 ha Fa
  refine kA a9 d1 cD d2 @c5.ixa (j0 ha j2) ?_
  refine (HO vx n (L.getD i []) ha n0 n7 X (si.mono j2)).mono ?_
  rintro _ F ⟨rfl,fb⟩
  obtain⟨o,ho⟩:=exI (oD (L.getD i []) n)
  rw[ho]
  have t9:=j2.trans fb
  have b4:=SV.cM si
  obtain⟨C,hC⟩:=exI F.next
  obtain⟨hc,ec,nc,a5,oc,fc⟩:=dF hC [.aD,aC 0,aC 0]
  obtain⟨hd,ed,nd,gd,od⟩:=lU hc C [vx,aC o,aC 0]
  have m2:hd.next=C+1:=om
  obtain⟨he,ee,ne,ge,oe,fe⟩:=dF m2 [aC i]
  have nb:=fb.next
  have i0:he.get D=some (.cells false (rc m λj=> aC (Et G L i j:Nat))):=by rw[oe _ om,od _ om,oc _ om,fb.get _ om];exact gD
  obtain⟨hf,ef,nf,gf,of⟩:=lU he D ((rc m λj=> aC (Et G L i j:Nat)).set i (aC ((dD G L i).length+1:Nat)))
  have b1:=aJ.length al
  have w4:(dD G L i).length<=i:=by
   unfold dD;refine kP (List.length_filter_le _ _) (by rw[Ng];exact eU _)
  have a3:bH vK=some (aC ((dD G L i).length:Int)):=by unfold bH;rw[SV.len ow.sv (n:=ks.length) (fS ks) om,b1];rfl
  have t2:oN [.aD,aC 0,aC 0] [(0,1,vx),(1,1,aC o)]=some (.agg [vx,aC o,aC 0]):=by
   simp [oN,iH,putAt,b4.1,b4.2.1,show (aC o).cells= [aC o] from rfl,show (aC o).one=true from rfl]
  have pt:=cF (vs:=rc m λj=> aC (Et G L i j:Nat)) (off:=i) (by rw[iK];omega)
  have t4:=j0 F t9
  simp(disch:=omega)only[go_sem,a9,c5.ixa,t4,t2,hC,ec,bW hc C 0 (v:=vx) (u:= aC o) (w:= aC 0) b4.2.1 rfl rfl,a5,bQ,ed,cQ hd (z:= aC 0) (v:= aC i) rfl rfl,m2,ee,a3,i0,pt,show ((dD G L i).length:Int)+1=(((dD G L i).length+1:Nat):Int) from rfl,ef]
  obtain⟨pl,n6⟩:=exI ((dD G L i).length)
  have i8:Fx (· =D) F hf:=⟨om,λq l A=>by rw[of q A,oe q om,od q om,oc q om]⟩
  have j8:Fx (· =D) h7 F:=⟨by have:=Fa.next;omega,λq l A=>by rw[fb.get q (by have:=Fa.next;omega)];exact Fa.get q l A⟩
  have FT: ∀{hh},Fx (· =D) F hh->Fx (· =D) h7 hh:=λ{hh} f=>⟨by have:=f.next;have:=j8.next;omega,λq l A=>by rw[f.get q (by have:=j8.next;omega) A];exact j8.get q l A⟩
  have j4:hf.get D=some (.cells false (rc m λj=> aC (Ln G L i [i] j:Nat))):=by
   rw[gf,jL];congr 2;refine cT λj _=>?_
   rw[show [i]= []++ [i] from rfl,Ty]
   by_cases e:j=i
   .rw[bL e,bL e]
   .rw[bV e,bV e,WV]
  have l4:hf.get C=some (.cells false [vx,aC o,aC 0]):=by rw[of _ om,oe _ om];exact gd
  have i6:cW hf (.sl (C+1) 0 1 (.kn 1)) 1 (ints (zi [i])) (C+1):= .inr ⟨C+1,1,.kn 1, [],rfl,rfl,.inr ⟨rfl,rfl⟩,eU _,om,by rw[of _ om,qV];exact ge⟩
  have B0:BQ G L S i [i] 0:=⟨siM,siM,rfl,λj hj=>by
   obtain rfl:j=i:=by simpa using hj
   exact⟨om,Cs hG E b8⟩,λk hk=>om⟩
  refine bY (λvs hh=> ∃(Q:List Nat) (vQ:V),(∃g:Nat->V,vs= [g 0,.ptr B 0,.ptr (B+1) 0,g 3,vL,g 5,.ptr P 0,vS,.sl D 0 m (.kn m),vK,aC i,g 11,.ptr C 0,vQ,g 14,g 15,g 16,g 17,g 18,g 19,g 20,g 21,g 22,g 23,g 24,g 25,g 26,g 27,g 28,g 29,g 30,g 31,g 32,g 33])/\BQ G L S i Q Q.length/\hh.get C=some (.cells false [vx,aC o,aC (Q.length:Int)])/\C<hh.next/\hh.get D=some (.cells false (rc m λj=> aC (Ln G L i Q j:Nat)))/\Fx (· =D) F hh) ?_ ?_
  .refine aH (λk' vs hh=> ∃(Q:List Nat) (vQ:V) (p:Nat),(∃g:Nat->V,vs= [g 0,.ptr B 0,.ptr (B+1) 0,g 3,vL,g 5,.ptr P 0,vS,.sl D 0 m (.kn m),vK,aC i,g 11,.ptr C 0,vQ,aC p,g 15,g 16,g 17,g 18,g 19,g 20,g 21,g 22,g 23,g 24,g 25,g 26,g 27,g 28,g 29,g 30,g 31,g 32,g 33])/\p<=Q.length/\BQ G L S i Q p/\cW hh vQ 1 (ints (zi Q)) (C+1)/\hh.get C=some (.cells false [vx,aC o,aC p])/\C<hh.next/\hh.get D=some (.cells false (rc m λj=> aC (Ln G L i Q j:Nat)))/\Fx (· =D) F hh/\k'=m-p) m
    ⟨[i],_,0,aB rfl,fE _,B0,i6,l4,om,j4,i8,rfl⟩ ?_
   clear j4 l4 i6 B0 i8 ef nf gf of ee ne ge oe fe ed nd gd od ec nc a5 oc fc i0 pt cD d2
   rintro k' Z ka ⟨Q,vQ,p,⟨g2,rfl⟩,hp,J,oQ,gC,nC,a6,Fk,rfl⟩
   have i1:=J.len
   have l0:=cW.lens oQ (show (ints (zi Q)).length=Q.length by rw[aN,aL])
   by_cases l3:(p:Int)<(Q.length:Int)
   case neg=>
    have d5:=bT l3;obtain rfl:p=Q.length:=om
    refine cU l0 d5 ?_;exact⟨Q,vQ,aB rfl,J,gC,nC,a6,Fk⟩
   have d5:=cJ l3
   have b0:p<Q.length:=om
   obtain⟨kb,o0,s2,r0,c3⟩:=lU ka C [vx,aC o,aC (p+1:Nat)]
   have pC:=AM (a:=vx) (b:= aC o) (c:= aC p)
   simp(disch:=omega)only[go_sem,l0,d5,H.cell_of gC,gC,pC,show (p:Int)+1=((p+1:Nat):Int) from rfl,o0]
   obtain⟨c,a8⟩:=exI (Q.getD p 0)
   obtain⟨n3,u3⟩:=J.mem c (by rw[<-a8];exact aV b0)
   have Cp:=jJ hG E n3
   have f8: ∀hh,Fx (λq=>q=D\/q=C) kb hh->Fx (· =D) F hh:=λhh f=>⟨by have:=f.next;have:=Fk.next;omega,λq l A=>by rw[f.get q (by have:=Fk.next;omega) (by rintro (e|e);exact A e;omega),c3 q om];exact Fk.get q l A⟩
   have r9:Fx (· =D) F kb:=f8 kb (Fx.refl _ _)
   have nk:=Fk.next
   have l7:cW kb vQ 1 (ints (zi Q)) (C+1):=oQ.qX om λid off n' cp e l=>c3 id (by have:=(oQ.in _ _ _ _ e).2.1;omega)
   have c4:kb.get D=some (.cells false (rc m λj=> aC (Ln G L i Q j:Nat))):=by rw[c3 D om];exact a6
   refine aH (λk' vs hh=> ∃(Q:List Nat) (vQ:V) (t:Nat),(∃g:Nat->V,vs= [g 0,.ptr B 0,.ptr (B+1) 0,g 3,vL,g 5,.ptr P 0,vS,.sl D 0 m (.kn m),vK,aC i,g 11,.ptr C 0,vQ,aC p,aC t,g 16,g 17,g 18,g 19,g 20,g 21,g 22,g 23,g 24,g 25,g 26,g 27,g 28,g 29,g 30,g 31,g 32,g 33])/\t<=sl/\p<Q.length/\BQ G L S i Q p/\Q.getD p 0=c/\(∀s∈S.take t,∃j∈Q,L.getD j []=aX (L.getD c []) s)/\cW hh vQ 1 (ints (zi Q)) (C+1)/\hh.get C=some (.cells false [vx,aC o,aC (p+1:Nat)])/\C<hh.next/\hh.get D=some (.cells false (rc m λj=> aC (Ln G L i Q j:Nat)))/\Fx (· =D) F hh/\k'=sl-t) sl
    ⟨Q,vQ,0,aB rfl,fE _,b0,J,a8,λs hs=>(by simp at hs),l7,r0,om,c4,r9,rfl⟩ ?_
   clear J oQ gC a6 Fk a8 b0 i1 l0 d5 hp l3 o0 s2 r0 c3 f8 r9 l7 c4 nk nC kb ka
   clear Q vQ
   rintro k' Z ka ⟨Q,vQ,t,⟨g3,rfl⟩,ht,b0,J,a8,l6,oQ,gC,nC,a6,Fk,rfl⟩
   have i1:=J.len
   by_cases p0:(t:Int)<(sl:Int)
   case neg=>
    have d5:=bT p0;obtain rfl:t=sl:=om
    refine cU d8 d5 ?_;rw[eJ p];refine⟨m-(p+1),om,Q,vQ,p+1,aB rfl,om,⟨J.nd,J.ne,J.hd,J.mem,λk hk s hs=>?_⟩,oQ,gC,nC,a6,Fk,rfl⟩
    by_cases e:k=p
    .subst e
     rw[a8];exact l6 s (by rw[<-r1,List.take_length];exact hs)
    .exact J.cl k om s hs
   have d5:=cJ p0
   have q8:t<sl:=om
   have v3:p<Q.length:=b0
   obtain⟨w6,w2,s6,cq⟩:=Pd (h:=ka) (hh:=ka) (b:=Q.length) oQ.sv rfl
   have j5:=λhh f=>cq hh f p v3
   rw[a8] at j5
   have c2:=fD ka (FT Fk)
   have c8:=i2 ka (FT Fk)
   obtain⟨_,_,sy⟩:=cS t q8
   have cy:=s9 t q8
   obtain⟨_,_,pz⟩:=cL c om
   have cz:=r5 c om
   generalize r7.getD t V.undef=vy at cy sy
   generalize j3.getD c V.undef=vz at cz pz
   have sz:=pz.si
   obtain⟨s,hs⟩:=exI (S.getD t [])
   rw[hs] at sy
   have d3:s∈S:=by rw[<-hs];exact aV om
   have Sp:=hG.bM (b9 s d3)
   simp(disch:=omega)only[go_sem,d8,d5,i7.ixa,cy ka c2,s6.ixa,j5 ka (Fr.refl _),c5.ixa,cz ka c8]
   have m9:Fr ka (H.mk ka.tr (ka.next+19)):=(Fr.refl ka).bU om
   refine (Cd vy n s _ om Sp ((sy.mono c2).mono m9)).mono ?_
   rintro u2 k1 m0
   have K1:=m9.trans m0.fr
   have ez:=SV.dM sz
   have ey:=SV.dM sy
   refine iT (j5 k1 K1) (cz k1 (c8.trans K1)) (cy k1 (c2.trans K1)) ez ey ?_
   refine (nV u2 vz (cK s) (L.getD c []) k1 (by rw[iI,Sp.len];omega) (m0.pv (W:=λ_=>False) id).si (sz.mono (c8.trans K1)) (λj hj=>by rw[Cp.len];exact Sp.inv.fZ (by rw[<-Sp.inv.len];exact hj))).mono ?_
   rintro s3 k2 ⟨v1,u1,_⟩
   have K2:=K1.trans u1
   have P2:=Sp.inv.mul Cp
   refine cU (cy k2 (c2.trans K2)) ey ?_
   refine (nV s3 vy _ s k2 (by rw[P2.len];omega) v1 (sy.mono (c2.trans K2)) (λj hj=>by rw[Sp.len];exact P2.fZ (by rw[<-P2.len];exact hj))).mono ?_
   rintro v6 k3 ⟨v0,s5,_⟩
   have K3:=K2.trans s5
   have P3:=P2.mul Sp
   refine aM ?_
   have v2:aS (aS (cK s) (L.getD c [])) s∈L:=(E.mem _).2 (hG.mul (hG.mul (hG.inv (b9 s d3)) (tY E n3)) (b9 s d3))
   refine (TN vL v6 n L _ k3 om om LP P3 E.asc (sL.mono (c8.trans K3)) v0).mono ?_
   rintro x5 k4 ⟨s0,t3⟩
   rcases s0 with ⟨j,rfl,hj,ej⟩|⟨t0,_⟩
   case inr=>exact absurd v2 t0
   have K4:=K3.trans t3
   have k8:L.getD j []=aX (L.getD c []) s:=ej
   have m3:cR G L i j:=oP hG E om u3 ⟨s,b9 s d3,k8.symm⟩
   have p9:S.take (t+1)=S.take t++ [s]:=by rw[dJ [] om,hs]
   have x4:=K4.next
   have w3:=Fk.next
   have i4:k4.get D=some (.cells false (rc m λj=> aC (Ln G L i Q j:Nat))):=by rw[K4.get _ om];exact a6
   have o6:k4.get C=some (.cells false [vx,aC o,aC (p+1:Nat)]):=by rw[K4.get _ nC];exact gC
   have l1:=oQ.fr K4
   have p8:Fx (· =D) F k4:=⟨om,λq l A=>by rw[K4.get q om];exact Fk.get q l A⟩
   have q4:=iJ i4 (i:=j) om
   have e3:=VF hG E (Q:=Q) b8 hr hj m3
   by_cases c7:j∈Q
   .have d6:decide (((Ln G L i Q j:Nat):Int)=0)=false:=bT λh=>e3.1 om c7
    refine cU q4 d6 ?_
    rw[eJ t]
    refine⟨sl-(t+1),om,Q,vQ,t+1,aB rfl,om,b0,J,a8,?_,l1,o6,om,i4,p8,rfl⟩
    rw[p9]
    intro s' c1
    rcases jO.1 c1 with l|l
    .exact l6 s' l
    .obtain rfl:s'=s:=by simpa using l
     exact⟨j,c7,k8⟩
   have d6:decide (((Ln G L i Q j:Nat):Int)=0)=true:=cJ (by rw[e3.2 c7];rfl)
   obtain⟨k5,e5,m5,t5,o3⟩:=lU k4 D ((rc m λj=> aC (Ln G L i Q j:Nat)).set j (aC (pl+1:Nat)))
   have pt:=cF (vs:=rc m λj=> aC (Ln G L i Q j:Nat)) (off:=j) (by rw[iK];omega)
   have r4:cW k5 vQ 1 (ints (zi Q)) (C+1):=l1.qX om λid off n' cp e l=>o3 id (by have:=(l1.in _ _ _ _ e).2.1;omega)
   obtain⟨k6,u0,m6,t8,q5,s4⟩:=dF (h:=k5) rfl [aC j]
   obtain⟨k7,a7,p7⟩:=(r4.fr s4).push (bytes:=8) (SV.one (v:= aC j) (id:=k5.next) om t8 (.kn 1)) (n:=Q.length) (m:=1) (by rw[aN,aL];simp) rfl om om om
   have f5:=a3
   rw[n6] at f5
   simp(disch:=omega)only[go_sem,q4,d6,f5,show (pl:Int)+1=((pl+1:Nat):Int) from rfl,i4,pt,e5,cQ k5 (z:= aC 0) (v:= aC j) rfl rfl,u0,a7]
   rw[eJ t]
   have el:ints (zi (Q++ [j]))=ints (zi Q)++ [aC j]:=by simp [zi,ints]
   have m7:=p7.next
   have r3: ∀q,q<=C->dS vQ q:=λq hq id off n' cp e e2=>by have:=(r4.in _ _ _ _ e).2.1;omega
   have e8: ∀q,q<=C->q≠D->k7.get q=k4.get q:=λq l A=>by rw[p7.old q om (r3 q l),q5 q om,o3 q A]
   have t7:(rc m λj'=>aC (Ln G L i Q j':Nat)).set j (aC (pl+1:Nat))=rc m λj'=> aC (Ln G L i (Q++ [j]) j':Nat):=by
    rw[jL]
    exact cT λj' _=>by
     rw[Ty,n6]
     by_cases e:j'=j
     .rw[bL e,bL e]
     .rw[bV e,bV e]
   refine⟨sl-(t+1),om,Q++ [j],_,t+1,aB rfl,om,by rw[iB];omega,⟨?_,by rw[iB];simp,?_,?_,?_⟩,?_,?_,by rw[el];exact p7.own (by rw[aN,aL];omega) rfl om,by rw[e8 C (eU _) om];exact o6,om,?_,?_,rfl⟩
   .rw[List.nodup_append]
    exact⟨J.nd,siM,λx hx y hy e=>by
     obtain rfl:y=j:=by simpa using hy
     exact c7 (e▸hx)⟩
   .rw[List.getD,wU J.ne];exact J.hd
   .intro x hx
    rcases jO.1 hx with l|l
    .exact J.mem x l
    .obtain rfl:x=j:=by simpa using l
     exact⟨hj,m3⟩
   .intro k hk s' c1
    obtain⟨y,hy,ey⟩:=J.cl k hk s' c1
    refine⟨y,jO.2 (.inl hy),?_⟩
    rw[ey,List.getD,List.getD,List.getD,List.getD,wU om]
   .rw[List.getD,wU b0];exact a8
   .rw[p9]
    intro s' c1
    rcases jO.1 c1 with l|l
    .obtain⟨y,hy,ey⟩:=l6 s' l
     exact⟨y,jO.2 (.inl hy),ey⟩
    .obtain rfl:s'=s:=by simpa using l
     exact⟨j,jO.2 (.inr siM),k8⟩
   .rw[p7.old D om (r3 D om),q5 D om,t5,t7]
   .refine⟨om,λq l A=>?_⟩
    rw[e8 q om A]
    exact p8.get q l A
  clear j4 l4 i6 B0 i8 ef nf gf of ee ne ge oe fe ed nd gd od ec nc a5 oc fc i0 pt cD d2
  rintro Z ka ⟨Q,vQ,⟨g2,rfl⟩,j7,gC,nC,a6,Fk⟩
  have hQ:=j7.done hG E (eU _) b8 b9 k9
  have v7:Q.length=(kF G L i).length:=by
   have:=(List.perm_ext_iff_of_nodup j7.nd (Al (G:=G) (L:=L) i)).2 λj=>by rw[hQ j,oX]
   exact this.length_eq
  have i1:=j7.len
  have nk:=Fk.next
  obtain⟨kc,s1,w8,u7,j1,x7⟩:=dF (h:=ka) rfl [vx,aC o,aC (Q.length:Int)]
  have d4:=FT Fk
  have s8:cW kc vK 3 (eV ks) (D+1):=ow.qX (by have:=fb.next;omega) λid off n' cp e l=>by
   have A:=(ow.in _ _ _ _ e).2.1;rw[j1 id om,Fk.get id om (λe=>by have:id=D:=e;omega),fb.get id om]
  obtain⟨kd,v9,d9⟩:=s8.push (bytes:=40) (y:= .sl ka.next 0 1 (.kn 1)) (us:= [vx,aC o,aC (Q.length:Int)]) (SV.all rfl om u7 _) (n:=ks.length) (m:=1) (by rw[fS]) rfl om om om
  have y0:=d9.next
  refine gX (aE gC) (Mj b4.2.1) s1 v9 ?_
  rw[eJ i]
  obtain⟨ke,g0,e0,e6⟩: ∃a:Cls.KE,a.rep=vx/\a.ord=o/\a.size=Q.length:=⟨⟨vx,o,Q.length,.aD,0,⟨b4.1,b4.2.1,SV.dM si⟩,⟨rfl,rfl,rfl⟩⟩,rfl,rfl,rfl⟩
  have ap: ∀q,q<=D->dS vK q:=λq hq id off n' cp e e2=>by have:=(ow.in _ _ _ _ e).2.1;omega
  refine⟨m-(i+1),om,i+1,_,ks++ [ke],aB rfl,om,?_,?_,?_,om,?_,rfl⟩
  .have t:=d9.own (b:=D+1) (by rw[fS]) rfl om
   have e:eV (ks++ [ke])=eV ks++ [vx,aC o,aC (Q.length:Int)]:=by rw[HC];simp [eV,g0,e0,e6]
   rw[e]
   exact t
  .rw[(oE i).1 hr]
   exact al.append ⟨⟨by rw[e0,ho],by rw[e6,v7],by rw[g0];exact pi⟩,trivial⟩
  .rw[d9.old D om (ap D (eU _)),j1 D om,a6,cT λj hj=>by rw[TX hG E b8 hr hQ om]]
  .refine⟨by have:=d4.next;omega,λq l A=>?_⟩
   have x9:q≠D:=A
   rw[d9.old q (by have:=d4.next;omega) (ap q om),j1 q (by have:=d4.next;omega)]
   exact d4.get q l A
 rintro Z h8 ⟨vK,ks,⟨g,rfl⟩,ow,al,gD,nD,F8⟩
 obtain⟨K,ik⟩:=afG n G L
 obtain⟨M,hM⟩:=exI (dD G L m)
 rw[hM] at al
 have b1:=aJ.length al
 obtain⟨w,hw⟩:=exI M.length
 rw[hw] at b1
 have w7:w<=m:=by
  rw[<-hw,<-hM];unfold dD;exact kP (List.length_filter_le _ _) (by rw[Ng];exact eU _)
 have a3:bH vK=some (aC w):=by unfold bH;rw[SV.len ow.sv (n:=w) (by rw[fS,b1]) om];rfl
 obtain⟨c0,f0,l2,b3,b6⟩:=SV.shape ow.sv w (by rw[fS,b1]) om
 rw[fS,b1] at b6
 have w5:=fD h8 F8
 have b5:=i2 h8 F8
 have rK: ∀i,(hi:i<w)-> ∀hh,Fr h8 hh->hh.row c0 (f0+i*3) 3=some [(ks[i]'om).rep,aC ((ks[i]'om).ord:Int),aC ((ks[i]'om).size:Int)]:=λi hi hh f=>by
  obtain⟨p1,p2,p3⟩:=xC (ks:=ks) (i:=i) om;refine Zn ?_ ?_ ?_
  .rw[f.cell (b3 om),b6 _ om,p1]
  .rw[f.cell (b3 om),Nat.add_assoc,b6 _ om,p2]
  .rw[f.cell (b3 om),Nat.add_assoc,b6 _ om,p3]
 obtain⟨N,hN⟩:=exI h8.next
 obtain⟨h9,e9,n9,g9,o9,f9⟩:=dF hN (rc w λ_=> aC 0)
 simp(disch:=omega)only[go_sem,a3,mJ _ w om,hN,e9]
 have n8:=F8.next
 have fN: ∀hh,Fx (· =N) h9 hh->Fr h8 hh:=λhh f=>⟨by have:=f.next;omega,λq hq=>by rw[f.get q om (λe=>by have:q=N:=e;omega)];exact o9 q om⟩
 have l8: ∀i,(hi:i<w)->Sq n G L (λq=>q<A.next) h3 (ks[i]'om) (M.getD i 0)/\M.getD i 0<L.length:=λi hi=>by
  have l:=aJ.get al i om om;have e:M.getD i 0=M[i]'om:=bJ om;have j6:M.getD i 0∈dD G L m:=by rw[hM];exact aV om
  refine⟨by rw[e];exact l,?_⟩;have:=(kX.1 j6).1;omega
 obtain⟨bK,r8⟩: ∃bK:Nat->Nat->Bool,∀k i,bK k i=true↔Sc n G L (M.getD k 0) (M.getD i 0):=by
  classical
  exact⟨λk i=>decide (Sc n G L (M.getD k 0) (M.getD i 0)),λk i=>by simp⟩
 have t6: ∀i,i<w->Li (λu=>bK u i) w=K.idxOf (M.getD i 0):=λi hi=>by
  have:=RO ik (λu=>bK u i) (t:=i) (by rw[hm,hM];omega) (λu hu=>by rw[hm,hM];exact r8 u i);rw[hm,hM,hw] at this;exact this
 refine bY (λvs hh=>(∃g:Nat->V,vs= [g 0,.ptr B 0,.ptr (B+1) 0,g 3,vL,g 5,.ptr P 0,g 7,.sl D 0 m (.kn m),vK,g 10,g 11,g 12,g 13,g 14,g 15,g 16,g 17,.sl N 0 w (.kn w),g 19,g 20,g 21,g 22,g 23,g 24,g 25,g 26,g 27,g 28,g 29,g 30,g 31,g 32,g 33])/\hh.get N=some (.cells false (rc w λt=> aC (K.idxOf (M.getD t 0):Nat)))/\N<hh.next/\Fx (· =N) h9 hh) ?_ ?_
 .refine aH (λk' vs hh=> ∃(i:Nat),(∃g:Nat->V,vs= [g 0,.ptr B 0,.ptr (B+1) 0,g 3,vL,g 5,.ptr P 0,g 7,.sl D 0 m (.kn m),vK,g 10,g 11,g 12,g 13,g 14,g 15,g 16,g 17,.sl N 0 w (.kn w),aC i,g 20,g 21,g 22,g 23,g 24,g 25,g 26,g 27,g 28,g 29,g 30,g 31,g 32,g 33])/\i<=w/\hh.get N=some (.cells false (rc w λt=> aC (if t<i then K.idxOf (M.getD t 0) else 0:Nat)))/\N<hh.next/\Fx (· =N) h9 hh/\k'=w-i) w
   ⟨0,aB rfl,fE _,by rw[g9];rfl,om,Fx.refl _ _,rfl⟩ ?_
  rintro k' Z ha ⟨i,⟨g,rfl⟩,hi,gN,nN,Fa,rfl⟩
  by_cases a1:(i:Int)<(w:Int)
  case neg=>
   have d1:=bT a1;obtain rfl:i=w:=om
   refine cU a3 d1 ?_;exact⟨aB rfl,by rw[gN,cT λj hj=>by rw[bL hj]],nN,Fa⟩
  have d1:=cJ a1
  have g8:i<w:=om
  refine cU a3 d1 ?_
  refine aH (λk' vs hh=> ∃(k:Nat),(∃g:Nat->V,vs= [g 0,.ptr B 0,.ptr (B+1) 0,g 3,vL,g 5,.ptr P 0,g 7,.sl D 0 m (.kn m),vK,g 10,g 11,g 12,g 13,g 14,g 15,g 16,g 17,.sl N 0 w (.kn w),aC i,aC k,g 21,g 22,g 23,g 24,g 25,g 26,g 27,g 28,g 29,g 30,g 31,g 32,g 33])/\k<=w/\hh.get N=some (.cells false (rc w λt=> aC (if t<i then K.idxOf (M.getD t 0) else if t=i then Li (λu=>bK u i) k else 0:Nat)))/\N<hh.next/\Fx (· =N) h9 hh/\k'=w-k) w
   ⟨0,aB rfl,fE _,by
    rw[gN,cT λj hj=>?_]
    by_cases e:j<i
    .rw[bL e,bL e]
    .rw[bV e,bV e];split<;>rfl,nN,Fa,rfl⟩ ?_
  clear gN nN Fa ha
  rintro k' Z ha ⟨k,⟨g,rfl⟩,hk,gN,nN,Fa,rfl⟩
  by_cases l9:(k:Int)<(w:Int)
  case neg=>
   have d2:=bT l9;obtain rfl:k=w:=om
   refine cU a3 d2 ?_;rw[eJ i];refine⟨k-(i+1),om,i+1,aB rfl,om,?_,nN,Fa,rfl⟩;rw[gN,cT λj hj=>?_]
   by_cases e:j<i
   .rw[bL e,bL om]
   .rw[bV e]
    by_cases e2:j=i
    .subst e2;rw[bL rfl,bL om,t6 j hj]
    .rw[bV e2,bV om]
  have d2:=cJ l9
  have o8:k<w:=om
  have a2:=fN ha Fa
  refine iT a3 d2 @l2.ixa (rK k o8 ha a2) (rK i g8 ha a2) ?_
  obtain⟨i5,m1⟩:=l8 k o8
  obtain⟨i3,q3⟩:=l8 i g8
  have b2:Fr ha (H.mk ha.tr (ha.next+9)):=(Fr.refl ha).bU om
  have v4:(ks[k]'om).ord<(ks[i]'om).ord\/(ks[k]'om).ord=(ks[i]'om).ord/\((ks[k]'om).size<(ks[i]'om).size\/(ks[k]'om).size=(ks[i]'om).size/\Lt (L.getD (M.getD k 0) []) (L.getD (M.getD i 0) []))↔bK k i=true:=by
   rw[r8,i5.ord,i5.size,i3.ord,i3.size,UZ E m1 q3];rfl
  refine (Yy _ _ n (L.getD (M.getD k 0) []) (L.getD (M.getD i 0) []) _ om (jJ hG E m1).len (jJ hG E q3).len (((i5.rep.si.mono b5).mono a2).mono b2) (((i3.rep.si.mono b5).mono a2).mono b2) (bK k i) v4).mono ?_
  rintro _ F ⟨rfl,fb⟩
  have Fb:Fx (· =N) h9 F:=⟨by have:=Fa.next;have:=b2.next;have:=fb.next;omega,λq l A=>by rw[fb.get q (by have:=Fa.next;have:=b2.next;omega),b2.get q (by have:=Fa.next;omega)];exact Fa.get q l A⟩
  have b7:=gN
  rw[<-(b2.trans fb).get N nN] at b7
  have w9:=(b2.trans fb).next
  have q7:=iJ b7 g8
  rw[bV om,bL rfl] at q7
  have cs:=JE (λu=>bK u i) k
  have cl:=VK (λu=>bK u i) k
  cases hb1:bK k i with
  |false=>
   refine aM ?_;rw[eJ k];have cs:Li (λu=>bK u i) (k+1)=Li (λu=>bK u i) k:=by rw[cs,hb1];rfl
   exact⟨w-(k+1),om,k+1,aB rfl,om,by rw[b7,cs],om,Fb,rfl⟩
  |true=>
   rw[hb1,bL rfl] at cs;have pt:=cF (vs:=rc w λt=>aC (if t<i then K.idxOf (M.getD t 0) else if t=i then Li (λu=>bK u i) k else 0:Nat)) (off:=i) (by rw[iK];omega);refine dQ q7 b7 pt ?_;rw[eJ k];refine⟨w-(k+1),om,k+1,aB rfl,om,?_,(show N<F.next by omega),⟨(show h9.next<=F.next from Fb.next),λq l A=>by rw[H.aF _ A];exact Fb.get q l A⟩,rfl⟩;rw[jL];congr 2;refine cT λj hj=>?_
   by_cases e:j=i
   .subst e
    rw[bL rfl,bV om,bL rfl,cs];rfl
   .rw[bV e,bV e,bV e]
 clear n9 g9 o9 f9 e9
 rintro Z ha ⟨⟨g,rfl⟩,gN,nN,Fa⟩
 have a2:=fN ha Fa
 have na:=Fa.next
 have y3:P<D:=om
 have u6:ha.get P=some (.cells false [aC n,vO,vR,vL,.aD,.aD]):=by
  rw[a2.get P om,F8.get P om (λe=>by have:P=D:=e;omega),o7 P om,f6.get P om];exact g5
 have t1:ha.get (B+1)=some (.cells false [aC 0,.aD,.aD,.aD,.aD,.aD]):=by
  rw[a2.get _ om,b5.get _ om,f3.get _ om];exact g2
 have u8:ha.get D=some (.cells false (rc m λj=> aC (Et G L m j:Nat))):=by rw[a2.get _ om];exact gD
 obtain⟨Y,hT⟩:=exI ha.next
 obtain⟨F,eb,nb,gb,ob,fb⟩:=dF hT (eV (List.replicate w zKE))
 obtain⟨hc,ec,nc,a5,oc⟩:=lU F P [aC n,vO,vR,vL,.sl Y 0 w (.kn w),.aD]
 have j9:F.get P=some (.cells false [aC n,vO,vR,vL,.aD,.aD]):=by rw[fb.get _ om];exact u6
 have p4:(hh:H)->(y:V)->eH (some (.cells false [aC n,vO,vR,vL,.aD,.aD])) hh P 4 [y]=some (hh.set P (some (.cells false [aC n,vO,vR,vL,y,.aD]))):=λhh y=>by simp [eH,putAt]
 simp(disch:=omega)only[go_sem,a3,ahP ha w om,hT,eb,j9,p4,ec]
 have v8:M.Nodup:=by rw[<-hM];exact Ha _
 have pK:K.Perm M:=by rw[<-hM,<-hm];exact ik.perm
 have lK:K.length=w:=by rw[pK.length_eq,hw]
 have U0: ∀q,q<Y->q≠P->hc.get q=ha.get q:=λq l A=>by rw[oc q A,ob q om]
 have w0:0<w->D+1<=c0:=λh0=>cW.ge ow (n:=w) (by rw[fS,b1]) om l2 h0
 refine bY (λvs hh=>(∃g:Nat->V,vs= [g 0,.ptr B 0,.ptr (B+1) 0,g 3,vL,g 5,.ptr P 0,g 7,.sl D 0 m (.kn m),vK,g 10,g 11,g 12,g 13,g 14,g 15,g 16,g 17,.sl N 0 w (.kn w),g 19,g 20,g 21,g 22,g 23,g 24,g 25,g 26,g 27,g 28,g 29,g 30,g 31,g 32,g 33])/\hh.get P=some (.cells false [aC n,vO,vR,vL,.sl Y 0 w (.kn w),.aD])/\hh.get Y=some (.cells false (eV (Tf M K ks w w)))/\Y<hh.next/\ ∀q,q<Y->q≠P->hh.get q=ha.get q) ?_ ?_
 .refine aH (λk' vs hh=> ∃(t:Nat),(∃g:Nat->V,vs= [g 0,.ptr B 0,.ptr (B+1) 0,g 3,vL,g 5,.ptr P 0,g 7,.sl D 0 m (.kn m),vK,g 10,g 11,g 12,g 13,g 14,g 15,g 16,g 17,.sl N 0 w (.kn w),g 19,g 20,aC t,g 22,g 23,g 24,g 25,g 26,g 27,g 28,g 29,g 30,g 31,g 32,g 33])/\t<=w/\hh.get P=some (.cells false [aC n,vO,vR,vL,.sl Y 0 w (.kn w),.aD])/\hh.get Y=some (.cells false (eV (Tf M K ks w t)))/\Y<hh.next/\(∀q,q<Y->q≠P->hh.get q=ha.get q)/\k'=w-t) w
   ⟨0,aB rfl,fE _,a5,by rw[oc Y om,QT];exact gb,om,U0,rfl⟩ ?_
  clear U0 a5 oc nc ec j9 gb ob fb nb eb
  rintro k' Z hd ⟨t,⟨g,rfl⟩,ht,gP,gT,nT,U,rfl⟩
  by_cases a1:(t:Int)<(w:Int)
  case neg=>
   have d1:=bT a1;obtain rfl:t=w:=om
   refine cU a3 d1 ?_;exact⟨aB rfl,gP,gT,nT,U⟩
  have d1:=cJ a1
  have i9:t<w:=om
  have s7:hd.get N=some (.cells false (rc w λt=> aC (K.idxOf (M.getD t 0):Nat))):=by rw[U N om om];exact gN
  have cN:=iJ s7 i9
  have r2:K.idxOf (M.getD t 0)<w:=by
   have j6:M.getD t 0∈K:=pK.mem_iff.2 (aV om);have:=iLL.2 j6;omega
  have c6:=YL (ks:=ks) pK v8 hw i9
  have ek:ks.getD t zKE=ks[t]'om:=by rw[List.getD,dC om];rfl
  rw[ek] at c6
  generalize K.idxOf (M.getD t 0)=q0 at cN r2 c6
  have r6:hd.row c0 (f0+t*3) 3=some [(ks[t]'om).rep,aC ((ks[t]'om).ord:Int),aC ((ks[t]'om).size:Int)]:=by
   have l:=rK t i9 h8 (Fr.refl _);have A:=b3 om;have h3:=w0 om;unfold H.row at l |-;rw[U c0 om om,a2.get c0 A];exact l
  have g6:=(ks[t]'(show t<ks.length by omega)).hrep.2.1
  generalize ks[t]'(show t<ks.length by omega)=a at c6 r6 g6
  have pt:=λhh=>QQ (ks:=Tf M K ks w t) (i:=q0) (by rw[CP];exact r2) hh Y a
  simp only[Nat.zero_add] at pt
  simp(disch:=omega)only[go_sem,a3,d1,H.cell_of gP,cN,l2.ixa,r6,bW _ Y _ (v:=a.rep) (u:= aC (a.ord:Int)) (w:= aC (a.size:Int)) g6 rfl rfl,gT,pt]
  rw[eJ t]
  refine⟨w-(t+1),om,t+1,aB rfl,om,?_,by rw[c6],(show Y<hd.next+12 by omega),λq l A=>?_,rfl⟩
  .exact gP
  .rw[H.aF _ om];exact U q l A
 clear U0 a5 oc nc ec j9 gb ob fb nb eb hc F
 rintro Z F ⟨⟨g,rfl⟩,gP,gT,nT,U⟩
 refine aM ?_
 refine bY (λvs hh=> ∃(vM:V),(∃g:Nat->V,vs= [g 0,.ptr B 0,.ptr (B+1) 0,g 3,vL,g 5,.ptr P 0,g 7,.sl D 0 m (.kn m),vK,g 10,g 11,g 12,g 13,g 14,g 15,g 16,g 17,.sl N 0 w (.kn w),g 19,g 20,g 21,g 22,g 23,g 24,g 25,g 26,g 27,g 28,g 29,g 30,g 31,g 32,g 33])/\hh.get P=some (.cells false [aC n,vO,vR,vL,.sl Y 0 w (.kn w),vM])/\cW hh vM 1 (ints (zi (wI G L K))) (Y+1)/\hh.get Y=some (.cells false (eV (Tf M K ks w w)))/\Y<hh.next/\ ∀q,q<Y->q≠P->hh.get q=ha.get q) ?_ ?_
 .refine aH (λk' vs hh=> ∃(j:Nat) (vM:V),(∃g:Nat->V,vs= [g 0,.ptr B 0,.ptr (B+1) 0,g 3,vL,g 5,.ptr P 0,g 7,.sl D 0 m (.kn m),vK,g 10,g 11,g 12,g 13,g 14,g 15,g 16,g 17,.sl N 0 w (.kn w),g 19,g 20,g 21,aC j,g 23,g 24,g 25,g 26,g 27,g 28,g 29,g 30,g 31,g 32,g 33])/\j<=m/\hh.get P=some (.cells false [aC n,vO,vR,vL,.sl Y 0 w (.kn w),vM])/\cW hh vM 1 (ints (zi ((wI G L K).take j))) (Y+1)/\hh.get Y=some (.cells false (eV (Tf M K ks w w)))/\Y<hh.next/\(∀q,q<Y->q≠P->hh.get q=ha.get q)/\k'=m-j) m
   ⟨0,.aD,aB rfl,fE _,gP,cW.aD _ _ _,gT,nT,U,rfl⟩ ?_
  clear gP gT nT U F
  rintro k' Z F ⟨j,vM,⟨g,rfl⟩,hj,gP,oM,gT,nT,U,rfl⟩
  have lN:(wI G L K).length=m:=by simp [wI,hm]
  by_cases a1:(j:Int)<(m:Int)
  case neg=>
   have d1:=bT a1;obtain rfl:j=m:=om
   refine cU a9 d1 ?_;rw[Bo om] at oM;exact⟨vM,aB rfl,gP,oM,gT,nT,U⟩
  have d1:=cJ a1
  have q9:j<m:=om
  have c4:F.get D=some (.cells false (rc m λj=> aC (Et G L m j:Nat))):=by rw[U D om om];exact u8
  have b7:F.get N=some (.cells false (rc w λt=> aC (K.idxOf (M.getD t 0):Nat))):=by rw[U N om om];exact gN
  have cD:=iJ c4 q9
  have ld:=LQ hG E (j:=j) om
  obtain⟨q1,q2⟩:=ML hG E ik (j:=j) om
  rw[hm,hM] at ld q1 q2
  rw[ld] at cD
  rw[hw] at q1
  generalize wT G L M j=u at cD q1 q2
  have cN:=iJ b7 q1
  rw[<-q2] at cN
  have eN:(wI G L K).take (j+1)=(wI G L K).take j++ [wT G L K j]:=by
   rw[dJ 0 om];have:(wI G L K).getD j 0=wT G L K j:=by simp [wI,hm,q9]
   rw[this]
  have b6:wT G L K j<=K.length:=by unfold wT;exact List.findIdx_le_length
  generalize wT G L K j=c at cN eN b6
  obtain⟨hc,d0⟩: ∃hc:H,hc=H.mk ((H.mk F.tr (F.next+10)).new (.cells false [aC c])).tr (F.next+14):=⟨_,rfl⟩
  have nc:hc.next=F.next+14:=by rw[d0]
  have a5:hc.get (F.next+10)=some (.cells false [aC c]):=by rw[d0];exact H.aQ (H.mk F.tr (F.next+10)) _
  have oc: ∀q,q≠F.next+10->hc.get q=F.get q:=λq hq=>by rw[d0];exact H.bN (H.mk F.tr (F.next+10)) hq _
  have fc:Fr F hc:=⟨om,λq hq=>oc q om⟩
  obtain⟨hd,ad,pd⟩:=(oM.fr fc).push (bytes:=8) (SV.one (v:= aC c) (id:=F.next+10) om a5 (.kn 1)) (n:=j) (m:=1) (by rw[aN,aL,wH];omega) rfl om om om
  have nd:=pd.next
  have u5: ∀q,q<=Y->dS vM q:=λq hq id off n' cp e e2=>by have:=(oM.in _ _ _ _ e).2.1;omega
  have od: ∀q,q<=Y->hd.get q=F.get q:=λq hq=>by
   rw[pd.old q om (u5 q hq),oc q om]
  have u4:hd.get P=some (.cells false [aC n,vO,vR,vL,.sl Y 0 w (.kn w),vM]):=by rw[od P om];exact gP
  have p5:(hh:H)->(y:V)->eH (some (.cells false [aC n,vO,vR,vL,.sl Y 0 w (.kn w),vM])) hh P 5 [y]=some (hh.set P (some (.cells false [aC n,vO,vR,vL,.sl Y 0 w (.kn w),y]))):=λhh y=>by simp [eH,putAt]
  simp(disch:=omega)only[go_sem,a9,d1,H.cell_of gP,cD,show ((u+1:Nat):Int)- 1=(u:Int) from om,cN,cQ _ (z:= aC 0) (v:= aC c) rfl rfl,<-d0,ad,u4,p5]
  rw[eJ j]
  have t:=pd.own (b:=Y+1) (by rw[aN,aL,wH];omega) rfl om
  have el:ints (zi ((wI G L K).take (j+1)))=ints (zi ((wI G L K).take j))++ [aC c]:=by rw[eN];simp [zi,ints]
  rw[<-el] at t
  refine⟨m-(j+1),om,j+1,_,aB rfl,om,rfl,?_,?_,(show Y<hd.next by omega),λq l A=>?_,rfl⟩
  .exact t.mono (eU _) λid off n' cp e l A=>H.aF _ om _
  .rw[od Y (eU _)];exact gT
  .rw[H.aF _ A,od q om];exact U q l A
 clear gP gT nT U F
 rintro Z F ⟨vM,⟨g,rfl⟩,gP,oM,gT,nT,U⟩
 have gA:F.get (B+1)=some (.cells false [aC 0,.aD,.aD,.aD,.aD,.aD]):=by rw[U _ om om];exact t1
 have p6:=(SV.cM oM.sv).2.1
 simp(disch:=omega)only[go_sem,ER gP,Rh _ (B+1) (a:= aC n) (b:=vO) (c:=vR) (d:=vL) (e:= .sl Y 0 w (.kn w)) (f:=vM) rfl a0.1 a0.2 wL.2.1 rfl p6,gA,Jv,ER (H.aW ..)]
 obtain⟨hz,ez⟩:=exI (F.set (B+1) (some (.cells false [aC n,vO,vR,vL,.sl Y 0 w (.kn w),vM])))
 rw[ez]
 have nz:hz.next=F.next:=by rw[<-ez];rfl
 have oz: ∀q,q≠B+1->hz.get q=F.get q:=λq hq=>by rw[<-ez];exact H.aF _ hq _
 have x3:Fx (λq=>q<A.next) h3 hz:=⟨om,λq l A=>by rw[oz q om,U q om om,a2.get q om,b5.get q l]⟩
 have w1:=b5.next
 refine⟨vO,vR,K,_,rfl,rfl,ik,⟨vL,Y,Tf M K ks w w,vM,by rw[lK],om,om,by rw[oz Y om];exact gT,?_,?_,?_⟩,?_⟩
 .exact (TC pK hw al).mono λa r k=>⟨k.ord,k.size,PV.go k.rep x3 λq y1 y2=>(show q<A.next from om)⟩
 .exact fG.sp' (c9.qX x3.next λid off n' cp e l=>x3.get id l (by have:=(c9.in _ _ _ _ e).2.1;omega)).sv (l5.fx x3)
 .exact (oM.qX om λid off n' cp e l=>oz id (by have:=(oM.in _ _ _ _ e).2.1;omega)).sv
 .refine⟨om,λq hq=>?_⟩
  rw[oz q om,U q om om,a2.get q om,b5.get q om]
  exact (F2.trans f3).get q om
end
section
variable {n:Nat} {G:List Nat->Prop} {L:LN} {W:Nat->Prop} {a:Cls.KE}
theorem Sq.go {W':Nat->Prop}{h h':H}{r:Nat}(k:Sq n G L W h a r)(f:Fx W h h')(b: ∀id,id<h.next->W' id->W id):Sq n G L W' h' a r:=⟨k.ord,k.size,PV.go k.rep f b⟩
theorem Sq.fr {h h':H}{r:Nat}(k:Sq n G L W h a r)(f:Fr h h'):Sq n G L W h' a r:=⟨k.ord,k.size,k.rep.si.mono f,k.rep.off⟩
theorem RdO.open {K:List Nat}{b:Nat}{d i:V}{hh:H}{v:V}(r:RdO n G L K b d i hh v):
  ∃vL S ks vM,v= .agg [aC n,d,i,vL,.sl S 0 K.length (.kn K.length),vM]/\vL.one=true/\vM.one=true/\b<=S/\S<hh.next/\hh.get S=bG (eV ks)/\ks.length=K.length/\aJ (Sq n G L (λq=>q<b\/S<=q) hh) ks K/\SP hh vL L/\SI hh vM (zi (wI G L K)):=by
 obtain⟨vL,S,ks,vM,e,k,j,l,f,h,c⟩:=r.ex
 exact⟨vL,S,ks,vM,e,(SV.cM (show SV hh vL 1 _ from h.choose_spec.1)).2.1,(SV.cM c).2.1,k,j,l,aJ.length f,f,h,c⟩
theorem HW {ks:List Cls.KE}{i:Nat}(hi:i<ks.length)(b:a.ord=ks[i].ord)(h2:a.size=ks[i].size):(eV ks).set (i*3) a.rep=eV (ks.set i a):=by
 induction ks generalizing i with
 |nil=>simp at hi
 |cons c r ih=>
  cases i with
  |zero=>
   have b:a.ord=c.ord:=b;have h2:a.size=c.size:=h2;rw[List.set_cons_zero,kI,kI];unfold Ph;rw[b,h2];rfl
  |succ i=>
   have:=ih (i:=i) (by simpa using hi) (by simpa using b) (by simpa using h2);rw[List.set_cons_succ,kI,kI,<-this,show (i+1)*3=(Ph c).length+i*3 from by show (i+1)*3=3+i*3;omega,List.set_append_right _ _ om,Nat.add_sub_cancel_left]
theorem GW (vc:V)(n:Nat)(O:LN)(R:iA)(G:List Nat->Prop)(h:H)(Q:GC W h vc n O R G)(L:LN)(hL:bZ O R n 0 (bC n)=L):
  Ev T 111 [vc] h (λv h'=> ∃vl K ks,v= .tup [vl,aC 0]/\vB n G L K/\SV h' vl 3 (eV ks)/\aJ (Sq n G L (λ_=>False) h') ks K/\Fr h h'):=by
 have b4:=Q
 obtain⟨J,N,rfl,sO,sR⟩:=Q.ch
 have y:J.one=true:=EB sO
 have A:N.one=true:=Yb sR
 have n7:=Q.n7
 have hG:=Q.cX
 obtain⟨E,ll⟩:=dA Q.cX Q.isc
 have c1:=dX Q
 rw[hL] at E ll
 obtain⟨B,hB⟩:=exI h.next
 obtain⟨h1,e1,n1,g1,o1,f1⟩:=dF hB [aC n,J,N]
 have bx:=aU h (v:= aC n) (u:=J) (w:=N) rfl y A
 refine pY bx hB e1 (aE g1) ?_
 refine (SU _ n O R G h1 (b4.mono f1) L hL).mono ?_
 rintro _ p ⟨b9,c0,K,vg,ee,rfl,ik,rd,f2⟩
 cases ee
 obtain⟨vL,S,ks,vM,rfl,a1,a4,b8,nS,Z,l,Y,sL,sM⟩:=rd.open
 obtain⟨P,hP⟩:=exI p.next
 obtain⟨h3,e3,n3,g3,o3,f3⟩:=dF hP [aC 0,.aD,.aD,.aD,.aD,.aD]
 obtain⟨h4,e4,n4,g4,o4⟩:=lU h3 P [aC n,J,N,vL,.sl S 0 K.length (.kn K.length),vM]
 have o:Fr p h4:=⟨om,λq hq=>by rw[o4 q om,o3 q om]⟩
 refine kA hP e3 (Rh h3 P (a:= aC n) (b:=J) (c:=N) (d:=vL) (e:= .sl S 0 K.length (.kn K.length)) (f:=vM) rfl y A a1 rfl a4) g3 @Jv e4 ?_
 have b0:K.length<=5040:=by
  rw[ik.perm.length_eq];unfold dD;exact kP (List.length_filter_le _ _) (by rw[Ng];omega)
 have b1: ∀r∈K,r<L.length:=λr hr=>(kX.1 (ik.perm.mem_iff.1 hr)).1
 obtain⟨w,hw⟩:=exI K.length
 rw[hw] at l b0
 refine aH (λk' z m=> ∃(i:Nat) (ks:List Cls.KE),(∃g:Nat->V,z= [g 0,g 1,g 2,g 3,.ptr P 0,aC 0,aC i,g 7])/\i<=w/\ks.length=w/\m.get S=bG (eV ks)/\aJ (Sq n G L (· =S) m) ks K/\Fx (· =S) h4 m/\k'=w-i) w
  ⟨0,ks,aB rfl,fE _,l,by rw[o.get _ nS];exact Z,Y.mono λ_ _ k=>Sq.fr (Sq.go k (Fx.refl _ _) (λq _ e=> .inr (by have:q=S:=e;omega))) o,Fx.refl _ _,rfl⟩ ?_
 clear l Y Z
 rintro k' z m ⟨i,ks,⟨g,rfl⟩,hi,l,Z,Y,F,rfl⟩
 have nF:=F.next
 have gP:m.get P=bG [aC n,J,N,vL,.sl S 0 K.length (.kn K.length),vM]:=by rw[F.get P om (λe=>by have:P=S:=e;omega)];exact g4
 rw[hw] at gP
 by_cases a2:(i:Int)<(w:Int)
 case neg=>
  have d1:=bT a2;simp(disch:=omega)only[go_sem,H.cell_of gP,d1]
  refine⟨_,K,ks,rfl,ik,SV.all (by rw[fS,l]) om Z _,Y.mono λ_ _ k=>Sq.go k (Fx.refl _ _) (λq _ e=>e.elim),⟨by have:=o.next;have:=f2.next;omega,λq hq=>by
   have y1:=f2.next;have y2:=o.next
   rw[F.get q om (λe=>by have:q=S:=e;omega),o.get q om,f2.get q om];exact f1.get q om⟩⟩
 have d1:=cJ a2
 have b7:i<w:=om
 have k1:=aJ.get Y i om om
 obtain⟨p1,_,_⟩:=xC (ks:=ks) (i:=i) om
 have cS:m.cell S (i*3)=some (ks[i]'om).rep:=by rw[H.cell_of Z];exact p1
 obtain⟨a,ha⟩:=exI (ks[i]'(show i<ks.length by omega))
 rw[ha] at k1 cS
 have a9:K[i]'om<L.length:=b1 _ (pN _)
 have a6:Fr m (H.mk m.tr (m.next+13)):=(Fr.refl m).bU om
 have ga:P≠S:=om
 simp(disch:=omega)only[go_sem,H.cell_of gP,d1,cS]
 refine (Rq a.rep (zi (L.getD (K[i]'om) [])) _ (k1.rep.si.mono a6) (by rw[aL,(jJ hG E a9).len];omega)).mono ?_
 rintro v1 U ⟨s,f5,_⟩
 have k5:=a6.trans f5
 have c2:=k5.next
 have a8:U.get S=bG (eV ks):=by rw[k5.get S om];exact Z
 have b3:U.get P=bG [aC n,J,N,vL,.sl S 0 w (.kn w),vM]:=by rw[k5.get P om];exact gP
 have t:=SV.cM s.sv
 obtain⟨x,a0,a5,a3⟩: ∃x:Cls.KE,x.rep=v1/\x.ord=a.ord/\x.size=a.size:=⟨⟨v1,a.ord,a.size,.aD,0,⟨t.1,t.2.1,SV.dM s.sv⟩,⟨rfl,rfl,rfl⟩⟩,rfl,rfl,rfl⟩
 have pt:=cF (vs:=eV ks) (off:=i*3) (by rw[fS];omega)
 have ls:=HW (ks:=ks) (i:=i) om (a:=x) (by rw[a5,ha]) (by rw[a3,ha])
 rw[a0] at ls
 simp(disch:=omega)only[go_sem,H.cell_of b3,kO t.1 t.2.1,a8,pt,ls]
 rw[eJ i]
 refine⟨by simp [dM],w-(i+1),om,i+1,ks.set i x,aB rfl,om,by rw[List.length_set];exact l,rfl,?_,⟨(show h4.next<=U.next by omega),λq h1 p=>by rw[H.aF _ p,k5.get q om];exact F.get q h1 p⟩,rfl⟩
 have x5:Fx (· =S) m (U.set S (bG (eV (ks.set i x)))):=⟨(show m.next<=U.next by omega),λq h1 p=>by rw[H.aF _ p];exact k5.get q h1⟩
 have b5:aJ (Sq n G L (· =S) (U.set S (bG (eV (ks.set i x))))) ks K:=Y.mono λ_ _ k=>Sq.go k x5 λ_ _ e=>e
 have a7:=aJ.length Y
 refine aJ.jM (by rw[List.length_set];exact a7) λj hj b6=>?_
 rw[List.getElem_set]
 by_cases e:i=j
 .rw[bL e]
  subst e
  refine⟨by rw[a5,k1.ord],by rw[a3,k1.size],?_⟩
  rw[a0]
  have p5:PV (· =S) U v1 (L.getD (K[i]'om) []):=⟨s.sv,by
   have b2:=s.in
   cases v1 with
   |sl id off len cap=>exact λe=>by have:=(b2 _ _ _ _ rfl).2.1;have:m.next+13<=id:=this;have e:id=S:=e;omega
   |_=>trivial⟩
  exact p5.fx ⟨eU _,λq h1 p=>H.aF _ p _⟩
 .rw[bV e]
  exact aJ.get b5 j (by rw[List.length_set] at hj;exact hj) b6
end
set_option maxRecDepth 100000
set_option maxRecDepth 100000
section
variable {W:Nat->Prop}
set_option maxHeartbeats 8000000
theorem Tt (l:V)(n:Nat)(O:LN)(R:iA)(G:List Nat->Prop)(h:H)(b:GC W h l n O R G):
  Ev T 110 [l] h (λv h'=>v= .tup [aC (iC O n 0:Nat),aC 0]/\Fr h h'):=by
 obtain⟨d,i,rfl,o,t⟩:=b.shape
 obtain⟨B,m⟩:=exI h.next
 obtain⟨J,x,F,j,K,f⟩:=dF m [aC n,d,i]
 refine pY (aU h (v:= aC n) (u:=d) (w:=i) rfl o t) m x (aE j) ?_
 refine ((b.mono f).Ba).mono ?_
 rintro _ k ⟨rfl,c⟩
 have a:k.get B=bG [aC n,d,i]:=by rw[c.get B om];exact j
 have p:decide ((0:Int)≠0)=false:=rfl
 refine cU p (aE a) ?_
 refine (Es _ n O R G k (b.mono (f.trans c))).mono ?_
 rintro _ s ⟨S,rfl,A,q,r,y⟩
 have z:s.cell S 0=some (aC (iC O n 0:Nat)):=by
  rw[H.cell_of r,Be om]
  rfl
 refine bE z ?_
 exact ((f.trans c).trans y)
theorem GF (j:V)(d:Int)(O:List (List Int))(R:List (List (List Int)))(h:H)(m:Hd h j d O R)(n:d<=7\/64<d)(p:mY O)(sr:qB R)(r:lE d O R≠0):
  Ev T 59 [j] h (λv h'=>v= aC (lE d O R)/\Fr h h'):=by
 have c:=m
 obtain⟨f,i,rfl,q,y⟩:=m
 have a:f.one=true:=EB q
 have b:i.one=true:=Yb y
 obtain⟨B,l⟩:=exI h.next
 obtain⟨z,t,F,o,G,k⟩:=dF l [aC d,f,i]
 refine pY (aU h (v:= aC d) (u:=f) (w:=i) rfl a b) l t (aE o) ?_
 refine (Gk _ d O R z (c.mono k) n p sr).mono ?_
 rintro _ A ⟨rfl,s⟩
 have x:=cJ r
 refine bE x ?_
 exact k.trans s
theorem AF (m:V)(n:Nat)(O:LN)(R:iA)(G:List Nat->Prop)(h:H)(a:GC W h m n O R G):
  Ev T 59 [m] h (λv h'=>v= aC 0/\Fr h h'):=by
 obtain⟨d,i,rfl,p,r⟩:=a.shape
 obtain⟨B,o⟩:=exI h.next
 obtain⟨z,s,y,k,A,f⟩:=dF o [aC n,d,i]
 refine pY (aU h (v:= aC n) (u:=d) (w:=i) rfl p r) o s (aE k) ?_
 refine ((a.mono f).Ba).mono ?_
 rintro _ l ⟨rfl,c⟩
 have b:l.get B=bG [aC n,d,i]:=by rw[c.get B om];exact k
 have j:decide ((0:Int)≠0)=false:=rfl
 have sz:=dX a
 have q:decide (((iC O n 0:Nat):Int)>5040)=false:=bT om
 refine cU j (aE b) ?_
 refine (Tt _ n O R G l (a.mono (f.trans c))).mono ?_
 rintro _ x ⟨rfl,t⟩
 refine cU j q ?_
 exact ((f.trans c).trans t)
theorem zH (b:V)(n:Nat)(O:LN)(R:iA)(G:List Nat->Prop)(h:H)(a:GC W h b n O R G):
  Ev T 60 [b] h (λv h'=>v= aC (iC O n 0:Nat)/\Fr h h'):=by
 obtain⟨c,i,rfl,j,l⟩:=a.shape
 obtain⟨B,f⟩:=exI h.next
 obtain⟨p,o,r,k,s,d⟩:=dF f [aC n,c,i]
 refine pY (aU h (v:= aC n) (u:=c) (w:=i) rfl j l) f o (aE k) ?_
 refine (Tt _ n O R G p (a.mono d)).mono ?_
 rintro _ q ⟨rfl,m⟩
 refine aM ?_
 exact d.trans m
theorem EU {W':Nat->Prop}(l k:V)(n:Nat)(c d:qG)(G G':List Nat->Prop)(h:H)(m:GC W h l n c.1 c.2 G)(j:GC W' h k n d.1 d.2 G'):
  Ev T 31 [l,k] h (λv h'=>v= .bool (decide (c=d))/\Fr h h'):=by
 refine (Da l k n n _ _ _ _ h m.ch j.ch m.small.1 j.small.1 m.small.2 j.small.2).mono ?_
 rintro _ o ⟨rfl,f⟩
 have inj:{a b:LN}->a.map zi=b.map zi->a=b:=λh=>map_inj (λ_ _=>Qk) h
 have i:{a b:iA}->a.map (List.map zi)=b.map (List.map zi)->a=b:=λh=>map_inj (λ_ _=>inj) h
 exact⟨congrArg V.bool (decide_eq_decide.2 ⟨λ⟨_,a,b⟩=>Prod.ext (inj a) (i b),λe=>by rw[e];exact⟨rfl,rfl,rfl⟩⟩),f⟩
end
set_option maxRecDepth 100000
set_option maxHeartbeats 16000000
set_option maxRecDepth 100000
section
variable {W W':Nat->Prop} {L:LN} {h:H}
theorem adG {p:V×V×V}{r:List Nat}(n l Q:Nat)(j:V)(ps:List (V×V×V))(rs:LN)(K:L.length<=5040)(R:rs.length<1000000)(N:h.get l=some (.cells false [.ptr Q 0]))(n8:l<h.next)(w:h.get Q=some (.cells false [j]))(Z:Q<h.next)(sv:SV h j 4 (wZ n ps))(al:aJ (Nm W n L h) ps rs)(m:Nm W' n L h p r):
  Ev T 53 [Vb n p,.ptr l 0] h (λv h'=>v= .bool (uU rs r)/\Fr h h'):=by
 obtain⟨P,O,z⟩:=m.one
 have lp:=aJ.length al
 refine kV ?_
 obtain⟨B,u⟩:=exI h.next
 obtain⟨q,J,n1,y,t,k⟩:=dF u [aC n,p.1,p.2.1,p.2.2]
 have o:q.get l=some (.cells false [.ptr Q 0]):=by rw[t _ om];exact N
 have s:q.get Q=some (.cells false [j]):=by rw[t _ om];exact w
 simp(disch:=omega)only[go_sem,aI,gW h (a:= aC n) (b:=p.1) (c:=p.2.1) (d:=p.2.2) rfl P O z,u,J,H.cell_of o,H.cell_of s]
 refine (DX j 55 [.ptr B 0] n ps (λi=>decide ((rs.getD i []).length<r.length)&&(rs.getD i []).all λi=>decide (i∈r)) q (sv.mono k) om λi hi Y f=>?_).mono ?_
 .have F:=(aJ.get al i hi om).mono (k.trans f)
  rw[List.getD,dC om,Option.getD_some]
  exact ZR n B K F (m.mono (k.trans f)) (by rw[f.get B om];exact y) (by have:=f.next;omega)
 rintro _ U ⟨⟨b,rfl,A⟩,G⟩
 refine aM ?_
 refine⟨?_,k.trans G⟩
 congr 1
 refine Lf.2 (A.trans ?_)
 unfold uU
 rw[List.any_eq_true]
 constructor
 .rintro⟨i,hi,e⟩
  exact⟨_,aV om,e⟩
 .rintro⟨x,hx,e⟩
  obtain⟨i,hi,rfl⟩:=rV.1 hx
  exact⟨i,om,by rw[List.getD,dC hi];exact e⟩
theorem ME {rs:LN}{i:Nat}(c:1<=i)(hi:i<rs.length):Nj (rs.take (i+1))=if lexB rs[i] (Nj (rs.take i)) then rs[i] else Nj (rs.take i):=by
 cases rs with
 |nil=>simp at hi
 |cons a l=>
  obtain⟨k,rfl⟩: ∃k,i=k+1:=⟨i- 1,om⟩
  have b:k<l.length:=by simpa using hi
  show (l.take (k+1)).foldl _ a=_;rw[List.take_succ_eq_append_getElem b,List.foldl_append]
  rfl
theorem XO (n:Nat)(Y:V)(ps:List (V×V×V))(rs:LN)(hL:L.length<=5040)(hl:rs.length<1000000)(h0:0<rs.length)(sv:SV h Y 4 (wZ n ps))(al:aJ (Nm W n L h) ps rs):
  Ev T 57 [Y,.fn 58 [] []] h (λv h'=>(∃i,∃hi:i<ps.length,v=Vb n ps[i]/\rs.getD i []=Nj rs)/\Fr h h'):=by
 have lp:=aJ.length al
 have lv:=Ww sv
 have U:0<ps.length:=om
 have one: ∀j (r:j<ps.length),ps[j].1.one=true/\ps[j].2.1.one=true/\ps[j].2.2.one=true:=λj r=>(aJ.get al j r om).one
 have d0:decide ((ps.length:Int)<1)=false:=bT om
 refine kV ?_
 obtain⟨B,hB⟩:=exI h.next
 obtain⟨h1,e1,n1,g1,q1,w⟩:=dF hB [aC 0,.aD,.aD,.aD]
 have z:=(Qo (sv.mono w) U)
 have⟨id,a6,sh,row,_⟩:=z
 obtain⟨h2,e2,n2,g2,q2,f2⟩:=dF n1 [aC 0,.aD,.aD,.aD]
 obtain⟨h3,e3,n3,g3,q3⟩:=lU h2 (B+1) (Aa n ps[0])
 obtain⟨o1,o2,o3⟩:=one 0 U
 have ix:=sh.ixa .i64 0 om om
 simp only[Int.toNat_zero] at ix
 simp(disch:=omega)only[go_sem,aI,hB,e1,lv,d0,ix,row,n1,e2,mB h2 (B+1) 0 (a:= aC n) (b:=ps[0].1) (c:=ps[0].2.1) (d:=ps[0].2.2) rfl o1 o2 o3,g2,kY,e3]
 have J:Fr h1 h3:=⟨om,λq O=>by rw[q3 q om,q2 q om]⟩
 have F3:=w.trans J
 refine aH (λk' t o=> ∃(i j:Nat),(∃g:Nat->V,t= [Y,.fn 58 [] [],.ptr B 0,.ptr (B+1) 0,aC i,g 5,g 6,g 7])/\1<=i/\i<=ps.length/\(∃r:j<ps.length,o.get (B+1)=some (.cells false (Aa n ps[j])))/\rs.getD j []=Nj (rs.take i)/\B+1<o.next/\Fr h1 o/\k'=ps.length-i) (ps.length- 1)
  ⟨1,0,aB rfl,om,om,⟨U,g3⟩,?_,om,J,rfl⟩ ?_
 .cases rs with
  |nil=>simp at h0
  |cons a l=>rfl
 rintro k' t o ⟨i,j,⟨g,rfl⟩,a4,hi,⟨r,gj⟩,P,nB,f,rfl⟩
 have gB:o.get B=some (.cells false [aC 0,.aD,.aD,.aD]):=by rw[f.get B om];exact g1
 obtain⟨w1,w2,w3⟩:=one j r
 by_cases A:(i:Int)<(ps.length:Int)
 case neg=>
  have d1:=bT A;obtain rfl:i=ps.length:=om
  obtain⟨y,e4,n4,g4,q4⟩:=lU o B (Aa n ps[j]);rw[lp,List.take_length] at P;refine qL lv d1 (gZ gj) (mB o B 0 (a:= aC n) (b:=ps[j].1) (c:=ps[j].2.1) (d:=ps[j].2.2) rfl w1 w2 w3) gB @kY e4 (gZ g4) ?_;exact⟨⟨j,r,rfl,P⟩,⟨by have:=(w.trans f).next;omega,λq O=>by rw[q4 q om,(w.trans f).get q O]⟩⟩
 have d1:=cJ A
 have p:i<ps.length:=om
 obtain⟨a5,G,F,s,a0⟩:=Qo (sv.mono (w.trans f)) p
 have mi:=aJ.get al i p om
 have mj:=aJ.get al j r om
 have Z: ∀k,o.next<=k->Fr o (H.mk o.tr k):=λk hk=>(Fr.refl o).bU hk
 refine iT lv d1 @F.ixa s (gZ gj) ?_
 refine (CV n hL (mi.mono ((w.trans f).trans (Z _ om))) (mj.mono ((w.trans f).trans (Z _ om)))).mono ?_
 rintro _ y ⟨rfl,f4⟩
 have m:=(Z _ om).trans f4
 have u:y.get (B+1)=some (.cells false (Aa n ps[j])):=by rw[m.get _ nB];exact gj
 have r4:y.row a5 (G+i*4) 4=some (Aa n ps[i]):=by rw[Zg m a0];exact s
 have R:=mi.eq
 have ej:=mj.eq
 refine qL (gZ u) r4 @R.1 @R.2.1 @R.2.2 @ej.1 @ej.2.1 @ej.2.2 ?_
 have N:=ME (rs:=rs) a4 om
 have lx:=Rl rs[i] rs[j]
 have x:rs[j]=Nj (rs.take i):=by rw[<-P,List.getD,dC om];rfl
 have n4:=m.next
 by_cases K:Bw rs[i] rs[j]<0
 .have Q:=cJ K
  rw[bL (by rw[<-x];exact lx.1 K)] at N
  obtain⟨a1,a2,a3⟩:=one i p
  obtain⟨h5,e5,n5,g5,q5⟩:=lU y (B+1) (Aa n ps[i])
  refine uA Q @F.ixa r4 (mB y (B+1) 0 (a:= aC n) (b:=ps[i].1) (c:=ps[i].2.1) (d:=ps[i].2.2) rfl a1 a2 a3) u @kY e5 ?_
  rw[eJ i]
  exact⟨ps.length-(i+1),om,i+1,i,aB rfl,om,om,⟨p,g5⟩,by rw[N,List.getD,dC om];rfl,om,⟨by have:=f.next;omega,λq O=>by rw[q5 q om,m.get q (by have:=f.next;omega),f.get q O]⟩,rfl⟩
 .have Q:=bT K
  rw[bV (by rw[<-x];exact λh=>K (lx.2 h))] at N
  refine bE Q ?_
  rw[eJ i]
  exact⟨ps.length-(i+1),om,i+1,j,aB rfl,om,om,⟨r,u⟩,by rw[N];exact P,om,f.trans m,rfl⟩
end
structure zF (n:Nat)(G:List Nat->Prop)(L:LN)(r:List Nat):Prop where
 rk:Rk L (RG L r) r
 cX:eM n (RG L r)
 nm: ∀y g,RG L r y->G g->RG L r (aX y g)
 le: ∀x,RG L r x->G x
section
variable {n:Nat} {G:List Nat->Prop} {L:LN} {K r:List Nat} {i:Nat} (hG:eM n G) (E:dR G L)
include hG E
omit hG in
theorem zF.Km {N:List Nat->Prop}(a:eM n N)(le: ∀x,N x->G x)(b: ∀y g,N y->G g->N (aX y g)):zF n G L (Km L N):=by
 have k:=xW L N;have e:N=RG L (Go.Proofs.YtcdbmkidaecdiaaGreat.Km L N):=funext λx=>propext (k.iff E le x)
 exact⟨k.self E,by rw[<-e];exact a,by rw[<-e];exact b,by rw[<-e];exact le⟩
theorem afD:zF n G L (Km L λx=>x=bC n):=
 zF.Km E (Ik n) (λx h=>by rw[h];exact hG.one) λy g b a=>by rw[b];exact mQ (hG.bM a)
theorem Nt (k:zF n G L r)(hi:i<L.length):zF n G L (zX n G L r i):=by
 have a:=tY E hi;exact zF.Km E (Gt.cX hG k.le a) (λx h=>Gt.le hG k.le a h) λy g c b=>NC.cj c b
omit hG E in
theorem Bm (j:Nat):j∈zX n G L r i↔j<L.length/\Gt n G (RG L r) (L.getD i []) (L.getD j []):=(xW L _).mem j
omit hG E in
theorem Hv (k:zF n G L r)(hi:i<L.length)(d:i∉r):(∀x∈r,x∈zX n G L r i)/\i∈zX n G L r i/\r.length<(zX n G L r i).length:=by
 have a: ∀x∈r,x∈zX n G L r i:=λx c=>(Bm x).2 ⟨((k.rk.mem x).1 c).1,NC.of (.inl ⟨x,c,rfl⟩)⟩
 have b:i∈zX n G L r i:=(Bm i).2 ⟨hi,NC.of (.inr rfl)⟩;refine⟨a,b,?_⟩;have nd:(i::r).Nodup:=List.nodup_cons.2 ⟨d,k.rk.asc.imp λh=>Nat.ne_of_lt h⟩
 have:=List.Nodup.length_le_of_subset (l₂:=zX n G L r i) nd λx c=>by
  rcases uL.1 c with rfl|c
  .exact b
  .exact a x c
 rw[List.length_cons] at this;omega
theorem PI (k:zF n G L r)(m:vB n G L K)(p:r.length<L.length):SQ n G L r K≠ []:=by
 intro e
 have all: ∀i,i∈K->i∈r:=λi hi=>zQ λf=>by
  have:zX n G L r i∈SQ n G L r K:=Ii.2 ⟨i,hi,f,rfl⟩;rw[e] at this;cases this
 have: ∀j,j<L.length->j∈r:=λj b=>by
  obtain⟨s,q,h,g,c,e⟩:=Pb hG E b;have l:s∈K:=m.perm.mem_iff.2 (kX.2 ⟨om,h⟩);obtain⟨t,a,o⟩:=k.nm _ _ ⟨s,all s l,rfl⟩ c;have:t=j:=tT E.nodup ((k.rk.mem t).1 a).1 b (o.trans e);rw[<-this];exact a
 have:=List.Nodup.length_le_of_subset (l₁:=List.range L.length) (l₂:=r) List.nodup_range λx d=>this x (wY.1 d)
 rw[Ng] at this;omega
theorem vD (k:zF n G L r)(m:vB n G L K)(v:r.length<L.length):(∃i,i∈K/\i∉r/\Dv n G L K r=zX n G L r i)/\zF n G L (Dv n G L K r)/\r.length<(Dv n G L K r).length/\
  ∀j,j∈K->j∉r->(∀x∈zX n G L r j,x∈Dv n G L K r)->zX n G L r j=Dv n G L K r:=by
 have o:=CN (BJ (PI hG E k m v))
 have e:Nj (HT (SQ n G L r K))=Dv n G L K r:=rfl
 rw[e] at o
 obtain⟨u,p⟩:=Re.1 o
 obtain⟨i,hi,c,e⟩:=Ii.1 u
 have a:=m.lt hi
 refine⟨⟨i,hi,c,e⟩,by rw[e];exact Nt hG E k a,by rw[e];exact (Hv k a c).2.2,λj s l b=>?_⟩
 have q:=(Nt hG E k (m.lt s)).rk
 have w:Rk L (RG L (Dv n G L K r)) (Dv n G L K r):=by rw[e];exact (Nt hG E k a).rk
 have t:=q.asc.imp λh=>Nat.ne_of_lt h
 have z:=List.Nodup.length_le_of_subset t b
 have A:(Dv n G L K r).length<=(zX n G L r j).length:=by
  refine Nat.le_of_not_lt λh=>?_
  rw[Bool.not_eq_true'] at p;have:=List.any_eq_false.1 p _ (Ii.2 ⟨j,s,l,rfl⟩);rw[rG,tU,vE] at this;exact this ⟨h,λx f=>cJ (b x f)⟩
 refine sX q.asc w.asc λx=>⟨b x,λf=>zQ λc=>?_⟩
 have:=List.Nodup.length_le_of_subset (List.nodup_cons.2 ⟨c,t⟩) (l₂:=Dv n G L K r) λy d=>by
  rcases uL.1 d with rfl|d
  .exact f
  .exact b y d
 rw[List.length_cons] at this
 omega
end
structure zS (n:Nat)(G:List Nat->Prop)(L:LN)(K:List Nat)(rs:LN)(r:List Nat):Prop where
 hd:rs[0]? =some (Km L λx=>x=bC n)
 st: ∀k a b,rs[k]? =some a->rs[k+1]? =some b->a.length<L.length/\b=Dv n G L K a
 la:rs[rs.length- 1]? =some r
 all: ∀a∈rs,zF n G L a
 len:rs.length<=r.length
structure zK (n:Nat)(G:List Nat->Prop)(L:LN)(K:List Nat)(rs:LN):Prop where
 ex: ∃r,zS n G L K rs r/\r.length=L.length
section
variable {n:Nat} {G:List Nat->Prop} {L:LN} {K r:List Nat} {rs:LN} (hG:eM n G) (E:dR G L)
include hG E
theorem zS.start:zS n G L K [Km L λx=>x=bC n] (Km L λx=>x=bC n):=by
 refine⟨rfl,λk a b f d=>by simp at d,rfl,λa c=>by rw[List.mem_singleton.1 c];exact afD hG E,?_⟩;obtain⟨i,hi,e⟩:=rV.1 ((E.mem _).2 hG.one);have:i∈Km L λx=>x=bC n:=((xW L _).mem i).2 ⟨hi,by rw[List.getD,dC hi];exact e⟩
 exact Ss this
theorem zS.push (c:zS n G L K rs r)(t:vB n G L K)(m:r.length<L.length):zS n G L K (rs++ [Dv n G L K r]) (Dv n G L K r):=by
 have o:0<rs.length:=by
  have:=(rW.1 c.hd).1;exact this
 have p:zF n G L r:=c.all r (Oc c.la);obtain⟨_,q,v,_⟩:=vD hG E p t m;refine⟨by rw[wU o];exact c.hd,λk a b f d=>?_,by rw[iB];show (rs++_)[rs.length+1- 1]? =_;rw[Nat.add_sub_cancel,zT (eU _),Nat.sub_self];rfl,λa s=>?_,by rw[iB];show rs.length+1<=_;have:=c.len;omega⟩
 .by_cases e:k+1<rs.length
  .rw[wU om] at f
   rw[wU e] at d;exact c.st k a b f d
  .have j:=(rW.1 d).1
   rw[iB] at j;have j:k+1<rs.length+1:=j;have u:k+1=rs.length:=om
   rw[wU om] at f;rw[zT om,u,Nat.sub_self] at d;have l:=c.la;rw[show rs.length- 1=k by omega] at l;rw[l] at f;cases f;cases d;exact⟨m,rfl⟩
 .rcases jO.1 s with h|h
  .exact c.all a h
  .rw[List.mem_singleton.1 h];exact q
end
def wV (W:Nat->Prop)(n:Nat)(L:LN)(h:H)(p:V×V)(r:List Nat):Prop:= ∃O R,GC W h (.agg [aC n,p.1,p.2]) n O R (RG L r)
theorem wV.go {W W':Nat->Prop}{n:Nat}{L:LN}{h h':H}{p:V×V}{r:List Nat}(g:wV W n L h p r)(f:Fx W h h')(a: ∀q,q<h.next->W' q->W q):wV W' n L h' p r:=by
 obtain⟨O,R,g⟩:=g;exact⟨O,R,g.go f a⟩
structure WkJ (n:Nat)(L:LN)(Q:Nat)(h0 hh:H)(fd:LN):Prop where
 g8:hh.get (Q+1)=bG [.ptr Q 0]
 ex: ∃vf,hh.get Q=bG [vf]/\NmL (λq=>q<Q+2) n L (Q+2) hh vf fd
 fr:Fr h0 hh
 nx:Q+2<=hh.next
 len:fd.length<=6000
theorem Sh {n:Nat}{G:List Nat->Prop}{L:LN}{r:List Nat}:(K:List Nat)->(l:LN)->(K.foldl (λl i=>if i∈r then l else uC l (zX n G L r i)) l).length<=l.length+K.length
 | [],l=>eU _
 |k::K,l=>by
  rw[List.foldl_cons,List.length_cons];refine kP (Sh K _) ?_;split
  .omega
  .unfold uC
   split
   .omega
   .rw[iB];show l.length+1+_<=_;omega
theorem Ru {α:Type}[Inhabited α](l:List (List α))(f:List α->Bool):oK (λi=>f (l.getD i [])) l=l.filter λa=>!f a:=by
 have b: ∀i,i<=l.length->oK (λi=>f (l.getD i [])) (l.take i)=(l.take i).filter λa=>!f a:=by
  intro i
  induction i with
  |zero=>exact λ_=>rfl
  |succ i ih=>
   intro hi;rw[qE om,ih om,List.take_succ_eq_append_getElem om,List.filter_append,List.getD,dC om,Option.getD_some];cases h:f l[i]<;>simp [h]
 have:=b l.length (eU _);rwa [List.take_length] at this
def Vs (h:H):V->Option (V×H)
 | .nilm=>some (aC 0,h)
 | .mp id=>match h.get id with|some (.wmap _ es)=>some (aC es.length,h)|_=>none
 |_=>none
theorem Vk (ρ:X->V)(h:H)(x:X):fJ ρ h (.lenm x)=Vs h (ρ x):=by
 simp only[fJ,Vs]
 rfl
theorem LJ {h:H}{M:Nat}{L:LN}(g:h.get M=some (.wmap .str (Fg L L.length))):Vs h (.mp M)=some (aC (L.length:Int),h):=by
 show (match h.get M with|some (.wmap _ es)=>some (aC es.length,h)|_=>none)=_;rw[g];simp [Fg]
theorem Xt {W0:Nat->Prop}(vc:V)(n:Nat)(O:LN)(R:iA)(G:List Nat->Prop)(h:H)(gc:GC W0 h vc n O R G):
  Ev T 12 [vc] h (λv h'=> ∃vl ls L K rs,v= .tup [vl,aC 0]/\bZ O R n 0 (bC n)=L/\vB n G L K/\zK n G L K rs/\SV h' vl 3 (Dk n ls)/\aJ (wV (λ_=>False) n L h') ls rs/\Fr h h'):=by
 obtain⟨vO,vR,rfl,f7,e7⟩:=gc.shape
 obtain⟨A,hA⟩:=exI h.next
 obtain⟨h1,e1,n1,g1,q1,f1⟩:=dF hA [aC n,vO,vR]
 refine pY (aU h (v:= aC n) (u:=vO) (w:=vR) rfl f7 e7) hA e1 (aE g1) ?_
 refine (WU _ n O R G h1 (gc.mono f1)).mono ?_
 rintro _ J ⟨T0,L,K,rfl,Dw,f2⟩
 obtain⟨ll,E,hG,n3,n0,n7⟩:=Dw.few
 have ik:=Dw.isK
 have eL:=Dw.hL
 have F2:=f1.trans f2
 refine aM ?_
 refine bI (λhc=>(hc rfl).elim) (λ_=>?_)
 refine aM ?_
 refine (VG T0 n O R G L K J Dw).mono ?_
 rintro _ h3 ⟨p0,rfl,c9,f3⟩
 obtain⟨o1,o2,o3⟩:=c9.one
 obtain⟨y,h0⟩:=exI h3.next
 obtain⟨h4,e4,n4,g4,q4,f4⟩:=dF h0 [aC 0,.aD,.aD,.aD]
 obtain⟨h5,e5,n5,g5,q5⟩:=lU h4 y (Aa n p0)
 obtain⟨h6,e6,n6,g6,q6,f6⟩:=dF (h:=h5) (n5.trans n4) [aC n,p0.1,p0.2.1]
 have i4:{t:H}->{id:Nat}->{a b c d:V}->t.get id=bG [a,b,c,d]->t.row id 0 3=some [a,b,c]:=λhg=>by simp [H.row,hg,sub]
 simp(disch:=omega)only[go_sem,h0,e4,mB h4 y 0 (a:= aC n) (b:=p0.1) (c:=p0.2.1) (d:=p0.2.2) rfl o1 o2 o3,g4,kY,e5,i4 g5,Fp h5 (d:=(n:Int)) o1 o2,n5,n4,e6]
 have n2:=f3.next
 have k7:Fr J h6:=⟨om,λq hq=>by rw[q6 q om,q5 q om,q4 q om,f3.get q hq]⟩
 have g2:h6.get y=bG (Aa n p0):=by rw[q6 _ om];exact g5
 have k4:Fr h3 h6:=⟨om,λq hq=>by rw[q6 q om,q5 q om,q4 q om]⟩
 have w0: ∀q,q<h3.next->(q=y\/dG (.sl (y+1) 0 1 (.kn 1)) q)->q<J.next:=λq h1 J=>by
  rcases J with e|⟨_,_,_,e⟩
  .omega
  .cases e;omega
 have c1:Nm (λq=>q=y\/dG (.sl (y+1) 0 1 (.kn 1)) q) n L h6 p0 (Km L λx=>x=bC n):=(c9.go (Fx.refl _ _) w0).mono k4
 obtain⟨K',m1⟩: ∃x,K=x:=⟨_,rfl⟩
 refine aH (λk' N t=> ∃(r:List Nat) (p:V×V×V) (vl:V) (ls:List (V×V)) (rs:LN),(∃g:Nat->V,N= [g 0,g 1,g 2,g 3,.ptr T0 0,g 5,.ptr y 0,vl,g 8,g 9,g 10,g 11,g 12,g 13,g 14,g 15,g 16,g 17])/\t.get y=bG (Aa n p)/\Nm (λq=>q=y\/dG vl q) n L t p r/\cW t vl 3 (Dk n ls) (y+1)/\aJ (wV (λq=>q=y\/dG vl q) n L t) ls rs/\zS n G L K rs r/\Fr J t/\y<t.next/\k'=L.length-r.length) (L.length-(Km L λx=>x=bC n).length)
  ⟨_,p0,_, [(p0.1,p0.2.1)], [Km L λx=>x=bC n],aB rfl,g2,c1,.inr ⟨y+1,1,_, [],rfl,rfl,.inr ⟨rfl,rfl⟩,om,om,g6⟩,⟨c1.ch,trivial⟩,zS.start hG E,k7,om,rfl⟩ ?_
 clear c1 w0 g2 g6 q6 q5 g5 g4 q4 c9
 rintro k' N t ⟨r,p,vl,ls,rs,⟨g,rfl⟩,g6,nm,ow,al,cb,F,l0,rfl⟩
 have kr:zF n G L r:=cb.all r (Oc cb.la)
 obtain⟨lO,lR,M,lr,gT,gM,_,i3,nM⟩:=(Dw.mono F).ex
 have lv:=nm.si.lens
 rw[aL] at lv
 have lm: ∀k,Vs (H.mk t.tr k) (.mp M)=some (aC (L.length:Int),H.mk t.tr k):=λk=>LJ gM
 by_cases d6:(r.length:Int)<(L.length:Int)
 case neg=>
  have d1:=bT d6;simp(disch:=omega)only[go_sem,H.cell_of g6,H.cell_of gT,lv,Vk,lm,d1];have fb:Fr t (H.mk t.tr (t.next+9)):=(Fr.refl t).bU om;exact⟨vl,ls,L,K,rs,rfl,eL,ik,⟨r,cb,by have:=kr.rk.short;omega⟩,ow.sv.mono fb,aJ.mono (λ_ _ x=>wV.go x (Fx.of fb) λ_ _ h=>h.elim) al,F2.trans (F.trans fb)⟩
 have d1:=cJ d6
 have hr:r.length<L.length:=om
 obtain⟨hx,a2⟩: ∃x,H.mk t.tr (t.next+9)=x:=⟨_,rfl⟩
 have fx:Fr t hx:=by rw[<-a2];exact (Fr.refl t).bU om
 have nx:hx.next=t.next+9:=by rw[<-a2]
 obtain⟨Q,hQ⟩:=exI hx.next
 obtain⟨ha,ea,na,ga,qa,fa⟩:=dF hQ [.aD]
 obtain⟨hb,eb,nb,gb,qb,fb⟩:=dF na [.nilp]
 obtain⟨hI,eI,nI,gI,qI⟩:=lU hb (Q+1) [.ptr Q 0]
 have bx:An hx (.agg [.aD])=some (.ptr Q 0,ha):=by rw[<-ea,<-hQ];rfl
 have pt:(t:H)->(id:Nat)->(u w:V)->eH (bG [u]) t id 0 [w]=some (t.set id (bG [w])):=λt id u w=>cF siM t _ _
 have fI:Fr t hI:=⟨om,λq hq=>by rw[qI q om,qb q om,qa q om,fx.get q hq]⟩
 have FI:=F.trans fI
 have i6:=(Dw.mono F).nx
 have i2: ∀h',Fr t h'->h'.get T0=bG [aC n,lO,lR,.mp M,lr]:=λh' f=>by rw[f.get T0 i6];exact gT
 have b5: ∀h',Fr t h'->h'.get y=bG (Aa n p):=λh' f=>by rw[f.get y l0];exact g6
 have kl:K.length<=L.length:=by
  have:=List.Nodup.length_le_of_subset (l₂:=List.range L.length) ik.nd λx hx=>wY.2 (ik.lt hx)
  rwa [Ng] at this
 have i5:=i3.lens
 simp only[fL] at i5
 have j7:Vs hx (.mp M)=some (aC (L.length:Int),hx):=by rw[<-a2];exact lm _
 simp(disch:=omega)only[go_sem,a2,H.cell_of (b5 hx fx),H.cell_of (i2 hx fx),lv,Vk,j7,d1,show oN [.aD] []=some (.agg [.aD]) from rfl,a2,bx,na,eb,kO (show (V.ptr Q 0).cells= [V.ptr Q 0] from rfl) rfl,gb,pt,eI,H.cell_of (i2 hI fI),i5]
 obtain⟨fs,a0⟩: ∃f:LN->Nat->LN,(λl i=>if i∈r then l else uC l (zX n G L r i))=f:=⟨_,rfl⟩
 have i9: ∀i,i<=K.length->((K.take i).foldl fs []).length<=i:=λi hi=>by
  have:=Sh (n:=n) (G:=G) (L:=L) (r:=r) (K.take i) [];rw[a0,wH,Nat.min_eq_left hi] at this;simpa using this
 refine bY (λvs h'=>(∃g:Nat->V,vs= [g 0,g 1,g 2,g 3,.ptr T0 0,g 5,.ptr y 0,vl,.ptr (Q+1) 0,g 9,g 10,g 11,g 12,g 13,g 14,g 15,g 16,g 17])/\WkJ n L Q t h' (SQ n G L r K)) ?_ ?_
 .refine aH (λk' N h'=> ∃(i:Nat),(∃g:Nat->V,N= [g 0,g 1,g 2,g 3,.ptr T0 0,g 5,.ptr y 0,vl,.ptr (Q+1) 0,g 9,g 10,g 11,g 12,lr,aC (K.length:Int),aC i,g 16,g 17])/\i<=K.length/\WkJ n L Q t h' ((K.take i).foldl fs [])/\k'=K.length-i) K.length
   ⟨0,aB rfl,fE _,⟨gI,⟨.aD,by rw[qI _ om,qb _ om];exact ga, [],cW.aD _ _ _,trivial,λ_ _ _ _ e=>by cases e⟩,fI,om,by show 0<=6000;omega⟩,rfl⟩ ?_
  rintro k' N h7 ⟨i,⟨g,rfl⟩,hi,W,rfl⟩
  by_cases d5:(i:Int)<(K.length:Int)
  case neg=>
   have d2:=bT d5;obtain rfl:i=K.length:=om
   rw[List.take_length,<-a0] at W;refine bE d2 ?_;exact⟨aB rfl,W⟩
  have d2:=cJ d5
  have a4:i<K.length:=om
  have F7:=W.fr
  obtain⟨id,z,ws,sh,i1,j5,hc,e0⟩:=i3.open
  simp only[fL] at sh i1 j5 hc
  have ci:h7.cell id (z+i)=some (ws.getD i .undef):=by rw[F7.cell (i1 om),hc i a4]
  have s0:=(wF e0 (i:=i) (by rw[fL];exact a4)).mono F7
  have eK:(K.map λr=>L.getD r []).getD i []=L.getD K[i] []:=by rw[List.getD,Jj,dC a4];rfl
  rw[eK] at s0
  have c3:=ik.lt (pN a4)
  generalize ws.getD i .undef=vx at ci s0
  have step:(K.take (i+1)).foldl fs []=fs ((K.take i).foldl fs []) K[i]:=by rw[List.take_succ_eq_append_getElem a4,List.foldl_append,List.foldl_cons,List.foldl_nil]
  have a5:=i9 (i+1) om
  rw[step] at a5
  obtain⟨B,a8⟩:=exI ((K.take i).foldl fs [])
  rw[a8] at W step a5
  obtain⟨k,hk⟩:=exI (K[i])
  rw[hk] at s0 c3 step a5
  refine gX d2 @sh.ixa ci (gZ (b5 h7 F7)) ?_
  refine (VI T0 p vx n O R G L K r k h7 (Dw.mono (F.trans F7)) (nm.mono F7) c3 s0).mono ?_
  rintro _ h8 ⟨rfl,Z⟩
  have W8:WkJ n L Q t h8 B:=by
   obtain⟨vf,gQ,ml⟩:=W.ex;have:=W.nx;have:=Z.next;exact⟨by rw[Z.get _ om];exact W.g8,⟨vf,by rw[Z.get _ om];exact gQ,ml.mono Z⟩,F7.trans Z,om,W.len⟩
  by_cases a7:k∈r
  .have d3:=cJ a7
   rw[<-a0] at step
   simp only[bL a7] at step
   simp(disch:=omega)only[go_sem,d3,Bool.not_true]
   rw[eJ i]
   exact⟨K.length-(i+1),om,i+1,aB rfl,om,by rw[<-a0,step];exact W8,rfl⟩
  .have d3:=bT a7
   rw[<-a0] at step a5
   simp only[bV a7] at step a5
   have F8:=W8.fr
   have b0: ∀m,h8.next<=m->Fr h8 (H.mk h8.tr m):=λm hm=>(Fr.refl h8).bU hm
   simp(disch:=omega)only[go_sem,d3,Bool.not_false,H.cell_of W8.g8,gZ (b5 h8 F8)]
   refine (ON T0 p vx n O R G L K r k _ (Dw.mono (F.trans (F8.trans (b0 _ om)))) (nm.mono (F8.trans (b0 _ om))) c3 (s0.mono (Z.trans (b0 _ om)))).mono ?_
   rintro _ h9 ⟨q,rfl,nq,f9⟩
   have a3:=(b0 _ om).trans f9
   have F9:=F8.trans a3
   obtain⟨vf,j1,ml⟩:=W8.ex
   have n8:=W8.nx
   have n9:=a3.next
   have i0:h9.get (Q+1)=bG [.ptr Q 0]:=by rw[a3.get _ om];exact W8.g8
   have k0:h9.get Q=bG [vf]:=by rw[a3.get _ om];exact j1
   have c5: ∀s,dG vf s->s<h8.next:=λs ⟨z,m,c,e⟩=>by
    obtain⟨ps,o,_⟩:=ml.ex;exact (o.in _ _ _ _ e).1
   have k1:Nm (λq=>q<Q+2\/dG vf q) n L h9 q (zX n G L r k):=nq.go (Fx.refl _ _) λs _ h=>by
    rcases h with h|h
    .show s<h8.next+6
     omega
    .have:=c5 s h
     show s<h8.next+6;omega
   have eQ:dM (.ptr Q 0) (.ptr Q 0)=true:=by simp [dM]
   have e9: ∀s,dG vf s->Q+2<=s:=λs ⟨z,m,c,e⟩=>by
    obtain⟨ps,o,_⟩:=ml.ex;exact (o.in _ _ _ _ e).2.1
   simp(disch:=omega)only[go_sem,H.cell_of i0,eQ]
   refine (ZA n L (Q+2) Q vf B q _ h9 (ml.mono a3) om k1 k0 om (λh=>by have:=e9 Q h;omega) (by show Q<Q+2;omega) ll (by have:=W8.len;omega)).mono ?_
   rintro _ U ⟨rfl,j2,i7,k9,b9,_⟩
   have k6:=b9.next
   have nh:=F9.next
   refine aM ?_
   rw[eJ i]
   have d9: ∀s,s≠Q->s<Q+2->U.get s=h9.get s:=λs h1 J=>b9.get s om λh=>h.elim (λh=>h1 h) λh=>by have:=e9 _ h;omega
   have l2:WkJ n L Q t U (uC B (zX n G L r k)):=⟨by rw[d9 _ om om];exact i0,⟨j2,i7,k9⟩,⟨om,λs hq=>by rw[d9 s om om];exact F9.get s hq⟩,om,om⟩
   exact⟨K.length-(i+1),om,i+1,aB rfl,om,by rw[<-a0,step];exact l2,rfl⟩
 rintro N h7 ⟨⟨g,rfl⟩,W⟩
 obtain⟨vf,g9,ml⟩:=W.ex
 obtain⟨ps,d4,c6,_⟩:=ml.ex
 have F7:=W.fr
 have m4:=W.nx
 have d0:=PI hG E kr ik hr
 obtain⟨B,a8⟩:=exI (SQ n G L r K)
 rw[a8] at W ml c6 d0
 have m2:=aJ.length c6
 have l6:0<B.length:=List.length_pos_iff.2 d0
 have fl:=W.len
 simp(disch:=omega)only[go_sem,H.cell_of W.g8,H.cell_of g9]
 refine (FQ vf (wZ n ps) ps.length h7 (pE n ps) om om d4.sv).mono ?_
 rintro _ h8 ⟨b6,l1,g0,rfl,f5,l5,e3,j3,Z⟩
 refine aM ?_
 have c5: ∀s,dG vf s->s<h7.next:=λs ⟨z,m,c,e⟩=>(d4.in _ _ _ _ e).1
 have c8:aJ (Nm (λq=>q<Q+2\/q=b6) n L h8) ps B:=aJ.mono (λ_ _ x=>Nm.go x (Fx.of Z) λs h1 J=>J.imp id λe=>om) c6
 refine (abK b6 ps.length l1 g0 53 [.ptr (Q+1) 0] n ps (λi=>uU B (B.getD i [])) h8 e3 j3 f5 rfl om om (λs hq=>?_) λi hi h' a6=>?_).mono ?_
 .obtain⟨i,hi,rfl⟩:=rV.1 hq
  exact (aJ.get c8 i hi om).one
 .have n8:=Z.next
  have n':=a6.next
  have e8:aJ (Nm (λq=>q<Q+2) n L h') ps B:=aJ.mono (λ_ _ x=>Nm.go x (Fx.wide a6 λs h=> .inr h) λs _ h=> .inl h) c8
  have mi:=aJ.get e8 i hi om
  rw[List.getD,dC om,Option.getD_some]
  refine adG n (Q+1) Q vf ps B ll om ?_ om ?_ om (SV.fx (d4.sv.mono Z) (W:=λq=>q=b6) ?_ a6) e8 mi
  .rw[a6.get _ om om,Z.get _ om];exact W.g8
  .rw[a6.get _ om om,Z.get _ om];exact g9
  .cases vf with
   |sl q z m c=>exact λ(e:q=b6)=>by have:=c5 q ⟨z,m,c,rfl⟩;omega
   |_=>trivial
 rintro vk h9 ⟨g7,c7⟩
 have n8:=Z.next
 have n9:=c7.next
 have Y:=Zz (P:=λi=>uU B (B.getD i [])) (aJ.mono (λ_ _ x=>Nm.go (W':=λq=>q<Q+2) x (Fx.wide c7 λs h=> .inr h) λs _ h=> .inl h) c8)
 have ek:oK (λi=>uU B (B.getD i [])) B=HT B:=Ru B _
 rw[ek] at Y
 have k5:=List.length_pos_iff.2 (BJ d0)
 have o0:(HT B).length<=B.length:=List.length_filter_le _ _
 obtain⟨pk,j8⟩:=exI (oK (λi=>uU B (B.getD i [])) ps)
 rw[j8] at g7 Y
 refine aM ?_
 refine (XO n vk pk (HT B) ll om k5 g7 Y).mono ?_
 rintro _ U ⟨⟨j,hj,rfl,k3⟩,c2⟩
 have k6:=c2.next
 have Fm:Fr t U:=⟨by have:=F7.next;omega,λs hq=>by
  have:=F7.next;rw[c2.get s om,c7.get s om om,Z.get s om]
  exact F7.get s hq⟩
 have j6:Nj (HT B)=Dv n G L K r:=by rw[<-a8];rfl
 have mj:=(aJ.get Y j hj (by have:=aJ.length Y;omega)).mono c2
 have ej:(HT B)[j]'(by have:=aJ.length Y;omega)=Dv n G L K r:=by rw[<-j6,<-k3,List.getD,dC (by have:=aJ.length Y;omega)];rfl
 rw[ej] at mj
 generalize pk[j]=pn at mj
 obtain⟨o1,o2,o3⟩:=mj.one
 have d8:=b5 U Fm
 obtain⟨b2,k8,m7,f0,c4⟩:=lU U y (Aa n pn)
 obtain⟨C,hC⟩:=exI b2.next
 obtain⟨b4,j4,m8,j9,a1,m6⟩:=dF hC [aC n,pn.1,pn.2.1]
 have m0:=Fm.next
 have b1: ∀s,dG vl s->y+1<=s/\s<t.next:=λs ⟨z,m,c,e⟩=>by
  have:=ow.in _ _ _ _ e;omega
 have i8: ∀s,dG vl s->s≠y:=λs hb=>by have:=b1 s hb;omega
 have m3:=aJ.length al
 have l9:=cb.len
 have o4:=kr.rk.short
 have k2: ∀s,s<b2.next->b4.get s=b2.get s:=λs h=>a1 s om
 have l7:Fx (· =y) U b4:=⟨om,λs h1 J=>by rw[a1 s om,c4 s J]⟩
 have g3:cW b4 vl 3 (Dk n ls) (y+1):=ow.qX om λid z m c e h=>by
  have:=b1 id ⟨z,m,c,e⟩;rw[a1 _ om,c4 _ om];exact Fm.get id h
 obtain⟨b3,l4,a9⟩:=(g3.le (fE _)).push (bytes:=56) (SV.all (sz:=3) (len:=1) (vs:= [aC n,pn.1,pn.2.1]) rfl om j9 (.kn 1)) (n:=ls.length) (m:=1) (iU n ls) rfl om om om
 have m5:=a9.next
 refine uG (mB U y 0 (a:= aC n) (b:=pn.1) (c:=pn.2.1) (d:=pn.2.2) rfl o1 o2 o3) d8 @kY k8 (i4 f0) (Fp b2 (d:=(n:Int)) o1 o2) hC j4 l4 ?_
 have nF:=F.next
 have ap: ∀s,¬dG vl s->dS vl s:=λs h id z m c e e2=>h (by rw[e,e2];exact⟨_,_,_,rfl⟩)
 have b7:Fx (λq=>q=y\/dG vl q) U b3:=⟨om,λs h1 J=>by rw[a9.old s om (ap s λh=>J (.inr h)),a1 s om,c4 s λh=>J (.inl h)]⟩
 have c0:Fx (λq=>q=y\/dG vl q) t b3:=⟨om,λs h1 J=>by rw[b7.get s om J];exact Fm.get s h1⟩
 have l3:Fr J b3:=⟨om,λs hq=>by rw[c0.get s om λh=>h.elim (λh=>om) λh=>by have:=b1 s h;omega];exact F.get s hq⟩
 have b8:Nm (λq=>q=y\/dG (.sl b4.next 0 (ls.length+1) (.un 3)) q) n L b3 pn (Dv n G L K r):=mj.go (Fx.wide b7 λs h=>h.elim (λh=>(by omega:s<Q+2)) λh=>(by have:=b1 s h;omega:s<Q+2)) λs h1 J=>J.elim (λh=>(by omega:s<Q+2)) λ⟨z,m,c,e⟩=>by cases e;omega
 obtain⟨UO,j0,l8,_⟩:=vD hG E kr ik hr
 have m9:=j0.rk.short
 have d7:=a9.own (b:=y+1) (iU n ls) rfl om
 refine⟨L.length-(Dv n G L K r).length,om,Dv n G L K r,pn,_,ls++ [(pn.1,pn.2.1)],rs++ [Dv n G L K r],aB rfl,?_,b8,by rw[Ie];exact d7,aJ.append (aJ.mono (λ_ _ x=>wV.go x c0 λs h1 J=>J.imp id λ⟨z,m,c,e⟩=>by cases e;omega) al) ⟨b8.ch,trivial⟩,cb.push hG E ik hr,l3,om,rfl⟩
 rw[a9.old y om (ap y λh=>i8 y h rfl),a1 y om]
 exact f0
section
variable {n:Nat} {G K:List Nat->Prop} {O O':List (List Nat)} {R R':List (List (List Nat))} {x:List Nat} {L:List (List Nat)} {r s:List Nat}
theorem NP (j:eM n G)(c:bA n G O R)(o:eM n K)(d:bA n K O' R')(le: ∀x,K x->G x)(p:G x)(y:List Nat):NC n (· ∈R'.flatten++ [x]) (· ∈R.flatten) y↔Gt n G K x y:=by
 have q: ∀a,a∈R'.flatten++ [x]->aY n a:=λa l=>(jO.1 l).elim (λh=>o.bM (iD d a h)) λh=>by rw[List.mem_singleton.1 h];exact j.bM p
 have m: ∀b,b∈R.flatten->aY n b:=λb h=>j.bM (iD c b h)
 constructor
 .intro h
  exact NC.le h (Gt.cX j le p) (λa l=>(jO.1 l).elim (λh=>NC.of (.inl (iD d a h))) λh=>NC.of (.inr (List.mem_singleton.1 h))) λy b f i=>NC.cj f (iD c b i)
 .intro h
  have k:=NC.cX q m;refine NC.le h k ?_ λy b f i=>xS k m (λy b f i=>NC.cj f i) ((Ka j c b).2 i) y f
  rintro a (h|rfl)
  .exact bX.le k (λg t=>NC.of (jO.2 (.inl t))) ((Ka o d a).2 h)
  .exact NC.of (jO.2 (.inr (List.mem_singleton.2 rfl)))
theorem acF (j:eM n (RG L r))(h:eM n (RG L s))(c:bA n (RG L r) O R)(d:bA n (RG L s) O' R')(a:Rk L (RG L r) r)(b:Rk L (RG L s) s):decide ((O,R)=(O',R'))=decide (r=s):=by
 refine decide_eq_decide.2 ⟨λe=>?_,λe=>?_⟩
 .simp only[Prod.mk.injEq] at e
  obtain⟨rfl,rfl⟩:=e;have e:RG L r=RG L s:=funext λx=>propext ((mT j c x).symm.trans (mT h d x))
  rw[<-e] at b;exact a.uniq b
 .subst e
  obtain⟨f,i⟩:=c.uniq d;rw[f,i]
end
theorem RY {W W':Nat->Prop}(vc vn:V)(n:Nat)(O O':List (List Nat))(R R':List (List (List Nat)))(G:List Nat->Prop)(L:List (List Nat))(K r:List Nat)(h:H)(gc:GC W h vc n O R G)(gn:GC W' h vn n O' R' (RG L r))(hL:bZ O R n 0 (bC n)=L)(ik:vB n G L K)(kr:zF n G L r):
  Ev T 61 [vc,vn] h (λv h'=> ∃ls,cW h' v 3 (Dk n ls) h.next/\aJ (wV (λq=>q<h.next\/dG v q) n L h') ls (SQ n G L r K)/\Fr h h'):=by
 obtain⟨vO,vR,rfl,i6,h0⟩:=gc.shape
 obtain⟨N,J,rfl,c8,e5⟩:=gn.shape
 have n0:=gc.n0
 have n7:=gc.n7
 have hG:=gc.cX
 obtain⟨E,ll⟩:=dA gc.cX gc.isc
 have p3:=dX gc
 rw[hL] at E ll
 refine kV ?_
 obtain⟨B,hB⟩: ∃B,h.next=B:=⟨_,rfl⟩
 obtain⟨h1,e1,n1,g1,o1,f1⟩:=dF hB [.int .i64 (n:Int),vO,vR]
 obtain⟨h2,e2,n2,g2,o2,f2⟩:=dF n1 [.int .i64 (n:Int),N,J]
 have bx:=aU h (v:= .int .i64 (n:Int)) (u:=vO) (w:=vR) rfl i6 h0
 have k2:=aU h1 (v:= .int .i64 (n:Int)) (u:=N) (w:=J) rfl c8 e5
 have F2:=f1.trans f2
 have a5:h2.get B=some (.cells false [.int .i64 (n:Int),vO,vR]):=by rw[f2.get _ om];exact g1
 refine qL @aI bx hB e1 k2 n1 e2 (aE a5) ?_
 refine (GW _ n O R G h2 (gc.mono F2) L hL).mono ?_
 rintro _ h3 ⟨vl,A,ks,rfl,k7,j4,al,f3⟩
 obtain rfl:=k7.uniq ik
 have lk:=aJ.length al
 have kl:A.length<=L.length:=by
  have:=List.Nodup.length_le_of_subset (l₂:=List.range L.length) ik.nd λx hx=>wY.2 (ik.lt hx)
  rwa [Ng] at this
 have f7:bH vl=some (.int .i64 (A.length:Int)):=by unfold bH;rw[SV.len j4 (n:=A.length) (by rw[fS,lk]) om];rfl
 obtain⟨b5,Lw,e0,a1,b7⟩:=SV.shape j4 A.length (by rw[fS,lk]) om
 obtain⟨fs,c5⟩: ∃f:List (List Nat)->Nat->List (List Nat),(λl i=>if i∈r then l else uC l (zX n G L r i))=f:=⟨_,rfl⟩
 have g0: ∀i,i<=A.length->((A.take i).foldl fs []).length<=i:=λi hi=>by
  have:=Sh (n:=n) (G:=G) (L:=L) (r:=r) (A.take i) [];rw[c5,wH,Nat.min_eq_left hi] at this;simpa using this
 have F3:=F2.trans f3
 have l3:=f3.next
 refine aM ?_
 refine aH (λk' a3 hh=> ∃(i:Nat) (Q:V) (ls:List (V×V)) (d:List (List Nat)),(∃g:Nat->V,a3= [g 0,g 1,.ptr B 0,.ptr (B+1) 0,g 4,vl,Q,.int .i64 (i:Int),g 8,g 9,g 10,g 11,g 12,g 13,g 14,g 15])/\i<=A.length/\cW hh Q 3 (Dk n ls) h3.next/\(A.take i).foldl fs []=d/\aJ (wV (λq=>q<B\/dG Q q) n L hh) ls d/\(∀a∈d,zF n G L a)/\Fr h3 hh/\k'=A.length-i) A.length
  ⟨0,.aD, [], [],aB rfl,fE _,cW.aD _ _ _,rfl,trivial,λa ha=>(by cases ha),Fr.refl _,rfl⟩ ?_
 rintro k' a3 h4 ⟨i,Q,ls,d,⟨g,rfl⟩,hi,ow,b8,j3,b3,f4,rfl⟩
 have l4:=f4.next
 have F4:=F3.trans f4
 have i4:=f3.trans f4
 by_cases e8:(i:Int)<(A.length:Int)
 case neg=>
  have d1:decide ((i:Int)<(A.length:Int))=false:=decide_eq_false e8;obtain rfl:i=A.length:=om
  rw[List.take_length,<-c5] at b8;refine cU f7 d1 ?_;refine⟨ls,ow.le (by have:=F3.next;omega),?_,F4⟩;rw[show SQ n G L r A=d from b8];exact j3
 have d1:decide ((i:Int)<(A.length:Int))=true:=decide_eq_true e8
 have d3:i<A.length:=om
 have step:(A.take (i+1)).foldl fs []=fs d A[i]:=by rw[List.take_succ_eq_append_getElem d3,List.foldl_append,List.foldl_cons,List.foldl_nil,b8]
 have g9:=g0 (i+1) om
 rw[step] at g9
 have fl:=g0 i hi
 rw[b8] at fl
 have o6:h4.get B=some (.cells false [.int .i64 (n:Int),vO,vR]):=by rw[i4.get _ om];exact a5
 have j9:h4.get (B+1)=some (.cells false [.int .i64 (n:Int),N,J]):=by rw[i4.get _ om];exact g2
 obtain⟨p1,_,_⟩:=xC (ks:=ks) (i:=i) om
 have k1:=aJ.get al i om d3
 obtain⟨a,ha⟩: ∃a,ks[i]'(show i<ks.length by omega)=a:=⟨_,rfl⟩
 rw[ha] at p1 k1
 have b4:=ik.lt (pN d3)
 obtain⟨k,hk⟩: ∃k,A[i]=k:=⟨_,rfl⟩
 rw[hk] at k1 b4 step g9
 have p2:=fS ks
 have cS:h4.cell b5 (Lw+i*3)=some a.rep:=by
  rw[f4.cell (a1 om),b7 (i*3) om];exact p1
 have b2:G (L.getD k []):=tY E b4
 have X:=hG.bM b2
 have sx:SI h4 a.rep (zi (L.getD k [])):=k1.rep.si.mono f4
 obtain⟨x,hx⟩: ∃x,L.getD k []=x:=⟨_,rfl⟩
 have g6:RG L r x↔k∈r:=by
  rw[<-hx];refine⟨λ⟨j,hj,e⟩=>?_,λh=>⟨k,h,rfl⟩⟩;rw[<-tT E.nodup ((kr.rk.mem j).1 hj).1 b4 e];exact hj
 rw[hx] at b2 X sx
 have e1:fs d k=if k∈r then d else uC d (zX n G L r k):=by rw[<-c5]
 have fb:=(Fr.refl h4).bU (n:=h4.next+12) om
 refine iT f7 d1 (aE j9) @e0.ixa cS ?_
 refine (TQ _ a.rep n O' R' (RG L r) x _ (gn.mono (F4.trans fb)) (sx.mono fb) X).mono ?_
 rintro _ o ⟨bb,rfl,i5,f5⟩
 have b1:=fb.trans f5
 have F5:=f4.trans b1
 have a4:=f3.trans F5
 have l5:=b1.next
 have j8:o.get B=some (.cells false [.int .i64 (n:Int),vO,vR]):=by rw[a4.get _ om];exact a5
 have m1:o.get (B+1)=some (.cells false [.int .i64 (n:Int),N,J]):=by rw[a4.get _ om];exact g2
 have k6:o.cell b5 (Lw+i*3)=some a.rep:=by
  rw[F5.cell (a1 om),b7 (i*3) om];exact p1
 have c2:=ow.fr b1
 have i9:aJ (wV (λq=>q<B\/dG Q q) n L o) ls d:=aJ.mono (λ_ _ x=>wV.go x (Fx.of b1) λ_ _ h=>h) j3
 cases bb with
 |true=>
  have c0:k∈r:=g6.1 (i5.1 rfl);rw[bL c0] at e1;refine aM ?_;rw[show (i:Int)+1=((i+1:Nat):Int) from om];exact⟨A.length-(i+1),om,i+1,Q,ls,d,aB rfl,om,c2,step.trans e1,i9,b3,F5,rfl⟩
 |false=>
 have c0:k∉r:=λh=>by have:=i5.2 (g6.2 h);cases this
 rw[bV c0] at e1
 have j5:=(Fr.refl o).bU (n:=o.next+17) om
 refine gX (aE j8) (aE m1) @e0.ixa k6 ?_
 refine (Hc _ n O' R' (RG L r) o _ (gn.mono (F2.trans a4)) j5).mono ?_
 rintro m8 h6 ⟨m4,b9,i3,f6⟩
 have d0:=j5.trans f6
 have l6:o.next+17<=h6.next:=f6.next
 have g5:=a4.trans d0
 have n4:=F5.trans d0
 have m3:h6.get B=some (.cells false [.int .i64 (n:Int),vO,vR]):=by rw[g5.get _ om];exact a5
 have k8:h6.get (B+1)=some (.cells false [.int .i64 (n:Int),N,J]):=by rw[g5.get _ om];exact g2
 have m6:h6.cell b5 (Lw+i*3)=some a.rep:=by
  rw[n4.cell (a1 om),b7 (i*3) om];exact p1
 have c3:=sx.mono b1
 have wx:=SV.cM c3
 have ex:=SV.dM c3
 have ec:dM vO vO=true/\dM vR vR=true/\dM N N=true/\dM J J=true:=by
  obtain⟨_,_,_,_,e,sO,_,_,sR,_,_⟩:=gc.cw;cases e;obtain⟨_,_,_,_,e,k4,_,_,n3,_,_⟩:=gn.cw;cases e;exact⟨SV.dM sO,SV.dM sR,SV.dM k4,SV.dM n3⟩
 obtain⟨h7,e7,o3,g7,o7⟩:=Ub h6 (o.next+8) h6.next [a.rep]
 have m0:Fr o h7:=⟨om,λq hq=>by rw[o7 q om,d0.get q hq]⟩
 have j1:=aJ.length i3
 rw[fL] at j1
 have n6:=Qe gn
 have c9:cW h7 m8 1 m4 (o.next+17):=b9.qX om λid a9 m c e _=>o7 id (by have:=(b9.in _ _ _ _ e).2.1;have:o.next+17<=id:=this;omega)
 obtain⟨h8,a8,p8⟩:=c9.push (bytes:=24) (SV.one om g7 (.kn 1)) (n:=R'.flatten.length) (m:=1) om rfl om om om
 have l8:=p8.next
 have b0:Fr o h8:=⟨om,λq hq=>by rw[p8.old q om (λid a9 m c e e2=>by have:=(c9.in _ _ _ _ e).2.1;omega),m0.get q hq]⟩
 have d7:=a4.trans b0
 have l1:h8.get B=some (.cells false [.int .i64 (n:Int),vO,vR]):=by rw[d7.get _ om];exact a5
 have m2:h8.get (B+1)=some (.cells false [.int .i64 (n:Int),N,J]):=by rw[d7.get _ om];exact g2
 have k0:h8.cell b5 (Lw+i*3)=some a.rep:=by
  rw[(F5.trans b0).cell (a1 om),b7 (i*3) om];exact p1
 simp(disch:=omega)only[go_sem,aE m3,aE k8,e0.ixa,m6,ex,ec.1,ec.2.1,ec.2.2.1,ec.2.2.2,cQ (H.mk h6.tr (o.next+8)) (z:= .aD) wx.1 wx.2.1,e7,a8,aE l1,aE m2,k0]
 have f8:SP h8 (.sl h7.next 0 (R'.flatten.length+1) (.un 1)) (R'.flatten++ [x]):=fG.EA (W:=λ_=>False) (p8.own (b:=0) om rfl (fE _)).sv (aJ.append (aJ.mono (λ_ _ p=>⟨p.mono b0,sJ _⟩) (Ag i3)) ⟨⟨c3.mono b0,sJ _⟩,trivial⟩)
 refine (QY _ _ n O R G (R'.flatten++ [x]) h8 (gc.mono (F2.trans d7)) (λg hg=>(jO.1 hg).elim (λh=>gn.cX.bM (iD gn.isc g h)) λh=>by rw[List.mem_singleton.1 h];exact X) (by rw[iB];show _+1<=4096;omega) f8).mono ?_
 rintro _ h9 ⟨vd,O2,R2,rfl,c1,f9⟩
 obtain⟨xO,xR,rfl,i8,g3⟩:=c1.shape
 have l9:=f9.next
 obtain⟨f0,g4,o9,j0,c6⟩:=Ub h9 (o.next+14) h9.next [.int .i64 0,.aD,.aD]
 obtain⟨F,j2,o5,d6,c7⟩:=lU f0 (o.next+14) [.int .i64 (n:Int),xO,xR]
 have m5:=xW L (Gt n G (RG L r) x)
 have l0: ∀y,Gt n G (RG L r) x y->G y:=λy h=>Gt.le hG kr.le b2 h
 have eO:zX n G L r k=Km L (Gt n G (RG L r) x):=by unfold zX;rw[hx]
 have eG: ∀y,NC n (· ∈R'.flatten++ [x]) (· ∈R.flatten) y↔RG L (zX n G L r k) y:=λy=>by
  rw[eO];exact (NP hG gc.isc gn.cX gn.isc kr.le b2 y).trans (m5.iff E l0 y)
 have a0:Fr o F:=⟨om,λq hq=>by rw[c7 q om,c6 q om,f9.get q om,b0.get q hq]⟩
 have a7:Fx (· =o.next+14) h9 F:=⟨om,λq h1 h2=>by rw[c7 q h2,c6 q h2]⟩
 have kd:=Nt hG E kr b4
 obtain⟨U,k9⟩: ∃U,zX n G L r k=U:=⟨_,rfl⟩
 rw[k9] at eG kd e1
 have gd:GC (λq=>q<h8.next/\q<o.next) F (.agg [.int .i64 (n:Int),xO,xR]) n O2 R2 (RG L U):=(c1.go (Fx.wide a7 λq (e:q=o.next+14)=>(by omega:q<h8.next)) λq _ h=>h.1).congr eG
 have d4:=F5.trans a0
 have p0:=a0.next
 have P:=c2.fr a0
 have Z:aJ (wV (λq=>q<B\/dG Q q) n L F) ls d:=aJ.mono (λ_ _ x=>wV.go x (Fx.of a0) λ_ _ h=>h) i9
 have b6:=aJ.length Z
 refine iT g4 (bW f0 (o.next+14) 0 (v:= .int .i64 (n:Int)) (u:=xO) (w:=xR) rfl i8 g3) j0 @bQ j2 ?_
 have d9:o.next+14<F.next:=om
 obtain⟨D,hD⟩: ∃D,o.next+14=D:=⟨_,rfl⟩
 rw[hD] at d6 d9 |-
 clear f8 a8 p8 c9 e7 g7 o7 c1 a7 g4 j2 j0 c6 c7
 have d5:bH Q=some (.int .i64 (d.length:Int)):=by unfold bH;rw[SV.len P.sv (n:=d.length) (by rw[iU,b6]) om];rfl
 refine bY (λvs hh=>(∃g:Nat->V,vs= [g 0,g 1,.ptr B 0,.ptr (B+1) 0,g 4,vl,Q,.int .i64 (i:Int),g 8,.ptr D 0,.bool (decide (U∈d)),g 11,g 12,g 13,g 14,g 15])/\Fr F hh) ?_ ?_
 .refine aH (λk' vs hh=> ∃(j:Nat),(∃g:Nat->V,vs= [g 0,g 1,.ptr B 0,.ptr (B+1) 0,g 4,vl,Q,.int .i64 (i:Int),g 8,.ptr D 0,.bool (decide (U∈d.take j)),.int .i64 (j:Int),g 12,g 13,g 14,g 15])/\j<=d.length/\Fr F hh/\k'=d.length-j) d.length
   ⟨0,aB rfl,fE _,Fr.refl _,rfl⟩ ?_
  rintro k' a3 hh ⟨j,⟨g,rfl⟩,hj,fh,rfl⟩
  by_cases e6:(j:Int)<(d.length:Int)
  case neg=>
   have d2:decide ((j:Int)<(d.length:Int))=false:=decide_eq_false e6;obtain rfl:j=d.length:=om
   rw[List.take_length];refine cU d5 d2 ?_;exact⟨aB rfl,fh⟩
  have d2:decide ((j:Int)<(d.length:Int))=true:=decide_eq_true e6
  have d8:j<d.length:=om
  have l7:hh.get D=some (.cells false [.int .i64 (n:Int),xO,xR]):=by rw[fh.get _ d9];exact d6
  have em:decide (U∈d.take (j+1))=(decide (U∈d.take j)||decide (d[j]=U)):=by
   rw[List.take_succ_eq_append_getElem d8];simp only[jO,List.mem_singleton,eq_comm (a:=U),Bool.decide_or]
  cases hs:decide (U∈d.take j) with
  |true=>
   rw[hs,Bool.true_or] at em;refine cU d5 d2 ?_;rw[show (j:Int)+1=((j+1:Nat):Int) from om];refine⟨d.length-(j+1),om,j+1,?_,om,fh.bU om,rfl⟩;rw[em];exact aB rfl
  |false=>
   rw[hs,Bool.false_or] at em;obtain⟨ri,ro,i7,rC⟩:=qF (P.sv.mono fh) (i:=j) om;obtain⟨Oj,Rj,gj⟩:=aJ.get Z j om d8;have kj:=b3 _ (pN d8);rw[b6] at i7;generalize ls[j]'om=pj at rC gj;generalize d[j]=aj at gj kj em;have e3: ∀m,hh.next<=m->Fr hh (H.mk hh.tr m):=λm hm=>(Fr.refl hh).bU hm
   refine iT d5 d2 @i7.ixa rC (aE l7) ?_;refine (EU _ _ n (Oj,Rj) (O2,R2) _ _ _ (gj.mono (fh.trans (e3 _ om))) (gd.mono (fh.trans (e3 _ om)))).mono ?_;rintro _ n9 ⟨rfl,k5⟩;rw[acF kj.cX gd.cX gj.isc gd.isc kj.rk kd.rk];refine aM ?_;rw[show (j:Int)+1=((j+1:Nat):Int) from om];refine⟨d.length-(j+1),om,j+1,?_,om,fh.trans ((e3 _ om).trans k5),rfl⟩;rw[em];exact aB rfl
 rintro a3 e4 ⟨⟨g,rfl⟩,Y⟩
 have o8:=Y.next
 have i0: ∀b∈uC d U,zF n G L b:=λb hb=>(Uf.1 hb).elim (b3 b) λe=>by rw[e];exact kd
 by_cases a2:U∈d
 .have e2:uC d U=d:=by unfold uC;rw[bL a2]
  rw[decide_eq_true a2]
  simp(disch:=omega)only[go_sem,Bool.not_true]
  rw[show (i:Int)+1=((i+1:Nat):Int) from om]
  exact⟨A.length-(i+1),om,i+1,Q,ls,d,aB rfl,om,P.fr Y,by rw[step,e1,e2],aJ.mono (λ_ _ x=>wV.go x (Fx.of Y) λ_ _ h=>h) Z,b3,d4.trans Y,rfl⟩
 have e2:uC d U=d++ [U]:=by unfold uC;rw[bV a2]
 rw[decide_eq_false a2]
 have g8:e4.get D=some (.cells false [.int .i64 (n:Int),xO,xR]):=by rw[Y.get _ d9];exact d6
 obtain⟨C,hC⟩: ∃C,e4.next=C:=⟨_,rfl⟩
 obtain⟨i2,l2,o4,m7,n5,i1⟩:=dF hC [.int .i64 (n:Int),xO,xR]
 have e9:=P.fr (Y.trans i1)
 have k3: ∀t,dG Q t->h3.next<=t/\t<F.next:=λt ⟨a9,m,c,e⟩=>by
  have:=P.in _ _ _ _ e;omega
 obtain⟨j6,j7,c4⟩:=e9.push (bytes:=56) (SV.all (sz:=3) (len:=1) (vs:= [.int .i64 (n:Int),xO,xR]) rfl om m7 (.kn 1)) (n:=d.length) (m:=1) (by rw[iU,b6]) rfl om om om
 have n8:=c4.next
 have ap: ∀t,¬dG Q t->dS Q t:=λt h id a9 m c e e2=>h (by rw[e,e2];exact⟨_,_,_,rfl⟩)
 simp(disch:=omega)only[go_sem,Bool.not_false,aE g8,Fp e4 i8 g3,hC,l2,j7]
 rw[show (i:Int)+1=((i+1:Nat):Int) from om]
 have a6:Fx (dG Q) F j6:=⟨om,λt h1 h2=>by rw[c4.old t om (ap t h2),i1.get t om,Y.get t h1]⟩
 have hw: ∀t,t<F.next->(t<B\/dG (.sl i2.next 0 (d.length+1) (.un 3)) t)->t<B:=λt h1 h2=>h2.elim id λ⟨a9,m,c,e⟩=>by cases e;omega
 refine⟨A.length-(i+1),om,i+1,_,ls++ [(xO,xR)],d++ [U],aB rfl,om,by rw[Ie];exact c4.own (by rw[iU,b6]) rfl om,by rw[step,e1,e2],aJ.append (aJ.mono (λ_ _ x=>wV.go x (Fx.wide a6 λq h=> .inr h) λq h1 h2=> .inl (hw q h1 h2)) Z) ⟨⟨O2,R2,?_⟩,trivial⟩,λb hb=>i0 b (by rw[e2];exact hb),⟨om,λq hq=>?_⟩,rfl⟩
 .have o0:=a4.next
  have m9: ∀t,dG Q t->t<o.next:=λt ⟨a9,m,c,e⟩=>(c2.in _ _ _ _ e).1
  refine gd.go (W':=λq=>q<B\/dG (.sl i2.next 0 (d.length+1) (.un 3)) q) (Fx.wide a6 λq h=>?_) λq h1 h2=>?_
  .have:=m9 q h
   exact⟨om,this⟩
  .have:=hw q h1 h2
   exact⟨om,om⟩
 .rw[a6.get q (by have:=d4.next;omega) λh=>by have:=k3 q h;omega]
  exact d4.get q hq
end Go.Proofs.YtcdbmkidaecdiaaGreat
namespace Go.Proofs.YtcdbmkidaecdiaaGreat
open Go Go.Ay Go.Pm Go.Sort
theorem Xo: ∀a:List Nat,lexB a a=false
 | []=>rfl
 |a::l=>by unfold lexB;rw[bL rfl];exact Xo l
theorem Bg:{a b c:List Nat}->lexB a b=true->lexB b c=true->lexB a c=true
 | [], [],_,h,_=>by cases h
 | [],_::_, [],_,h=>by cases h
 | [],_::_,_::_,_,_=>rfl
 |_::_, [],_,h,_=>by cases h
 |_::_,_::_, [],_,h=>by cases h
 |x::a,y::b,z::c,h1,h2=>by
  unfold lexB at h1 h2 |-;split at h1
  .rename_i e
   subst e;split at h2
   .rename_i e;rw[bL e];exact Bg h1 h2
   .rename_i e;rw[bV e];exact h2
  .rename_i e
   have:=of_decide_eq_true h1;split at h2
   .rename_i d
    subst d;rw[bV e];exact h1
   .have f:=of_decide_eq_true h2
    rw[bV om];exact cJ om
theorem Um:{a b:List Nat}->lexB a b=false->lexB b a=false->a=b
 | [], [],_,_=>rfl
 | [],_::_,h,_=>by cases h
 |_::_, [],_,h=>by cases h
 |x::a,y::b,h1,h2=>by
  unfold lexB at h1 h2;split at h1
  .rename_i e
   subst e;rw[bL rfl] at h2;rw[Um h1 h2]
  .rename_i e
   rw[bV (Ne.symm e)] at h2;have d:=of_decide_eq_false h1;have c:=of_decide_eq_false h2;omega
def XH (a b:List Nat):Int:=if (a.length:Int)≠b.length then (a.length:Int)-b.length else Bw a b
def ltN (a b:List Nat):Bool:=decide (XH a b<0)
theorem BY (a b:List Nat):ltN a b=true↔a.length<b.length\/a.length=b.length/\lexB a b=true:=by
 unfold ltN XH;rw[tU];split
 .omega
 .rw[Rl]
  constructor
  .exact λh=> .inr ⟨om,h⟩
  .rintro (h|h)
   .omega
   .exact h.2
theorem abX (a b:List Nat):ltN a b=false↔ ¬(a.length<b.length\/a.length=b.length/\lexB a b=true):=by
 rw[<-BY,Bool.not_eq_true]
theorem zC:SWO ltN where
 irrefl x:=by rw[abX,Xo];simp
 trans x y z c b:=by
  rw[BY] at*;rcases c with c|⟨c,d⟩<;>rcases b with b|⟨b,a⟩
  .exact .inl om
  .exact .inl om
  .exact .inl om
  .exact .inr ⟨om,Bg d a⟩
 ntrans x y z c b:=by
  rw[abX] at*;rintro (h|⟨h,k⟩)
  .omega
  .have i:y.length=x.length:=om
   have j:z.length=y.length:=om
   have d:lexB x y=false:=by
    rw[<-Bool.not_eq_true];exact λk=>c (.inr ⟨i.symm,k⟩)
   have a:lexB y z=false:=by
    rw[<-Bool.not_eq_true];exact λk=>b (.inr ⟨j.symm,k⟩)
   by_cases f:lexB y x=true
   .have:=Bg f k
    rw[this] at a;cases a
   .have:=Um d (by simpa using f)
    rw[this] at k;rw[k] at a;cases a
theorem OK {W W':Nat->Prop}{L:LN}{h:H}{p q:V×V×V}{a b:List Nat}(n:Nat)(R:L.length<=5040)(m:Nm W n L h p a)(l:Nm W' n L h q b):
  Ev T 84 [Vb n p,Vb n q] h (λv h'=>v= aC (XH a b)/\Fr h h'):=by
 obtain⟨N,G,x⟩:=m.one
 obtain⟨K,A,z⟩:=l.one
 have Y:=m.rk.short
 have lb:=l.rk.short
 have u:=m.si.lens
 rw[aL] at u
 have r:=l.si.lens
 rw[aL] at r
 refine kV ?_
 obtain⟨B,w⟩:=exI h.next
 obtain⟨F,y,s,O,q1,k⟩:=dF w [aC n,p.1,p.2.1,p.2.2]
 obtain⟨P,J,n2,o,U,j⟩:=dF s [aC n,q.1,q.2.1,q.2.2]
 have i:P.get B=bG (Aa n p):=by rw[U B om];exact O
 unfold XH
 by_cases f:(a.length:Int)≠(b.length:Int)
 .have t:=cJ f
  simp(disch:=omega)only[go_sem,aI,gW h (a:= aC n) (b:=p.1) (c:=p.2.1) (d:=p.2.2) rfl N G x,w,y,gW F (a:= aC n) (b:=q.1) (c:=q.2.1) (d:=q.2.2) rfl K A z,s,J,H.cell_of i,H.cell_of o,u,r,t,bL f]
  exact k.trans j
 .have t:=bT f
  simp(disch:=omega)only[go_sem,aI,gW h (a:= aC n) (b:=p.1) (c:=p.2.1) (d:=p.2.2) rfl N G x,w,y,gW F (a:= aC n) (b:=q.1) (c:=q.2.1) (d:=q.2.2) rfl K A z,s,J,H.cell_of i,H.cell_of o,u,r,t,gZ i,gZ o,bV f]
  refine (CV n R (m.mono (k.trans j)) (l.mono (k.trans j))).mono ?_
  rintro _ Z ⟨rfl,Q⟩
  refine aM ?_
  exact k.trans (j.trans Q)
structure NE where
 n:Nat
 p:V×V×V
 r:List Nat
 one:p.1.one=true/\p.2.1.one=true/\p.2.2.one=true
 eq:dM p.1 p.1=true/\dM p.2.1 p.2.1=true/\dM p.2.2 p.2.2=true
instance:Inhabited NE:=⟨⟨0,(.aD,.aD,.aD), [],⟨rfl,rfl,rfl⟩,⟨rfl,rfl,rfl⟩⟩⟩
def NE.enc (a:NE):List V:=Aa a.n a.p
def NE.lt (a b:NE):Bool:=ltN a.r b.r
def NE.Pp (n:Nat)(L:LN)(hB:H)(b0 S:Nat)(a:NE):Prop:=a.n=n/\Nm (λq=>b0<=q\/q=S) n L hB a.p a.r
theorem ahB {a h:H}{c S:Nat}(d:a.next=c)(b:Cls.Bb a c S h):Fx (λq=>c<=q\/q=S) a h:=
 ⟨by rw[d];exact b.1,λq i f=>b.2 q om λe=>f (.inr e)⟩
def afS (k:Nat):Nat:=if k=247 then 168 else if k=260 then 211 else if k=248 then 169 else if k=227 then 127 else if k=254 then 175 else if k=253 then 174 else if k=252 then 173 else if k=249 then 170 else if k=250 then 171 else if k=264 then 245 else if k=262 then 215 else if k=261 then 214 else if k=251 then 172 else if k=186 then 83 else k
theorem Cq {ρ:Nat->Nat}{k m:Nat}{c d:Ay.Fn}(h:T k=some c)(h':T m=some d)(e:d=Cls.Qh ρ c):T m=(T k).map (Cls.Qh ρ):=by
 rw[h,h',e]
 rfl
theorem WM: ∀k,k∈Cls.sK->T (afS k)=(T k).map (Cls.Qh afS):=by
 intro k a;simp only[Cls.sK,uL,List.not_mem_nil,or_false] at a;rcases a with rfl|rfl|rfl|rfl|rfl|rfl|rfl|rfl|rfl|rfl|rfl|rfl|rfl|rfl
 .exact Cq dZ.ok jY.ok (by kernel_rfl)
 .exact Cq fC.ok mD.ok (by kernel_rfl)
 .exact Cq fF.ok lZ.ok (by kernel_rfl)
 .exact Cq fH.ok mS.ok (by kernel_rfl)
 .exact Cq eS.ok lV.ok (by kernel_rfl)
 .exact Cq dW.ok jX.ok (by kernel_rfl)
 .exact Cq dO.ok iS.ok (by kernel_rfl)
 .exact Cq dK.ok jZ.ok (by kernel_rfl)
 .exact Cq cY.ok kW.ok (by kernel_rfl)
 .exact Cq fM.ok nE.ok (by kernel_rfl)
 .exact Cq fP.ok mZ.ok (by kernel_rfl)
 .exact Cq dY.ok jT.ok (by kernel_rfl)
 .exact Cq eD.ok kL.ok (by kernel_rfl)
 .exact Cq dV.ok jP.ok (by kernel_rfl)
@[reducible] def aiP (n:Nat)(L:LN)(hL:L.length<=5040)(hB:H)(b0 S:Nat)(hb:hB.next=b0):Cls.cG NE where
 lt:=NE.lt
 enc:=NE.enc
 P:=NE.Pp n L hB b0 S
 B:=Cls.Bb hB b0 S
 f:=84
 b0:=b0
 S:=S
 swo:=⟨λx=>zC.irrefl x.r,λx y z=>zC.trans x.r y.r z.r,λx y z=>zC.ntrans x.r y.r z.r⟩
 len _:=rfl
 one a:=by simp [NE.enc,Aa,a.one,show (aC (a.n:Int)).one=true from rfl]
 eqv a:=by simp [NE.enc,Aa,dM,rJ,a.eq]
 cmp h a b hb' pa pb:=by
  have fx:=ahB hb hb';have⟨ea,na⟩:=pa;have⟨eb,nb⟩:=pb;have:=OK n hL (na.go fx (W':=λ_=>False) λ_ _ h=>h.elim) (nb.go fx (W':=λ_=>False) λ_ _ h=>h.elim);unfold NE.enc;rw[ea,eb]
  exact this.mono λv h' ⟨e,f⟩=>⟨_,e,rfl,f⟩
 bfr h h' b f:=⟨kP b.1 f.next,λq h1 h2=>by rw[f.get q (kQ h1 b.1)];exact b.2 q h1 h2⟩
 bS h h' b f:=⟨kP b.1 f.next,λq h1 h2=>by rw[f.get q (kQ h1 b.1) h2];exact b.2 q h1 h2⟩
 bR h h' R b hR f:=⟨kP b.1 f.next,λq h1 h2=>by rw[f.get q (kQ h1 b.1) (λe=>by have:q=R:=e;omega)];exact b.2 q h1 h2⟩
 bn h b:=b.1
 ρ:=afS
 hT:=WM
 s1:=rfl
 s2:=rfl
 s3:=rfl
end Go.Proofs.YtcdbmkidaecdiaaGreat
namespace Go.Proofs.YtcdbmkidaecdiaaGreat
open Go Go.Ay Go.Pm
structure QX (n:Nat)(G:List Nat->Prop)(L:LN)(rs:LN):Prop where
 mem: ∀r,r∈rs↔zF n G L r
 Hm:rs.Pairwise λa b=>ltN a b=true
theorem QX.uniq {n:Nat}{G:List Nat->Prop}{L:LN}{rs c:LN}(a:QX n G L rs)(b:QX n G L c):rs=c:=by
 have nd:{l:LN}->(l.Pairwise λa b=>ltN a b=true)->l.Nodup:=λh=>h.imp λ{a b} h e=>by
  rw[e,zC.irrefl] at h;cases h
 have p:rs.Perm c:=(List.perm_ext_iff_of_nodup (nd a.Hm) (nd b.Hm)).2 λr=>(a.mem r).trans (b.mem r).symm
 exact p.eq_of_pairwise (λx y _ _ f d=>by have:=zC.trans x y x f d;rw[zC.irrefl] at this;cases this) a.Hm b.Hm
theorem XR {l:LN}{a:List Nat}(h:l.Nodup):(uC l a).Nodup:=by
 unfold uC;split
 .exact h
 .rename_i d
  rw[List.nodup_append];exact⟨h,List.pairwise_singleton _ _,λx c y b e=>d (by rw[<-List.mem_singleton.1 b,<-e];exact c)⟩
section
variable {n:Nat} {G:List Nat->Prop} {L:List (List Nat)} {K r:List Nat} {a b:List Nat} {fd:List (List Nat)}
theorem acD:(K:List Nat)->(l:List (List Nat))->l.Nodup->(K.foldl (λl i=>if i∈r then l else uC l (zX n G L r i)) l).Nodup
 | [],_,h=>h
 |k::K,l,h=>by
  rw[List.foldl_cons];refine acD K _ ?_;split
  .exact h
  .exact XR h
theorem TM (E:dR G L)(d:Rk L (RG L a) a)(f:Rk L (RG L b) b):(∀x,RG L b x->RG L a x)↔ ∀i∈b,i∈a:=by
 refine⟨λh i hi=>?_,λh x ⟨i,hi,e⟩=>⟨i,h i hi,e⟩⟩;obtain⟨j,c,e⟩:=h _ ⟨i,hi,rfl⟩;rw[<-tT E.nodup ((d.mem j).1 c).1 ((f.mem i).1 hi).1 e];exact c
theorem agN (j:Rk L (RG L a) a)(d:Rk L (RG L b) b)(h: ∀i∈b,i∈a)(ne:b≠a):b.length<a.length:=by
 have f:=d.asc.imp λh=>Nat.ne_of_lt h
 have k:=List.Nodup.length_le_of_subset f h;refine Nat.lt_of_le_of_ne k λe=>ne ?_
 refine sX d.asc j.asc λx=>⟨h x,λl=>zQ λm=>?_⟩
 have:=List.Nodup.length_le_of_subset (List.nodup_cons.2 ⟨m,f⟩) (l₂:=a) λy c=>by
  rcases uL.1 c with rfl|c
  .exact l
  .exact h y c
 rw[List.length_cons] at this;omega
open Classical in
theorem IX (E:dR G L)(nd:fd.Nodup)(all: ∀a∈fd,zF n G L a){i:Nat}(hi:i<fd.length):
  ((List.range fd.length).all λk=>decide (k=i)||!decide (∀x,RG L (fd.getD k []) x->RG L (fd.getD i []) x))=!uU fd (fd.getD i []):=by
 have u:fd.getD i []=fd[i]:=by rw[List.getD,dC hi];rfl
 have j:=(all _ (pN hi)).rk
 rw[u,Lf,vE,Bool.not_eq_true',uU,List.any_eq_false]
 constructor
 .intro h b o l
  rw[rG,tU,vE] at l
  obtain⟨k,c,rfl⟩:=rV.1 o
  have:=h k (wY.2 c)
  have f:fd.getD k []=fd[k]:=by rw[List.getD,dC c];rfl
  rw[f,Bool.or_eq_true,tU,Bool.not_eq_true',decide_eq_false_iff_not] at this
  rcases this with rfl|d
  .omega
  .exact d ((TM E j (all _ o).rk).2 λi hi=>of_decide_eq_true (l.2 i hi))
 .intro h k c
  have c:=wY.1 c
  have f:fd.getD k []=fd[k]:=by rw[List.getD,dC c];rfl
  rw[f,Bool.or_eq_true,tU,Bool.not_eq_true',decide_eq_false_iff_not]
  refine zQ λs=>?_
  obtain⟨t,d⟩:=not_or.1 s
  have d:=Classical.not_not.1 d
  have p:=(all _ (pN c)).rk
  have m:=(TM E j p).1 d
  have ne:fd[k]≠fd[i]:=λe=>t ((List.getElem_inj nd).1 e)
  refine h _ (pN c) ?_
  rw[rG,tU,vE]
  exact⟨agN j p m ne,λx q=>decide_eq_true (m x q)⟩
theorem PY (l:List (List Nat))(x:List Nat):Nj (l++ [x])=if l= [] then x else if lexB x (Nj l) then x else Nj l:=by
 cases l with
 |nil=>rfl
 |cons a l=>
  rw[bV siM];show (l++ [x]).foldl _ a=_;rw[List.foldl_append]
  rfl
theorem Rk.ne (g:eM n (RG L a)):0<a.length:=by
 obtain⟨j,c,_⟩:=g.one;exact Ss c
theorem zK.uniq {rs j:List (List Nat)}(x:zK n G L K rs)(y:zK n G L K j):rs=j:=by
 obtain⟨r,c,q⟩:=x.ex;obtain⟨s,d,u⟩:=y.ex
 have f:(k:Nat)->(a b:List Nat)->rs[k]? =some a->j[k]? =some b->a=b:=by
  intro k
  induction k with
  |zero=>
   intro a b o m;rw[c.hd] at o;rw[d.hd] at m;cases o;cases m;rfl
  |succ k ih=>
   intro a b o m;have w:=(rW.1 o).1;have A:=(rW.1 m).1;have t:=dC (l:=rs) (i:=k) om;have p:=dC (l:=j) (i:=k) om;have e:=ih _ _ t p;rw[(c.st k _ _ t o).2,(d.st k _ _ p m).2,e]
 have len:{rs j:List (List Nat)}->{r s:List Nat}->zS n G L K rs r->zS n G L K j s->r.length=L.length->((k:Nat)->(a b:List Nat)->rs[k]? =some a->j[k]? =some b->a=b)->j.length<=rs.length:=by
  intro rs j r s c d q f;refine Nat.le_of_not_lt λh=>?_
  have z:=(rW.1 c.hd).1;have p:=dC (l:=j) (i:=rs.length- 1) om;have v:=dC (l:=j) (i:=rs.length- 1+1) om;have:=(d.st _ _ _ p v).1;rw[<-f _ _ _ c.la p] at this;omega
 have B:=len c d q f;have F:=len d c u λk a b o m=>(f k b a m o).symm
 refine List.ext_getElem om λk o m=>f k _ _ (dC o) (dC m)
end
def mN (n:Nat):List Nat:=if n>9 then mN (n/10)++ [48+n%10] else [48+n]
theorem Ci (n:Nat):(mN n).length<=n+1:=by
 induction n using Nat.strongRecOn with
 |_ n ih=>
  unfold mN;split
  .have:=ih (n/10) om
   rw[iB];show _+1<=_;omega
  .show 1<=_
   omega
def adY (h:H):V->Option (V×H)
 | .int _ n=>if 0<=n/\n<128 then some (.str [n.toNat],h) else none
 |_=>none
theorem Hu (ρ:X->V)(h:H)(x:X):fJ ρ h (.cir x)=adY h (ρ x):=by
 simp only[fJ,adY]
 rfl
def SJ (h:H)(x y:V):Option (V×H):=match x,y with
 | .str a,.str b=>if a.length+b.length<2^62 then some (.str (a++b),h) else none
 |_,_=>none
theorem Il (ρ:X->V)(h:H)(x y:X):fJ ρ h (.sad x y)=SJ h (ρ x) (ρ y):=by
 simp only[fJ,SJ]
 rfl
theorem Hx {k:Nat}(a:k<10)(h:H):adY h (.int .i32 (IntKind.i32.wrap ((48+k:Nat):Int)))=some (.str [48+k],h):=by
 have: ∀k,k<10->IntKind.i32.wrap ((48+k:Nat):Int)=((48+k:Nat):Int):=deC
 rw[this k a];show (if _ then _ else none)=_;rw[bL ⟨om,om⟩,IF]
theorem Pv (h:H){a b:List Nat}(c:a.length+b.length<10000000):SJ h (.str a) (.str b)=some (.str (a++b),h):=by
 show (if _ then _ else none)=_;rw[bL om]
theorem XX (n:Nat):(h:H)->n<1000000->Ev T 66 [aC n] h (λv h'=>v= .str (mN n)/\Fr h h'):=by
 induction n using Nat.strongRecOn with
 |_ n ih=>
  intro h p;refine kV ?_
  by_cases i:(9:Int)<(n:Int)
  .have f:=cJ i
   have k:Int.tdiv (n:Int) 10=((n/10:Nat):Int):=rfl;have m:Int.tmod (n:Int) 10=((n%10:Nat):Int):=rfl;refine dQ @aI f k ?_;refine (ih (n/10) om h om).mono ?_;rintro _ l ⟨rfl,j⟩;have c:(48:Int)+((n%10:Nat):Int)=((48+n%10:Nat):Int):=om
   have o:=Ci (n/10)
   have d:mN n=mN (n/10)++ [48+n%10]:=by
                               conv=>lhs;unfold mN
                               rw[bL om]
   simp(disch:=omega)only[go_sem,m,c,Hu,Hx (Nat.mod_lt n (by omega:10>0)),Il,Pv l (a:=mN (n/10)) (b:= [48+n%10]) (by show _+1<_;omega),d];exact j
  .have f:=bT i
   have c:(48:Int)+(n:Int)=((48+n:Nat):Int):=om
   have d:mN n= [48+n]:=by unfold mN;rw[bV om]
   simp(disch:=omega)only[go_sem,aI,f,c,Hu,Hx (show n<10 by omega),d];exact Fr.refl _
abbrev Fw (x:Nat×List Nat):List V:= [aC (x.1:Int),.str x.2]
def zM (l:List (Nat×List Nat)):List V:=l.flatMap Fw
theorem By (l:List (Nat×List Nat)):(zM l).length=l.length*2:=tH (k:=2) (f:=Fw) (λ_=>rfl) l
theorem aaR (a b:List (Nat×List Nat)):zM (a++b)=zM a++zM b:=by unfold zM;rw[List.flatMap_append]
theorem Qp {h:H}{v:V}{l:List (Nat×List Nat)}(s:SV h v 2 (zM l)){i:Nat}(hi:i<l.length): ∃id off,Sl v 2 l.length id off/\h.row id (off+i*2) 2=some (Fw l[i])/\id<h.next:=SV.rec (k:=2) (f:=Fw) om (λ_=>rfl) s hi
theorem Xp {h:H}{v:V}{l:List (Nat×List Nat)}(s:SV h v 2 (zM l)):bH v=some (aC (l.length:Int)):=by
 unfold bH;rw[SV.len s (n:=l.length) (By l) om];rfl
theorem uK (h:H){a b:V}(c:a.one=true)(d:b.one=true):An h (.agg [a,b])=some (.ptr h.next 0,h.new (.cells false [a,b])):=sQ h _ (by simp [c,d])
def nJ:List (Nat×List Nat):= [(60, [65,53]),(168, [76,50,40,55,41]),(360, [65,54]),(504, [76,50,40,56,41]),(660, [76,50,40,49,49,41]),(1092, [76,50,40,49,51,41]),(2448, [76,50,40,49,55,41]),(2520, [65,55]),(3420, [76,50,40,49,57,41]),(4080, [76,50,40,49,54,41])]
theorem AX (z:Int)(s:List Nat):oN [aC 0,.str []] [(0,1,aC z),(1,1,.str s)]=some (.agg [aC z,.str s]):=rfl
theorem TF (h:H):Ev T 67 [] h (λv h'=>SV h' v 2 (zM nJ)/\Fr h h'):=by
 have e:mC h 2 [aC 0,.str []] 10 [(0,2,.agg [aC 60,.str [65,53]]),(2,2,.agg [aC 168,.str [76,50,40,55,41]]),(4,2,.agg [aC 360,.str [65,54]]),(6,2,.agg [aC 504,.str [76,50,40,56,41]]),(8,2,.agg [aC 660,.str [76,50,40,49,49,41]]),(10,2,.agg [aC 1092,.str [76,50,40,49,51,41]]),(12,2,.agg [aC 2448,.str [76,50,40,49,55,41]]),(14,2,.agg [aC 2520,.str [65,55]]),(16,2,.agg [aC 3420,.str [76,50,40,49,57,41]]),(18,2,.agg [aC 4080,.str [76,50,40,49,54,41]])]=some (.sl h.next 0 10 (.kn 10),h.new (.cells false (zM nJ))):=rfl;refine Px @AX e ?_;exact⟨SV.all rfl (by rw[H.aZ];omega) (H.aQ _ _) _,(Fr.refl h).new _⟩
theorem FC (x:Nat×List Nat)(n:Nat)(h:H)(j:x.1<1000000)(h2:n<1000000):Ev T 69 [.agg (Fw x),aC n] h (λv h'=>v= aC ((x.1:Int)-n)/\Fr h h'):=by
 refine kV ?_;obtain⟨B,c⟩:=exI h.next;obtain⟨j,d,k,f,l,i⟩:=dF c (Fw x);simp(disch:=omega)only[go_sem,aI,uK h (a:= aC (x.1:Int)) (b:= .str x.2) rfl rfl,c,d,H.cell_of f];exact i
theorem WE (x y:Nat×List Nat)(h:H)(f:x.1<1000000)(h2:y.1<1000000):Ev T 71 [.agg (Fw x),.agg (Fw y)] h (λv h'=>v= aC ((x.1:Int)-y.1)/\Fr h h'):=by
 refine kV ?_;obtain⟨B,i⟩:=exI h.next;obtain⟨f,l,d,m,q,n⟩:=dF i (Fw x);obtain⟨h2,p,r,k,o,j⟩:=dF d (Fw y);have c:h2.get B=bG (Fw x):=by rw[o B om];exact m
 simp(disch:=omega)only[go_sem,aI,uK h (a:= aC (x.1:Int)) (b:= .str x.2) rfl rfl,i,l,uK f (a:= aC (y.1:Int)) (b:= .str y.2) rfl rfl,d,p,H.cell_of c,H.cell_of k];exact n.trans j
theorem UC (u:V)(a:List (Nat×List Nat))(p:Nat)(h:H)(hn:a.length<1000000)(Y:p<1000000)(hs: ∀x∈a,x.1<1000000)(O:a.Pairwise λx y=>x.1<y.1)(Q:SV h u 2 (zM a)):
  Ev T 68 [u,aC p,.fn 69 [] []] h (λv h'=> ∃(k:Nat) (f:Bool),v= .tup [aC k,.bool f]/\(f=true-> ∃hk:k<a.length,a[k].1=p)/\(f=false-> ∀x∈a,x.1≠p)/\Fr h h'):=by
 have lv:=Xp Q
 refine yF lv ?_
 have mono: ∀i j (hi:i<a.length) (K:j<a.length),i<j->a[i].1<a[j].1:=λi j hi K h=>Sr.1 O i j hi K h
 refine aH (λW l G=> ∃(i j:Nat),(∃g:Nat->V,l= [u,aC p,.fn 69 [] [],g 3,g 4,aC (a.length:Int),aC i,aC j,g 8,g 9,g 10])/\i<=j/\j<=a.length/\(∀m (d:m<a.length),m<i->a[m].1<p)/\(∀m (d:m<a.length),j<=m->p<=a[m].1)/\Fr h G/\W=j-i) a.length
  ⟨0,a.length,aB rfl,om,om,λm d h=>om,λm h1 h2=>om,Fr.refl h,rfl⟩ ?_
 rintro W l G ⟨i,j,⟨g,rfl⟩,a0,K,r,z,F,rfl⟩
 by_cases t:(i:Int)<(j:Int)
 .have J:=cJ t
  have ea:(i:Int)+(j:Int)=((i+j:Nat):Int):=om
  obtain⟨m,d⟩:=exI ((i+j)/2)
  have sr:=CC (x:=i+j)
  rw[d] at sr
  have c:m<a.length:=om
  obtain⟨id,P,L,s,_⟩:=Qp (Q.mono F) c
  have sm:=hs _ (pN c)
  simp(disch:=omega)only[go_sem,J,ea,Ck,xG,jC (n:=((i+j:Nat):Int)) om om,sr,L.ixa,s]
  refine (FC a[m] p G sm Y).mono ?_
  rintro _ h3 ⟨rfl,B⟩
  by_cases Z:((a[m].1:Nat):Int)-(p:Int)<0
  .have o:=cJ Z
   refine bE o ?_
   rw[eJ m]
   refine⟨j-(m+1),om,m+1,j,aB rfl,om,K,λq N h=>?_,z,F.trans B,rfl⟩
   by_cases e:q=m
   .subst e;omega
   .have:=mono q m N c om;omega
  .have o:=bT Z
   refine bE o ?_
   refine⟨m-i,om,i,m,aB rfl,om,om,r,λq N h=>?_,F.trans B,rfl⟩
   by_cases e:q=m
   .subst e;omega
   .have:=mono m q c N om;omega
 have J:=bT t
 obtain rfl:i=j:=om
 by_cases A:(i:Int)<(a.length:Int)
 .have o:=cJ A
  have b:i<a.length:=om
  obtain⟨id,P,L,s,_⟩:=Qp (Q.mono F) b
  refine gX J o @L.ixa s ?_
  refine (FC a[i] p G (hs _ (pN b)) Y).mono ?_
  rintro _ h3 ⟨rfl,B⟩
  by_cases w:((a[i].1:Nat):Int)-(p:Int)=0
  .have U:=cJ w
   refine bE U ?_
   exact⟨i,true,rfl,λ_=>⟨b,om⟩,λh=>(by cases h),F.trans B⟩
  .have U:=bT w
   refine bE U ?_
   refine⟨i,false,rfl,λh=>(by cases h),λ_ x R e=>?_,F.trans B⟩
   obtain⟨m,d,rfl⟩:=rV.1 R
   rcases Nat.lt_trichotomy m i with h|h|h
   .have:=r m d h;omega
   .subst h;omega
   .have h1:=mono i m b d h
    have h2:=z i b (eU _)
    omega
 .have o:=bT A
  refine cU J o ?_
  refine⟨i,false,rfl,λh=>(by cases h),λ_ x R e=>?_,F⟩
  obtain⟨m,d,rfl⟩:=rV.1 R
  have:=r m d om
  omega
section
variable {x:Nat×List Nat} {l:List (Nat×List Nat)}
def yS (x:Nat×List Nat):List (Nat×List Nat)->List (Nat×List Nat)
 | []=> [x]
 |y::r=>if y.1<=x.1 then y::yS x r else x::y::r
def Ad (l:List (Nat×List Nat)):List (Nat×List Nat):=l.foldl (λa x=>yS x a) []
def aeE (l:List (Nat×List Nat)):Prop:=l.Pairwise λx y=>x.1<=y.1
theorem yH {x:Nat×List Nat}:{A B:List (Nat×List Nat)}->(∀y∈A,y.1<=x.1)->(∀y∈B,x.1<y.1)->yS x (A++B)=A++x::B
 | [], [],_,_=>rfl
 | [],y::r,_,h=>by
  show (if y.1<=x.1 then _ else _)=_;rw[bV (by have:=h y sZ;omega)];rfl
 |y::A,B,h,h2=>by
  show (if y.1<=x.1 then _ else _)=_;rw[bL (h y sZ)];have:=yH (λz a=>h z (tX _ a)) h2;rw[List.cons_append,<-this]
  rfl
theorem Vw (x:Nat×List Nat): ∀l,(yS x l).length=l.length+1
 | []=>rfl
 |y::r=>by
  unfold yS;split
  .rw[List.length_cons,Vw x r];rfl
  .rfl
theorem Io {x z:Nat×List Nat}: ∀{l},z∈yS x l↔z=x\/z∈l
 | []=>by simp [yS]
 |y::r=>by
  unfold yS;split
  .rw[uL,Io,uL]
   constructor
   .rintro (h|h|h)<;>simp [h]
   .rintro (h|h|h)<;>simp [h]
  .rw[uL]
theorem Wd {x:Nat×List Nat}: ∀{l},aeE l->aeE (yS x l)
 | [],_=>List.pairwise_singleton _ _
 |y::r,h=>by
  obtain⟨b,d⟩:=List.pairwise_cons.1 h;unfold yS;split
  .rename_i c
   refine List.pairwise_cons.2 ⟨λz a=>?_,Wd d⟩;rcases Io.1 a with rfl|a
   .exact c
   .exact b z a
  .rename_i c
   refine List.pairwise_cons.2 ⟨λz a=>?_,h⟩;rcases uL.1 a with rfl|a
   .omega
   .have:=b z a;omega
theorem Vr {i:Nat}(hi:i<l.length):Ad (l.take (i+1))=yS l[i] (Ad (l.take i)):=by
 unfold Ad;rw[List.take_succ_eq_append_getElem hi,List.foldl_append]
 rfl
theorem Kd (l:List (Nat×List Nat)): ∀i,i<=l.length->aeE (Ad (l.take i))/\(Ad (l.take i)).length=i/\ ∀x∈Ad (l.take i),x∈l:=by
 intro i
 induction i with
 |zero=>exact λ_=>⟨List.Pairwise.nil,rfl,λx a=>by cases a⟩
 |succ i ih=>
  intro hi;obtain⟨c,b,d⟩:=ih om;rw[Vr om];refine⟨Wd c,by rw[Vw,b],λx a=>?_⟩;rcases Io.1 a with rfl|a
  .exact pN _
  .exact d x a
theorem CL {i:Nat}(hi:i<l.length):sub (zM l) (i*2) 2=some (Fw l[i]):=by
 have:=DF (s:=2) (f:=Fw) (λ_=>rfl) (ps:=l) (rest:= []) hi;rwa [qV] at this
theorem DE {k:Nat}(a:k<l.length)(x:Nat×List Nat):putAt (zM l) (k*2) (Fw x)=some (zM (l.set k x)):=by
 have:=DP (s:=2) (f:=Fw) (λ_=>rfl) (ps:=l) (rest:= []) a x;rwa [qV,qV] at this
theorem Dh (h:H)(id off:Nat){a b:V}(c:a.one=true)(d:b.one=true):Ny h 2 (.ptr id off) (.agg [a,b])=eH (h.get id) h id off [a,b]:=vN h id off 2 _ rfl (by simp [c,d])
theorem abC (S N:Nat)(v:V)(l:List (Nat×List Nat))(h:H)(hl:l.length=N)(hN:N<1000000)(ix: ∀j:Nat,j<N->El 2 v (aC j)=some (.ptr S (j*2)))(hS:0<N->S<h.next)(gS:0<N->h.get S=bG (zM l))(hs: ∀x∈l,x.1<1000000):
  Ev T 155 [v,aC 0,aC N,.fn 71 [] []] h (λ_ h'=>(0<N->h'.get S=bG (zM (Ad l)))/\Fx (· =S) h h'):=by
 refine kV ?_
 simp(disch:=omega)only[go_sem,aI,Int.zero_add]
 by_cases a0:N=0
 .subst a0
  have e0:l= []:=List.length_eq_zero_iff.1 hl
  subst e0
  refine aH (λw f W=>(∃g:Nat->V,f= [g 0,g 1,aC 0,g 3,aC 1,g 5,g 6,g 7])/\h=W/\w=0) 0 ⟨aB rfl,rfl,rfl⟩ ?_
  rintro w f W ⟨⟨g,rfl⟩,rfl,rfl⟩
  simp(disch:=omega)only[go_sem,show decide ((1:Int)<0)=false from rfl]
  exact⟨λh=>om,Fx.refl _ _⟩
 have gS:=gS om
 have hS:=hS om
 have f1:Ad (l.take 1)++l.drop 1=l:=by
  cases l with
  |nil=>exact absurd hl.symm a0
  |cons a r=>rfl
 refine aH (λw f W=> ∃(i:Nat),(∃g:Nat->V,f= [v,aC 0,aC N,.fn 71 [] [],aC i,g 5,g 6,g 7])/\1<=i/\i<=N/\W.get S=bG (zM (Ad (l.take i)++l.drop i))/\Fx (· =S) h W/\w=N-i) (N- 1)
  ⟨1,aB rfl,om,om,by rw[f1];exact gS,Fx.refl _ h,rfl⟩ ?_
 rintro w f W ⟨i,⟨g,rfl⟩,a7,hi,gi,F,rfl⟩
 by_cases a3:(i:Int)<(N:Int)
 case neg=>
  have d1:=bT a3;obtain rfl:i=N:=om
  rw[<-hl,List.take_length,List.drop_length,qV] at gi;refine bE d1 ?_;exact⟨λ_=>gi,F⟩
 have d1:=cJ a3
 have R:i<l.length:=om
 obtain⟨Z,len,mem⟩:=Kd l i om
 have st:=Vr R
 rw[Ij R] at gi
 have hx:=hs _ (pN R)
 generalize l[i]=x at gi st hx
 refine bE d1 ?_
 refine rY (λvs h'=>(∃g:Nat->V,vs= [v,aC 0,aC N,.fn 71 [] [],aC i,g 5,g 6,g 7])/\h'.get S=bG (zM (yS x (Ad (l.take i))++l.drop (i+1)))/\Fx (· =S) h h') ?_ ?_
 .refine aH (λw f h'=> ∃(j:Nat),(∃g:Nat->V,f= [v,aC 0,aC N,.fn 71 [] [],aC i,aC j,g 6,g 7])/\j<=i/\(∀y∈(Ad (l.take i)).drop j,x.1<y.1)/\h'.get S=bG (zM ((Ad (l.take i)).take j++x::(Ad (l.take i)).drop j++l.drop (i+1)))/\Fx (· =S) h h'/\j=w) i
   ⟨i,aB rfl,eU _,λy s=>(by rw[List.drop_eq_nil_of_le om] at s;cases s),by rw[Bo om,List.drop_eq_nil_of_le om,pJ];exact gi,F,rfl⟩ ?_
  obtain⟨c,G⟩:=exI (Ad (l.take i))
  rw[G] at Z len mem
  rw[G]
  obtain⟨L,Y⟩:=exI (l.drop (i+1))
  rw[Y]
  rintro w f n ⟨j,⟨g,rfl⟩,hj,hB,P,F2,rfl⟩
  by_cases a1:(0:Int)<(j:Int)
  case neg=>
   have d2:=bT a1;obtain rfl:j=0:=om
   rw[List.take_zero,List.drop_zero,List.nil_append] at P;have im:=yH (x:=x) (A:= []) (B:=c) (λy s=>by cases s) hB;rw[List.nil_append,List.nil_append] at im;refine bE d2 ?_;exact⟨aB rfl,by rw[im];exact P,⟨by have:=F2.next;show _<=n.next+17;omega,λq h1 n=>F2.get q h1 n⟩⟩
  have d2:=cJ a1
  have a6:1<=j:=om
  have ja:j- 1<c.length:=om
  obtain⟨d,o⟩:=exI (c.take j++x::c.drop j++L)
  rw[o] at P
  have et:c.take j=c.take (j- 1)++ [c[j- 1]]:=by
   have:=List.take_succ_eq_append_getElem ja;rwa [show j- 1+1=j by omega] at this
  have t:(c.take (j- 1)).length=j- 1:=by rw[wH,Nat.min_eq_left om]
  have lj:j<d.length:=by
   rw[<-o,iB,iB,wH,Nat.min_eq_left om,List.length_cons];omega
  have O:j- 1<d.length:=om
  have u:c.take (j- 1)++c[j- 1]::x::(c.drop j++L)=d:=by rw[<-o,et];simp only[pJ,List.cons_append,List.nil_append]
  have cj:d[j]=x:=by
   have:d[j]? =some x:=by
    rw[<-u,zT om,t,show j-(j- 1)=1 by omega];rfl
   rw[dC lj] at this;exact Option.some.inj this
  have a5:d[j- 1]=c[j- 1]:=by
   have:d[j- 1]? =some c[j- 1]:=by
    rw[<-u,zT om,t,Nat.sub_self];rfl
   rw[dC O] at this;exact Option.some.inj this
  obtain⟨y,s⟩:=exI (c[j- 1])
  have ys:y.1<1000000:=hs _ (mem y (by rw[<-s];exact pN _))
  rw[s] at a5 u
  have a2: ∀h':H,h'.get S=bG (zM d)->h'.row S (j*2) 2=some (Fw x)/\h'.row S ((j- 1)*2) 2=some (Fw y):=λh' hg=>by
   have s1:=CL lj;have s2:=CL O;rw[cj] at s1;rw[a5] at s2;unfold H.row;rw[hg];exact⟨s1,s2⟩
  have a4:=ix j om
  have J:=ix (j- 1) om
  have ej:(j:Int)- 1=((j- 1:Nat):Int):=om
  have n2:=F2.next
  have fb: ∀k,n.next<=k->Fr n (H.mk n.tr k):=λk hk=>(Fr.refl n).bU hk
  obtain⟨r1,r2⟩:=a2 n P
  refine kA d2 ej a4 J r1 r2 ?_
  refine (WE x y _ hx ys).mono ?_
  rintro _ h3 ⟨rfl,f3⟩
  have p:=(fb _ om).trans f3
  have g3:h3.get S=bG (zM d):=by rw[p.get S om];exact P
  obtain⟨r3,r4⟩:=a2 h3 g3
  have es: ∀l,dM (.str l) (.str l)=true:=λl=>by simp [dM]
  by_cases K:(x.1:Int)-(y.1:Int)<0
  case neg=>
   have d3:=bT K
   have hA: ∀z∈c.take j,z.1<=x.1:=λz U=>by
    obtain⟨m,hm,rfl⟩:=rV.1 U;rw[wH,Nat.min_eq_left om] at hm;rw[List.getElem_take]
    by_cases e:m=j- 1
    .subst e;rw[s];omega
    .have:=Sr.1 Z m (j- 1) om ja om
     rw[s] at this;omega
   have im:=yH hA hB;rw[List.take_append_drop] at im;refine gX r3 r4 es d3 ?_;exact⟨aB rfl,by rw[im,o];exact g3,⟨by have:=p.next;omega,λq h1 n=>by rw[p.get q om];exact F2.get q h1 n⟩⟩
  have d3:=cJ K
  have p1: ∀Q:H,eH (bG (zM d)) Q S (j*2) (Fw y)=some (Q.set S (bG (zM (d.set j y)))):=λQ=>by simp only[eH,DE lj,Option.map_some]
  have p2: ∀Q:H,eH (bG (zM (d.set j y))) Q S ((j- 1)*2) (Fw x)=some (Q.set S (bG (zM ((d.set j y).set (j- 1) x)))):=λQ=>by simp only[eH,DE (show j- 1<(d.set j y).length by rw[List.length_set];exact O),Option.map_some]
  simp(disch:=omega)only[go_sem,r3,r4,es,d3,ej,a4,J,Dh _ S (j*2) (a:= aC (y.1:Int)) (b:= .str y.2) rfl rfl,Dh _ S ((j- 1)*2) (a:= aC (x.1:Int)) (b:= .str x.2) rfl rfl,g3,p1,p2]
  have ed:c.drop (j- 1)=y::c.drop j:=by rw[Ij ja,s,show j- 1+1=j by omega]
  have el:(d.set j y).set (j- 1) x=c.take (j- 1)++x::c.drop (j- 1)++L:=by
   rw[<-u,List.set_append_right _ _ om,t,show j-(j- 1)=1 by omega,List.set_append_right _ _ om,t,Nat.sub_self,ed];simp
  have nf:=p.next
  refine⟨j- 1,om,j- 1,aB rfl,om,λz U=>?_,by rw[el],⟨by simp only[H.dE];show _<=h3.next+18;omega,λq h1 n=>?_⟩,rfl⟩
  .rw[ed] at U
   rcases uL.1 U with rfl|U
   .omega
   .exact hB z U
  .rw[H.aF _ n,H.aF _ n]
   show h3.get q=_
   rw[p.get q om]
   exact F2.get q h1 n
 rintro f n ⟨⟨g,rfl⟩,P,F2⟩
 refine aM ?_
 rw[eJ i]
 exact⟨N-(i+1),om,i+1,aB rfl,om,om,by rw[st];exact P,F2,rfl⟩
theorem Tm (S N:Nat)(v:V)(l:List (Nat×List Nat))(h:H)(k:l.length=N)(s:N<20)(r:bH v=some (aC N))(m: ∀j:Nat,j<N->El 2 v (aC j)=some (.ptr S (j*2)))(p:0<N->S<h.next)(n:0<N->h.get S=bG (zM l))(o: ∀x∈l,x.1<1000000):
  Ev T 70 [v,.fn 71 [] []] h (λ_ h'=>(0<N->h'.get S=bG (zM (Ad l)))/\Fx (· =S) h h'):=by
 refine yF r ?_
 refine Ev.mono (Q:=λ_ h'=>(0<N->h'.get S=bG (zM (Ad l)))/\Fx (· =S) h h') ?_ ?_
 .refine kV ?_
  refine bE @aI ?_
  have q:decide ((20:Int)<=(N:Int))=false:=bT om
  have i:decide ((20:Int)<(N:Int))=false:=bT om
  refine aH (λc a b=>(∃g:Nat->V,a= [v,aC N,.fn 71 [] [],aC 20,aC 0,aC 20,g 6,g 7,g 8,g 9,g 10])/\h=b/\c=0) 0 ⟨aB rfl,rfl,rfl⟩ ?_
  rintro c a b ⟨⟨g,rfl⟩,rfl,rfl⟩
  refine bE q ?_
  refine (abC S N v l h k om m p n o).mono ?_
  rintro _ f ⟨d,F2⟩
  refine aM ?_
  refine aH (λc a b=>(∃g:Nat->V,a= [g 0,aC N,g 2,aC 20,g 4,g 5,g 6,g 7,g 8,g 9,g 10])/\f=b/\c=0) 0 ⟨aB rfl,rfl,rfl⟩ ?_
  rintro c a b ⟨⟨g,rfl⟩,rfl,rfl⟩
  refine bE i ?_
  exact⟨d,F2⟩
 rintro _ f ⟨d,F2⟩
 refine aM ?_
 exact⟨d,F2⟩
end
def Ja:Nat->Nat->Nat->Nat
 |0,_,p=>p
 |f+1,q,p=>if q%p=0 then p else Ja f q (p+1)
def Lu:Nat->Nat->Nat->Nat->Nat×Nat
 |0,_,k,r=>(k,r)
 |f+1,p,k,r=>if r%p=0 then Lu f p (k+1) (r/p) else (k,r)
def uM (p k q r:Nat):List (Nat×List Nat):=if r=1 then List.replicate k (p,67::mN p) else match nJ.find? (λx=>x.1==q) with|some x=> [(q,x.2)]|none=> []
def gO (q:Nat):List (Nat×List Nat):=uM (Ja (q- 2) q 2) (Lu q (Ja (q- 2) q 2) 0 q).1 q (Lu q (Ja (q- 2) q 2) 0 q).2
def jU:List Nat->List (Nat×List Nat)
 |a::b::r=>gO (b/a)++jU (b::r)
 |_=> []
theorem Eg:(l:List Nat)->(i:Nat)->(hi:i+1<l.length)->jU (l.take (i+2))=jU (l.take (i+1))++gO (l[i+1]/l[i])
 |a::b::r,0,_=>by simp [jU]
 |a::b::r,i+1,hi=>by
  have c:i+1<(b::r).length:=by simpa using hi
  have:=Eg (b::r) i c;have e: ∀k,jU (a::b::r.take k)=gO (b/a)++jU (b::r.take k):=λk=>rfl
  show jU (a::b::r.take (i+1))=jU (a::b::r.take i)++_;rw[e,e];have d:jU (b::r.take (i+1))=jU (b::r.take i)++gO ((b::r)[i+1]/(b::r)[i]):=this;rw[d,pJ]
  rfl
theorem Xj {p k q r:Nat}(b:2<=p)(a:2<=q)(h:q=p^k*r)(c:1<=r):2^(uM p k q r).length<=q:=by
 unfold uM;split
 .rename_i e
  rw[List.length_replicate,h,e,qZ];exact Nat.pow_le_pow_left b k
 .split
  .exact a
  .show 1<=q;omega
section
variable {n:Nat} {G:List Nat->Prop} {L:LN} {K r:List Nat} {rs:LN} (hG:eM n G) (E:dR G L)
theorem FJ (E:dR G L)(k:zF n G L r):dR (RG L r) (r.map λi=>L.getD i []):=by
 refine⟨List.pairwise_map.2 (List.Pairwise.imp_of_mem (λ{i j} hi c (h:i<j)=>?_) k.rk.asc),λx=>?_⟩
 .have b:=((k.rk.mem i).1 hi).1
  have a:=((k.rk.mem j).1 c).1;rw[List.getD,dC b,List.getD,dC a];exact Sr.1 E.asc i j b a h
 .rw[qU]
  exact Iff.rfl
include hG E
theorem CG (c:zS n G L K rs r)(b:vB n G L K){i:Nat}(hi:i+1<rs.length):2*rs[i].length<=rs[i+1].length:=by
 have a:=c.all _ (pN (show i<rs.length by omega));have d:=c.all _ (pN hi);obtain⟨l,k⟩:=c.st i _ _ (dC om) (dC hi);obtain⟨⟨j,f,h,e⟩,_⟩:=vD hG E a b l;rw[<-k] at e;have g:=Hv a (b.lt f) h;rw[<-e] at g;have:=dbl (x:=L.getD j []) a.cX d.cX (FJ E a) (FJ E d) (λy ⟨t,ht,e⟩=>⟨t,g.1 t ht,e⟩) ⟨j,g.2.1,rfl⟩ λ⟨t,ht,e⟩=>h (by rw[<-tT E.nodup ((a.rk.mem t).1 ht).1 (b.lt f) e];exact ht)
 simpa using this
end
section
variable {b n:Nat} {h:H} {v:V} {l:List (Nat×List Nat)}
def CY (b:Nat)(h:H)(v:V)(l:List (Nat×List Nat)):Prop:=(l= []/\v= .aD)\/ ∃S,v= .sl S 0 l.length (.un 2)/\h.get S=bG (zM l)/\S<h.next/\b<=S/\0<l.length
theorem CY.mono {h':H}(r:CY b h v l)(f:Fr h h'):CY b h' v l:=by
 rcases r with r|⟨S,e,g,a,d,c⟩
 .exact .inl r
 .exact .inr ⟨S,e,by rw[f.get S a];exact g,kQ a f.next,d,c⟩
theorem CY.own (r:CY b h v l):cW h v 2 (zM l) b:=by
 rcases r with ⟨rfl,rfl⟩|⟨S,rfl,g,a,c,d⟩
 .exact cW.aD _ _ _
 .exact .inr ⟨S,l.length,_, [],rfl,By l,.inl rfl,c,a,by rw[qV];exact g⟩
theorem DT {D:Nat}{x:Nat×List Nat}(r:CY b h v l)(i:b<=h.next)(t:l.length<1000000)(j:D<h.next)(f:h.get D=bG (Fw x)):
  ∃v' h',rD h 2 24 v (.sl D 0 1 (.kn 1))=some (v',h')/\CY b h' v' (l++ [x])/\h.next<=h'.next/\ ∀q,q<b->h'.get q=h.get q:=by
 have o:=r.own
 obtain⟨h',a,p⟩:=(o.le (fE _)).push (bytes:=24) (SV.all (sz:=2) (len:=1) (vs:=Fw x) rfl j f (.kn 1)) (n:=l.length) (m:=1) (By l) rfl om om om
 have k:=p.next
 refine⟨_,h',a,.inr ⟨h.next,by rw[iB];rfl,by rw[aaR];exact p.get,om,i,by rw[iB];exact Nat.succ_pos _⟩,om,λq s=>p.old q om λid d m c e u=>by have:=(o.in _ _ _ _ e).2.1;omega⟩
theorem RX (h:H)(z:Int)(s:List Nat):mC h 2 [aC 0,.str []] 1 [(0,2,.agg [aC z,.str s])]=some (.sl h.next 0 1 (.kn 1),h.new (.cells false [aC z,.str s])):=rfl
theorem wV.sz {W:Nat->Prop}{G:List Nat->Prop}{L:LN}{p:V×V}{r:List Nat}(g:wV W n L h p r)(E:dR G L)(k:zF n G L r):
  Ev T 65 [.agg [aC n,p.1,p.2]] h (λv h'=>v= aC (r.length:Nat)/\Fr h h'):=by
 obtain⟨O,R,a⟩:=g
 refine (yA _ n O R _ h a).mono ?_
 rintro _ h' ⟨rfl,f⟩
 rw[k.rk.len k.cX a.isc E k.le]
 exact⟨rfl,f⟩
theorem wV.eq {W:Nat->Prop}{L:LN}{p:V×V}{r:List Nat}(g:wV W n L h p r):dM p.1 p.1=true/\dM p.2 p.2=true:=by
 obtain⟨O,R,g⟩:=g;obtain⟨_,_,_,_,e,c,_,_,a,_,_⟩:=g.cw;simp only[V.agg.injEq,List.cons.injEq,and_true,true_and] at e;rw[e.1,e.2];exact⟨SV.dM c,SV.dM a⟩
theorem Hw {sz i o j q:Nat}(a:Sl v sz n i o)(b:Sl v sz n j q)(h:0<n):i=j/\o=q:=by
 have e:=(a.ixa .i64 0 om om).symm.trans (b.ixa .i64 0 om om);simpa using e
theorem MU:{l:List (Nat×List Nat)}->{i:Nat}->(hi:i<l.length)->(zM l)[i*2+1]? =some (V.str l[i].2)
 |x::l,0,_=>rfl
 |x::l,i+1,hi=>by
  show (Fw x++zM l)[(i+1)*2+1]? =_;rw[zT (by show 2<=(i+1)*2+1;omega)];show (zM l)[(i+1)*2+1- 2]? =_;rw[show (i+1)*2+1- 2=i*2+1 by omega];exact MU (by simpa using hi)
theorem Ti: ∀k (hk:k<nJ.length),nJ.find? (λx=>x.1==nJ[k].1)=some nJ[k]:=deC
theorem XN:nJ.Pairwise λx y=>x.1<y.1:=deC
theorem HI: ∀x∈nJ,x.1<1000000:=deC
theorem KG (l:List Nat):jU (l.take 1)= []:=by cases l<;>rfl
theorem Pg (l:List (Nat×List Nat)):(Ad l).length=l.length:=by
 have:=(Kd l l.length (eU _)).2.1;rwa [List.take_length] at this
theorem CY.sort (r:CY b h v l)(t:b<=h.next)(k:l.length<20)(c: ∀x∈l,x.1<1000000):
  Ev T 70 [v,.fn 71 [] []] h (λ_ h'=>CY b h' v (Ad l)/\h.next<=h'.next/\ ∀q,q<b->h'.get q=h.get q):=by
 rcases r with ⟨rfl,rfl⟩|⟨S,rfl,g,o,i,a⟩
 .refine (Tm h.next 0 .aD [] h rfl om rfl (λj d=>om) (λh=>om) (λh=>om) c).mono ?_
  rintro f h' ⟨_,F⟩
  exact⟨.inl ⟨rfl,rfl⟩,F.next,λq m=>F.get q om om⟩
 .refine (Tm S l.length _ l h rfl k rfl (λj d=>by simp [El,d]) (λ_=>o) (λ_=>g) c).mono ?_
  rintro f h' ⟨p,F⟩
  have s:=F.next
  exact⟨.inr ⟨S,by rw[Pg],p a,om,i,by rw[Pg];exact a⟩,F.next,λq m=>F.get q om om⟩
def Ak (rs:LN):LN:=(Ad (jU (rs.map List.length))).map Prod.snd
theorem Kj {W0:Nat->Prop}(vc:V)(n:Nat)(O:LN)(R:iA)(G:List Nat->Prop)(h:H)(gc:GC W0 h vc n O R G):
  Ev T 14 [vc] h (λv h'=> ∃vl L K rs,v= .tup [vl,aC 0]/\bZ O R n 0 (bC n)=L/\vB n G L K/\zK n G L K rs/\SV h' vl 1 ((Ak rs).map V.str)/\(Ak rs).length<20/\Fr h h'):=by
 obtain⟨vO,vR,rfl,b8,c6⟩:=gc.shape
 obtain⟨A,hA⟩:=exI h.next
 obtain⟨h1,e1,n1,g1,q1,f1⟩:=dF hA [aC n,vO,vR]
 refine pY (aU h (v:= aC n) (u:=vO) (w:=vR) rfl b8 c6) hA e1 (aE g1) ?_
 refine (Xt _ n O R G h1 (gc.mono f1)).mono ?_
 rintro _ h2 ⟨vl,ls,L,K,rs,rfl,eL,ik,cl,sv,al,f2⟩
 have hG:=gc.cX
 obtain⟨E,eE⟩:=dA gc.cX gc.isc
 rw[eL] at E eE
 have ll:=dX gc
 obtain⟨rl,cb,g9⟩:=cl.ex
 have d9:=aJ.length al
 have g0:=cb.len
 have lv:bH vl=some (aC (rs.length:Int)):=by unfold bH;rw[SV.len sv (n:=rs.length) (by rw[iU,d9]) om];rfl
 have r0:0<rs.length:=(rW.1 cb.hd).1
 have sb: ∀i (hi:i<rs.length),1<=rs[i].length/\rs[i].length<=5040:=λi hi=>by
  have k:=cb.all _ (pN hi);have:=k.rk.short;refine⟨?_,om⟩;obtain⟨j,hj,_⟩:=k.cX.one;exact Ss hj
 obtain⟨sz,a4⟩:=exI (rs.map List.length)
 have d7:sz.length=rs.length:=by rw[<-a4,fL]
 have J: ∀i (hi:i<rs.length),sz[i]'om=rs[i].length:=λi hi=>by subst a4;rw[List.getElem_map]
 have b3: ∀j,sz.getD j 0<=5040:=λj=>by
  by_cases hj:j<rs.length
  .rw[List.getD,dC om,Option.getD_some,J j hj]
   exact (sb j hj).2
  .rw[List.getD,List.getElem?_eq_none om];exact fE _
 refine aM ?_
 refine bI (λhc=>(hc rfl).elim) (λ_=>?_)
 obtain⟨b,hb⟩:=exI h2.next
 refine aM ?_
 refine bY (λvs Q=> ∃z,(∃g:Nat->V,vs= [g 0,g 1,g 2,g 3,g 4,g 5,z,g 7,g 8,g 9,g 10,g 11,g 12,g 13,g 14,g 15,g 16,g 17,g 18,g 19,g 20,g 21,g 22,g 23,g 24,g 25,g 26,g 27,g 28,g 29])/\CY b Q z (jU sz)/\2^(jU sz).length<=5040/\(∀x∈jU sz,x.1<1000000)/\Fr h2 Q) ?_ ?_
 .refine aH (λB d Q=> ∃(i:Nat) (z:V),(∃g:Nat->V,d= [g 0,g 1,g 2,g 3,vl,g 5,z,aC i,g 8,g 9,g 10,g 11,g 12,g 13,g 14,g 15,g 16,g 17,g 18,g 19,g 20,g 21,g 22,g 23,g 24,g 25,g 26,g 27,g 28,g 29])/\1<=i/\i<=rs.length/\CY b Q z (jU (sz.take i))/\2^(jU (sz.take i)).length<=sz.getD (i- 1) 0/\(∀x∈jU (sz.take i),x.1<1000000)/\Fr h2 Q/\B=rs.length-i) (rs.length- 1)
   ⟨1,.aD,aB rfl,om,om,?_,?_,?_,Fr.refl _,rfl⟩ ?_
  .rw[KG];exact .inl ⟨rfl,rfl⟩
  .rw[KG,List.getD,dC om,Option.getD_some,J 0 r0]
   exact (sb 0 r0).1
  .rw[KG];exact λx P=>by cases P
  rintro B d Q ⟨i,z,⟨g,rfl⟩,i0,hi,fr,bd,sm,F,rfl⟩
  by_cases W:(i:Int)<(rs.length:Int)
  case neg=>
   have d1:=bT W;obtain rfl:i=rs.length:=om
   rw[<-d7,List.take_length] at fr bd sm;refine cU lv d1 ?_;exact⟨z,aB rfl,fr,kP bd (b3 _),sm,F⟩
  have d1:=cJ W
  have Y:i<rs.length:=om
  have U:i- 1<rs.length:=om
  obtain⟨ia,oa,a6,ra,na⟩:=SV.rec (k:=3) (f:=λp:V×V=> [aC n,p.1,p.2]) om (λ_=>rfl) (sv.mono F) (i:=i) om
  obtain⟨ib,ob,a7,rb,nb⟩:=SV.rec (k:=3) (f:=λp:V×V=> [aC n,p.1,p.2]) om (λ_=>rfl) (sv.mono F) (i:=i- 1) om
  obtain⟨rfl,rfl⟩:=Hw a6 a7 om
  have ga:=(aJ.get al i om Y).go (Fx.of F) (W':=λ_=>False) λ_ _ h=>h
  have gb:=(aJ.get al (i- 1) om U).go (Fx.of F) (W':=λ_=>False) λ_ _ h=>h
  have ei:(i:Int)- 1=((i- 1:Nat):Int):=om
  have fb: ∀m,Q.next<=m->Fr Q (H.mk Q.tr m):=λm hm=>(Fr.refl Q).bU hm
  refine uA lv d1 @a6.ixa ra ei @a7.ixa rb ?_
  refine ((ga.go (Fx.of (fb (Q.next+13) om)) (W':=λ_=>False) λ_ _ h=>h).sz E (cb.all _ (pN Y))).mono ?_
  rintro _ h3 ⟨rfl,f3⟩
  have a3:=(fb _ om).trans f3
  have b7:h3.row ia (oa+(i- 1)*3) 3=some [aC n,ls[i- 1].1,ls[i- 1].2]:=by rw[Zg a3 nb];exact rb
  have eb:=gb.eq
  refine dQ b7 @eb.1 @eb.2 ?_
  refine ((gb.go (Fx.of a3) (W':=λ_=>False) λ_ _ h=>h).sz E (cb.all _ (pN U))).mono ?_
  rintro _ h4 ⟨rfl,f4⟩
  have F4:=F.trans (a3.trans f4)
  obtain⟨q,o⟩:=exI (rs[i].length/rs[i- 1].length)
  have s1:=sb (i- 1) U
  have s2:=sb i Y
  have db:=CG hG E cb ik (i:=i- 1) om
  simp only[show i- 1+1=i by omega] at db
  have q2:2<=q:=by rw[<-o];exact (Nat.le_div_iff_mul_le om).2 db
  have q3:rs[i- 1].length*q<=rs[i].length:=by rw[<-o];exact Nat.mul_div_le _ _
  have q4:q<=5040:=kP (by rw[<-o];exact Nat.div_le_self _ _) s2.2
  have c5:Int.tdiv ((rs[i].length:Nat):Int) ((rs[i- 1].length:Nat):Int)=(q:Int):=by rw[<-o];rfl
  have z0:decide (((rs[i- 1].length:Nat):Int)=0)=false:=bT om
  refine cU c5 z0 ?_
  clear c5 z0 b7 ra rb a6 a7
  refine bY (λvs h'=>h'=h4/\ ∃p:Nat,(∃g:Nat->V,vs= [g 0,g 1,g 2,g 3,vl,g 5,z,aC i,aC q,aC p,g 10,g 11,g 12,g 13,g 14,g 15,g 16,g 17,g 18,g 19,g 20,g 21,g 22,g 23,g 24,g 25,g 26,g 27,g 28,g 29])/\2<=p/\p<=q/\q%p=0/\p=Ja (q- 2) q 2) ?_ ?_
  .refine aH (λB d h'=> ∃(p:Nat),(∃g:Nat->V,d= [g 0,g 1,g 2,g 3,vl,g 5,z,aC i,aC q,aC p,g 10,g 11,g 12,g 13,g 14,g 15,g 16,g 17,g 18,g 19,g 20,g 21,g 22,g 23,g 24,g 25,g 26,g 27,g 28,g 29])/\2<=p/\p<=q/\Ja (q-p) q p=Ja (q- 2) q 2/\h4=h'/\B=q-p) (q- 2)
    ⟨2,aB rfl,eU _,q2,rfl,rfl,rfl⟩ ?_
   rintro B d h' ⟨p,⟨g,rfl⟩,p2,pq,lp,rfl,rfl⟩
   have em:Int.tmod (q:Int) (p:Int)=((q%p:Nat):Int):=rfl
   have z0:decide ((p:Int)=0)=false:=bT om
   by_cases hz:q%p=0
   .have dz:decide (((q%p:Nat):Int)≠0)=false:=bT om
    have e:p=Ja (q- 2) q 2:=by
     rw[<-lp]
     cases q-p with
     |zero=>rfl
     |succ f=>show p=if q%p=0 then p else _;rw[bL hz]
    refine dQ em z0 dz ?_
    exact⟨p,aB rfl,p2,pq,hz,e⟩
   .have dz:decide (((q%p:Nat):Int)≠0)=true:=cJ om
    have pl:p<q:=Nat.lt_of_le_of_ne pq λe=>hz (by rw[e];exact Nat.mod_self q)
    have e:Ja (q-(p+1)) q (p+1)=Ja (q- 2) q 2:=by
     rw[<-lp,show q-p=(q-(p+1))+1 by omega];show _=if q%p=0 then p else _
     rw[bV hz]
    refine dQ em z0 dz ?_
    rw[eJ p]
    exact⟨q-(p+1),om,p+1,aB rfl,om,pl,e,rfl⟩
  rintro d h' ⟨rfl,p,⟨g,rfl⟩,p2,pq,hz,ep⟩
  refine aM ?_
  refine bY (λvs h5=>Fr h' h5/\ ∃k r:Nat,(∃g:Nat->V,vs= [g 0,g 1,g 2,g 3,vl,g 5,z,aC i,aC q,aC p,aC k,aC r,g 12,g 13,g 14,g 15,g 16,g 17,g 18,g 19,g 20,g 21,g 22,g 23,g 24,g 25,g 26,g 27,g 28,g 29])/\q=p^k*r/\1<=r/\(k,r)=Lu q p 0 q) ?_ ?_
  .refine aH (λB d h5=> ∃(k r f:Nat),(∃g:Nat->V,d= [g 0,g 1,g 2,g 3,vl,g 5,z,aC i,aC q,aC p,aC k,aC r,g 12,g 13,g 14,g 15,g 16,g 17,g 18,g 19,g 20,g 21,g 22,g 23,g 24,g 25,g 26,g 27,g 28,g 29])/\q=p^k*r/\1<=r/\r<=f/\Lu f p k r=Lu q p 0 q/\k<1000000-r/\Fr h' h5/\r=B) q
    ⟨0,q,q,aB rfl,siM,om,eU _,rfl,om,Fr.refl _,rfl⟩ ?_
   rintro B d h5 ⟨k,r,f,⟨g,rfl⟩,eq,r1,rf,sf,kb,f5,rfl⟩
   have em:Int.tmod (r:Int) (p:Int)=((r%p:Nat):Int):=rfl
   have z0:decide ((p:Int)=0)=false:=bT om
   have rq:r<=q:=by rw[eq];exact Nat.le_mul_of_pos_left _ (Nat.pow_pos om)
   by_cases hz:r%p=0
   .have dz:decide (((r%p:Nat):Int)=0)=true:=cJ om
    have ed:Int.tdiv (r:Int) (p:Int)=((r/p:Nat):Int):=rfl
    obtain⟨f',rfl⟩: ∃f',f=f'+1:=⟨f- 1,om⟩
    have e:Lu f' p (k+1) (r/p)=Lu q p 0 q:=by
     rw[<-sf];show _=if r%p=0 then _ else _
     rw[bL hz]
    have rd:r/p<r:=Nat.div_lt_self om om
    have rm:p*(r/p)=r:=Nat.mul_div_cancel' (Nat.dvd_of_mod_eq_zero hz)
    have rp:1<=r/p:=Nat.pos_of_ne_zero λe=>by rw[e,Nat.mul_zero] at rm;omega
    have e2:q=p^(k+1)*(r/p):=by rw[Nat.pow_succ,Nat.mul_assoc,rm];exact eq
    refine gX em z0 dz ed ?_
    rw[eJ k]
    exact⟨r/p,rd,k+1,r/p,f',aB rfl,e2,rp,om,e,om,f5.trans ((Fr.refl _).bU om),rfl⟩
   .have dz:decide (((r%p:Nat):Int)=0)=false:=bT om
    have e:(k,r)=Lu q p 0 q:=by
     rw[<-sf]
     cases f with
     |zero=>omega
     |succ f=>show _=if r%p=0 then _ else _;rw[bV hz]
    refine dQ em z0 dz ?_
    exact⟨f5,k,r,aB rfl,eq,r1,e⟩
  rintro d h5 ⟨f5,k,r,⟨g,rfl⟩,d0,r1,e9⟩
  have F5:=F4.trans f5
  have c2:=fr.mono ((a3.trans f4).trans f5)
  have d4:gO q=uM p k q r:=by
   unfold gO;rw[<-ep,<-e9]
  have N:jU (sz.take (i+1))=jU (sz.take i)++uM p k q r:=by
   have:=Eg sz (i- 1) om;simp only[show i- 1+2=i+1 by omega,show i- 1+1=i by omega] at this;rw[J i Y,J (i- 1) U,o,d4] at this;exact this
  have a2:2^(jU (sz.take (i+1))).length<=sz.getD (i+1- 1) 0:=by
   rw[N,iB,Nat.pow_add,Nat.add_sub_cancel,List.getD,dC om,Option.getD_some,J i Y];rw[List.getD,dC om,Option.getD_some,J (i- 1) U] at bd;exact kP (Nat.mul_le_mul bd (Xj p2 q2 d0 r1)) q3
  have h0:b<=h5.next:=by have:=F5.next;omega
  have e0:{m s:Nat}->2^m<=s->s<=5040->m<20:=λ{m s} h1 h2=>zQ λh=>by
   have:=Nat.pow_le_pow_right (show 0<2 by omega) (show 20<=m by omega);have e:2^20=1048576:=rfl;omega
  have a0:=e0 a2 (b3 _)
  have b1:(∀x∈uM p k q r,x.1<1000000)-> ∀x∈jU (sz.take (i+1)),x.1<1000000:=λh x P=>by
   rw[N] at P;exact (jO.1 P).elim (sm x) (h x)
  rw[N,iB] at a0
  by_cases a5:r=1
  .have d2:decide ((r:Int)=1)=true:=cJ om
   have Z:uM p k q r=List.replicate k (p,67::mN p):=by unfold uM;rw[bL a5]
   rw[Z,List.length_replicate] at a0
   have e4:=b1 (by rw[Z];exact λx P=>by rw[(List.mem_replicate.1 P).2];show p<_;omega)
   refine bE d2 ?_
   refine bY (λvs h'=> ∃t,(∃g:Nat->V,vs= [g 0,g 1,g 2,g 3,vl,g 5,t,aC i,g 8,g 9,g 10,g 11,g 12,g 13,g 14,g 15,g 16,g 17,g 18,g 19,g 20,g 21,g 22,g 23,g 24,g 25,g 26,g 27,g 28,g 29])/\CY b h' t (jU (sz.take i)++List.replicate k (p,67::mN p))/\Fr h2 h') ?_ ?_
   .refine aH (λB d h'=> ∃(j:Nat) (t:V),(∃g:Nat->V,d= [g 0,g 1,g 2,g 3,vl,g 5,t,aC i,g 8,aC p,g 10,g 11,g 12,g 13,g 14,g 15,g 16,g 17,g 18,g 19,g 20,g 21,aC k,aC j,g 24,g 25,g 26,g 27,g 28,g 29])/\j<=k/\CY b h' t (jU (sz.take i)++List.replicate j (p,67::mN p))/\Fr h2 h'/\B=k-j) k
     ⟨0,z,aB rfl,fE _,by rw[List.replicate_zero,qV];exact c2,F5,rfl⟩ ?_
    rintro B d h6 ⟨j,w6,⟨g,rfl⟩,g3,a1,F6,rfl⟩
    by_cases c3:(j:Int)<(k:Int)
    case neg=>
     have d3:=bT c3;obtain rfl:j=k:=om
     refine bE d3 ?_;exact⟨w6,aB rfl,a1,F6⟩
    have d3:=cJ c3
    refine bE d3 ?_
    refine (XX p h6 om).mono ?_
    rintro _ h7 ⟨rfl,f7⟩
    have dl:=Ci p
    obtain⟨D,hD⟩:=exI h7.next
    obtain⟨h8,e8,n8,g8,q8,f8⟩:=dF hD (Fw (p,67::mN p))
    have n7:=F6.next
    have g2:=f7.next
    obtain⟨t,h9,a9,b2,n9,o9⟩:=DT (x:=(p,67::mN p)) ((a1.mono f7).mono f8) om (by rw[iB,List.length_replicate];omega) om g8
    have d6:SJ h7 (.str [67]) (.str (mN p))=some (.str (67::mN p),h7):=Pv h7 (a:= [67]) (b:=mN p) (by show 1+_<_;omega)
    refine uA @Il d6 @AX @RX hD e8 a9 ?_
    rw[eJ j]
    exact⟨k-(j+1),om,j+1,t,aB rfl,om,by rw[List.replicate_succ',<-pJ];exact b2,⟨om,λq' b0=>by rw[o9 q' om,q8 q' om,f7.get q' om];exact F6.get q' b0⟩,rfl⟩
   rintro d h6 ⟨w6,⟨g,rfl⟩,a1,F6⟩
   refine aM ?_
   rw[eJ i]
   exact⟨rs.length-(i+1),om,i+1,w6,aB rfl,om,om,by rw[N,Z];exact a1,a2,e4,F6,rfl⟩
  have d2:decide ((r:Int)=1)=false:=bT om
  refine bE d2 ?_
  refine (TF h5).mono ?_
  rintro vt h6 ⟨b6,f6⟩
  refine aM ?_
  refine (UC vt nJ q h6 deC om HI XN b6).mono ?_
  rintro _ h7 ⟨kk,bb,rfl,f9,c9,f7⟩
  have F7:=F5.trans (f6.trans f7)
  have c0:=c2.mono (f6.trans f7)
  cases bb with
  |false=>
   have Z:uM p k q r= []:=by
    unfold uM;rw[bV a5,List.find?_eq_none.2 λx P=>by simpa using c9 rfl x P]
   refine aM ?_;rw[eJ i];exact⟨rs.length-(i+1),om,i+1,z,aB rfl,om,om,by rw[N,Z,qV];exact c0,a2,b1 (by rw[Z];exact λx P=>by cases P),F7,rfl⟩
  |true=>
   obtain⟨hk,ek⟩:=f9 rfl
   have Z:uM p k q r= [(q,nJ[kk].2)]:=by
    have:=Ti kk hk;rw[ek] at this;unfold uM;rw[bV a5,this]
   obtain⟨it,ot,f0,_,ct⟩:=(b6.mono f7).shape nJ.length (By _) om;have ck:=(ct (kk*2+1) (by rw[By];omega)).trans (MU hk);rw[<-Nat.add_assoc] at ck;obtain⟨D,hD⟩:=exI h7.next;obtain⟨h8,e8,n8,g8,q8,f8⟩:=dF hD (Fw (q,nJ[kk].2));have n7:=F7.next;obtain⟨t,h9,a9,b2,n9,o9⟩:=DT (x:=(q,nJ[kk].2)) (c0.mono f8) om om om g8;refine uA @f0.ixa ck @AX @RX hD e8 a9 ?_;rw[eJ i];exact⟨rs.length-(i+1),om,i+1,t,aB rfl,om,om,by rw[N,Z];exact b2,a2,b1 (by rw[Z];exact λx P=>by rw[List.mem_singleton.1 P];show q<_;omega),⟨om,λq' b0=>by rw[o9 q' om,q8 q' om];exact F7.get q' b0⟩,rfl⟩
 rintro d Q ⟨z,⟨g,rfl⟩,fr,bd,sm,F⟩
 have nF:=F.next
 have a0:(jU sz).length<20:=zQ λh=>by
  have:=Nat.pow_le_pow_right (show 0<2 by omega) (show 20<=(jU sz).length by omega);have e:2^20=1048576:=rfl;omega
 refine aM ?_
 refine (fr.sort om a0 sm).mono ?_
 rintro w3 h3 ⟨c4,n3,o3⟩
 have F3:Fr h2 h3:=⟨om,λq o=>by rw[o3 q om,F.get q o]⟩
 obtain⟨y,b9⟩:=exI (Ad (jU sz))
 have c8:=Pg (jU sz)
 rw[b9] at c4 c8
 have en:Ak rs=y.map Prod.snd:=by unfold Ak;rw[a4,b9]
 have b4:SV h3 z 2 (zM y):=c4.own.sv
 have c7:=Xp b4
 refine bE c7 ?_
 refine aH (λB d h'=> ∃(j:Nat) (w:V),(∃g:Nat->V,d= [g 0,g 1,g 2,g 3,g 4,g 5,g 6,g 7,g 8,g 9,g 10,g 11,g 12,g 13,g 14,w,g 16,g 17,g 18,g 19,g 20,g 21,g 22,g 23,g 24,g 25,z,aC (y.length:Int),aC j,g 29])/\j<=y.length/\cW h' w 1 ((y.take j).map λx=>V.str x.2) h3.next/\Fr h3 h'/\B=y.length-j) y.length
  ⟨0,.aD,aB rfl,fE _,cW.aD _ _ _,Fr.refl _,rfl⟩ ?_
 rintro B d h4 ⟨j,w,⟨g,rfl⟩,hj,ow,F4,rfl⟩
 by_cases W:(j:Int)<(y.length:Int)
 case neg=>
  have d1:=bT W;obtain rfl:j=y.length:=om
  rw[List.take_length] at ow;refine bE d1 ?_;refine⟨w,L,K,rs,rfl,eL,ik,cl,by rw[en,List.map_map];exact ow.sv,by rw[en,fL];omega,f1.trans (f2.trans (F3.trans F4))⟩
 have d1:=cJ W
 have b5:j<y.length:=om
 obtain⟨ij,oj,e3,rj,_⟩:=Qp (b4.mono F4) b5
 obtain⟨C,hC⟩:=exI h4.next
 obtain⟨h5,e5,n5,g5,q5,f5⟩:=dF hC [aC 0,.str []]
 obtain⟨h6,e6,n6,g6,q6⟩:=lU h5 C (Fw y[j])
 obtain⟨h7,e7,n7,g7,q7,f7⟩:=dF (h:=h6) (n6.trans n5) [.str y[j].2]
 have c1:Fr h4 h7:=⟨om,λq o=>by rw[q7 q om,q6 q om,q5 q om]⟩
 have n4:=F4.next
 have lt:((y.take j).map λx=>V.str x.2).length=j:=by rw[fL,wH,Nat.min_eq_left hj]
 obtain⟨h8,a8,p8⟩:=((ow.fr c1).le (fE _)).push (bytes:=16) (SV.one om g7 (.kn 1)) (n:=j) (m:=1) om rfl om om om
 have n8:=p8.next
 have d5:(o:H)->(id:Nat)->eH (bG [aC 0,.str []]) o id 0 (Fw y[j])=some (o.set id (bG (Fw y[j]))):=λo id=>by simp [eH,putAt]
 have d8:(o:H)->(s:List Nat)->mC o 1 [.str []] 1 [(0,1,.str s)]=some (.sl o.next 0 1 (.kn 1),o.new (.cells false [.str s])):=λo s=>cQ o rfl rfl
 simp(disch:=omega)only[go_sem,d1,e3.ixa,rj,hC,e5,Dh _ C 0 (a:= aC (y[j].1:Int)) (b:= .str y[j].2) rfl rfl,g5,d5,e6,H.cell_of g6,d8,n6,n5,e7,a8]
 rw[eJ j]
 refine⟨y.length-(j+1),om,j+1,_,aB rfl,om,?_,⟨om,λq o=>?_⟩,rfl⟩
 .rw[List.take_succ_eq_append_getElem b5,List.map_append]
  exact p8.own om rfl om
 .rw[p8.old q om λid g4 m c e e2=>by have:=(ow.in _ _ _ _ e).2.1;omega,c1.get q om]
  exact F4.get q o
end
structure BsJ (n:Nat)(D:Nat)(lf:List (V×V))(fd ls:List (List Nat))(vb:V)(hh:H):Prop where
 cl: ∃a b c,hh.get D=some (.cells false [a,b,c])
 ex:(ls= []/\vb= .aD)\/(ls≠ []/\ ∃j,∃hj:j<lf.length,fd.getD j []=Nj ls/\SI hh vb (zi (Nj ls))/\(∃id off m c,vb= .sl id off m c/\id≠D)/\hh.get D=some (.cells false [.int .i64 (n:Int),lf[j].1,lf[j].2]))
theorem BsJ.mono {n D:Nat}{lf:List (V×V)}{a ls:List (List Nat)}{d:V}{hh h':H}(b:BsJ n D lf a ls d hh)(f:Fr hh h')(h:D<hh.next):BsJ n D lf a ls d h':=by
 obtain⟨⟨x,y,z,c⟩,e⟩:=b;refine⟨⟨x,y,z,by rw[f.get D h];exact c⟩,e.imp id λ⟨i,j,hj,h2,h3,h4,h5⟩=>⟨i,j,hj,h2,h3.mono f,h4,by rw[f.get D h];exact h5⟩⟩
open Classical in
theorem Md {W0:Nat->Prop}(vc:V)(n:Nat)(O:List (List Nat))(R:List (List (List Nat)))(G:List Nat->Prop)(L:List (List Nat))(K:List Nat)(h:H)(gc:GC W0 h vc n O R G)(hL:bZ O R n 0 (bC n)=L)(ik:vB n G L K):
  Ev T 13 [vc] h (λv h'=> ∃vl ls rs,v= .tup [vl,.int .i64 0]/\zK n G L K rs/\SV h' vl 3 (Dk n ls)/\aJ (wV (λ_=>False) n L h') ls rs/\Fr h h'):=by
 obtain⟨vO,vR,rfl,j0,i5⟩:=gc.shape
 have n0:=gc.n0
 have n7:=gc.n7
 have hG:=gc.cX
 obtain⟨E,ll⟩:=dA gc.cX gc.isc
 have r1:=dX gc
 rw[hL] at E ll
 obtain⟨B,hB⟩: ∃B,h.next=B:=⟨_,rfl⟩
 obtain⟨z,e1,n1,g1,o1,f1⟩:=dF hB [.int .i64 (n:Int),vO,vR]
 have bx:=aU h (v:= .int .i64 (n:Int)) (u:=vO) (w:=vR) rfl j0 i5
 refine pY bx hB e1 (aE g1) ?_
 refine (AF _ n O R G z (gc.mono f1)).mono ?_
 rintro _ l ⟨rfl,f2⟩
 have F2:=f1.trans f2
 have g2:l.get B=some (.cells false [.int .i64 (n:Int),vO,vR]):=by rw[f2.get _ om];exact g1
 have d0:decide ((0:Int)≠0)=false:=rfl
 simp(disch:=omega)only[go_sem,d0,H.cell_of g2]
 refine (qK .aD n [] l n0 n7 (by show 0<=4096;omega) ⟨[],SV.aD l 1,trivial⟩ (λg hg=>by cases hg)).mono ?_
 rintro _ h3 ⟨vm,Om,Rm,rfl,gm,f3⟩
 obtain⟨mO,mR,rfl,g8,g7⟩:=gm.shape
 have eg: ∀x,bX n (· ∈([]:List (List Nat))) x↔RG L (Km L λx=>x=bC n) x:=λx=>Iff.trans ⟨λh=>by
  have e: ∀g,g∈([]:List (List Nat))->g=bC n:=λg hg=>by cases hg
  have r:=bX.le (Ik n) e h
  exact r,λh=>by rw[h];exact .one⟩ ((xW L λx=>x=bC n).iff E (λx o=>by rw[o];exact hG.one) x)
 obtain⟨A,hA⟩: ∃A,h3.next=A:=⟨_,rfl⟩
 obtain⟨h4,e4,n4,g4,o4,f4⟩:=dF hA [.int .i64 0,.aD,.aD]
 obtain⟨h5,e5,n5,g5,o5⟩:=lU h4 A [.int .i64 (n:Int),mO,mR]
 obtain⟨h6,e6,n6,g6,o6,f6⟩:=dF (h:=h5) (ID:=A+1) om [.int .i64 (n:Int),mO,mR]
 have l2:=f2.next
 have l3:=f3.next
 have d4:Fr h3 h6:=⟨om,λq hq=>by rw[o6 q om,o5 q om,o4 q om]⟩
 have F6:Fr h h6:=F2.trans (f3.trans d4)
 have i6:h6.get A=some (.cells false [.int .i64 (n:Int),mO,mR]):=by rw[o6 A om];exact g5
 have l6:h6.get B=some (.cells false [.int .i64 (n:Int),vO,vR]):=by rw[d4.get B om,f3.get B om];exact g2
 simp(disch:=omega)only[go_sem,hA,e4,bW h4 A 0 (v:= .int .i64 (n:Int)) (u:=mO) (w:=mR) rfl g8 g7,g4,bQ,e5,aE g5,Fp h5 g8 g7,show h5.next=A+1 by omega,e6]
 have e8:wV (λq=>q=A\/dG (.sl (A+1) 0 1 (.kn 1)) q) n L h6 (mO,mR) (Km L λx=>x=bC n):=⟨Om,Rm,((gm.jK (W':=λq=>q=A\/dG (.sl (A+1) 0 1 (.kn 1)) q) λq z l=>by
  rcases l with e|⟨_,_,_,e⟩
  .omega
  .cases e;omega).mono d4).congr eg⟩
 have i7:h6.get (A+1)=some (.cells false [.int .i64 (n:Int),mO,mR]):=g6
 clear gm g5 o4 o5 o6 g6 e4 e5 e6
 refine aH (λk' J hh=> ∃(r:List Nat) (p:V×V) (vl:V) (ls:List (V×V)) (rs:List (List Nat)),(∃g:Nat->V,J= [g 0,.ptr B 0,g 2,g 3,g 4,.ptr A 0,vl,g 7,g 8,g 9,g 10,g 11,g 12,g 13,g 14,g 15,g 16,g 17,g 18,g 19])/\hh.get A=some (.cells false [.int .i64 (n:Int),p.1,p.2])/\wV (λq=>q=A\/dG vl q) n L hh p r/\cW hh vl 3 (Dk n ls) (A+1)/\aJ (wV (λq=>q=A\/dG vl q) n L hh) ls rs/\zS n G L K rs r/\Fr h3 hh/\A<hh.next/\k'=L.length-r.length) (L.length-(Km L λx=>x=bC n).length)
  ⟨_,(mO,mR),_, [(mO,mR)], [Km L λx=>x=bC n],aB rfl,i6,e8,.inr ⟨A+1,1,_, [],rfl,rfl,.inr ⟨rfl,rfl⟩,om,om,i7⟩,⟨e8,trivial⟩,zS.start hG E,d4,om,rfl⟩ ?_
 clear e8 i6 l6 i7
 rintro k' J hh ⟨r,p,vl,ls,rs,⟨g,rfl⟩,gA,gp,ow,al,cb,F,nA,rfl⟩
 have kr:zF n G L r:=cb.all r (Oc cb.la)
 have FF:Fr h hh:=F2.trans (f3.trans F)
 have gB:hh.get B=some (.cells false [.int .i64 (n:Int),vO,vR]):=by rw[F.get B om,f3.get B om];exact g2
 obtain⟨Op,Rp,a8⟩:=gp
 obtain⟨_,q0,p5⟩:=a8.one
 have h9:=wV.eq (show wV (λq=>q=A\/dG vl q) n L hh p r from ⟨Op,Rp,a8⟩)
 have ec:dM vO vO=true/\dM vR vR=true:=by
  obtain⟨_,_,_,_,e,sO,_,_,sR,_,_⟩:=gc.cw;cases e;exact⟨SV.dM sO,SV.dM sR⟩
 have k0:=(Fr.refl hh).bU (n:=hh.next+5) om
 refine cU (aE gA) (aE gB) ?_
 refine (zH _ n Op Rp _ _ (a8.mono k0)).mono ?_
 rintro _ ha ⟨rfl,fa⟩
 have b3:=k0.trans fa
 have la:=b3.next
 have k5:ha.get A=some (.cells false [.int .i64 (n:Int),p.1,p.2]):=by rw[b3.get A nA];exact gA
 have n9:ha.get B=some (.cells false [.int .i64 (n:Int),vO,vR]):=by rw[b3.get B om];exact gB
 refine kA (aE n9) (aE k5) @ec.1 @ec.2 @h9.1 @h9.2 ?_
 refine (zH _ n O R G ha (gc.mono (FF.trans b3))).mono ?_
 rintro _ hb ⟨rfl,fb⟩
 have U:=b3.trans fb
 have lb:=U.next
 have k3:hb.get A=some (.cells false [.int .i64 (n:Int),p.1,p.2]):=by rw[U.get A nA];exact gA
 have k2:hb.get B=some (.cells false [.int .i64 (n:Int),vO,vR]):=by rw[U.get B om];exact gB
 have l8:=Rk.len a8.cX a8.isc E kr.le kr.rk
 rw[<-l8,<-ll]
 have r0:=kr.rk.short
 by_cases g9:(r.length:Int)<(L.length:Int)
 case neg=>
  have d1:decide ((r.length:Int)<(L.length:Int))=false:=decide_eq_false g9;refine bE d1 ?_;exact⟨vl,ls,rs,rfl,⟨r,cb,om⟩,ow.sv.mono U,aJ.mono (λ_ _ x=>wV.go x (Fx.of U) λ_ _ h=>h.elim) al,FF.trans U⟩
 have d1:decide ((r.length:Int)<(L.length:Int))=true:=decide_eq_true g9
 have hr:r.length<L.length:=om
 refine dQ d1 (aE k2) (aE k3) ?_
 refine (RY _ _ n O Op R Rp G L K r hb (gc.mono (FF.trans U)) (a8.mono U) hL ik kr).mono ?_
 rintro v7 hc ⟨lf,g0,c7,fc⟩
 have lc:=fc.next
 obtain⟨d,a5⟩: ∃d,SQ n G L r K=d:=⟨_,rfl⟩
 rw[a5] at c7
 have b4:=aJ.length c7
 have m7:d.Nodup:=by rw[<-a5];exact acD K [] List.nodup_nil
 have f5: ∀a∈d,zF n G L a:=λa ha=>by
  rw[<-a5] at ha;obtain⟨i,hi,_,e⟩:=Ii.1 ha;rw[e];exact Nt hG E kr (ik.lt hi)
 have kl:K.length<=L.length:=by
  have:=List.Nodup.length_le_of_subset (l₂:=List.range L.length) ik.nd λx o=>wY.2 (ik.lt o)
  rwa [Ng] at this
 have p3:d.length<=K.length:=by
  have:=Sh (n:=n) (G:=G) (L:=L) (r:=r) K [];rw[<-a5];simpa [SQ] using this
 have d5:bH v7=some (.int .i64 (d.length:Int)):=by unfold bH;rw[SV.len g0.sv (n:=d.length) (by rw[iU,b4]) om];rfl
 obtain⟨D,hD⟩: ∃D,hc.next=D:=⟨_,rfl⟩
 obtain⟨hd,ed,nd,gd,od,p7⟩:=dF hD [.int .i64 0,.aD,.aD]
 obtain⟨he,ee,ne,ge,oe⟩:=lU hd D [.int .i64 0,.aD,.aD]
 have b6:Fr hc he:=⟨om,λq hq=>by rw[oe q om,od q om]⟩
 have a6:Fr hh he:=U.trans (fc.trans b6)
 have m5: ∀q,dG v7 q->q<D:=λq ⟨s,m,c,e⟩=>by
  have:=(g0.in _ _ _ _ e).1;omega
 have a3:aJ (wV (λq=>q=D) n L he) lf d:=aJ.mono (λ_ _ x=>wV.go (wV.go x (W':=λq=>q=D) (Fx.refl _ _) λq z l=>om) (Fx.of b6) λ_ _ h=>h) c7
 simp(disch:=omega)only[go_sem,show oN [.int .i64 0,.aD,.aD] []=some (.agg [.int .i64 0,.aD,.aD]) from rfl,hD,ed,bW hd D 0 (v:= .int .i64 0) (u:= .aD) (w:= .aD) rfl rfl rfl,gd,bQ,ee]
 have N:Gz (λq=>q=D) v7:=by
  cases v7 with
  |sl id s m c=>exact λ(e:id=D)=>by have:=m5 id ⟨_,_,_,rfl⟩;omega
  |_=>trivial
 have b9:SV he v7 3 (Dk n lf):=g0.sv.mono b6
 obtain⟨le,q8⟩: ∃le:Nat->Bool,(λi=>!uU d (d.getD i []))=le:=⟨_,rfl⟩
 refine bY (λvs o=> ∃vb,(∃g:Nat->V,vs= [g 0,.ptr B 0,g 2,g 3,g 4,.ptr A 0,vl,v7,vb,.ptr D 0,g 10,g 11,g 12,g 13,g 14,g 15,g 16,g 17,g 18,g 19])/\BsJ n D lf d (HT d) vb o/\Fx (· =D) he o) ?_ ?_
 .refine aH (λk' vs o=> ∃(i:Nat) (vb:V),(∃g:Nat->V,vs= [g 0,.ptr B 0,g 2,g 3,g 4,.ptr A 0,vl,v7,vb,.ptr D 0,.int .i64 (i:Int),g 11,g 12,g 13,g 14,g 15,g 16,g 17,g 18,g 19])/\i<=d.length/\BsJ n D lf d ((d.take i).filter λa=>!uU d a) vb o/\Fx (· =D) he o/\k'=d.length-i) d.length
   ⟨0,.aD,aB rfl,fE _,⟨⟨_,_,_,ge⟩,.inl ⟨rfl,rfl⟩⟩,Fx.refl _ _,rfl⟩ ?_
  rintro k' J o ⟨i,vb,⟨g,rfl⟩,hi,bj,fx,rfl⟩
  have lx:=fx.next
  by_cases i4:(i:Int)<(d.length:Int)
  case neg=>
   have d2:decide ((i:Int)<(d.length:Int))=false:=decide_eq_false i4;obtain rfl:i=d.length:=om
   rw[List.take_length] at bj;refine cU d5 d2 ?_;exact⟨vb,aB rfl,bj,fx⟩
  have d2:decide ((i:Int)<(d.length:Int))=true:=decide_eq_true i4
  have a9:i<d.length:=om
  have gi:d.getD i []=d[i]:=by rw[List.getD,dC a9];rfl
  obtain⟨Q,hQ⟩: ∃Q:Nat->Bool,(λk=>decide (k=i)||!decide (∀x,RG L (d.getD k []) x->RG L (d.getD i []) x))=Q:=⟨_,rfl⟩
  have Bq:=IX E m7 f5 a9
  rw[hQ] at Bq
  refine cU d5 d2 ?_
  refine bY (λvs Z=>(∃g:Nat->V,vs= [g 0,.ptr B 0,g 2,g 3,g 4,.ptr A 0,vl,v7,vb,.ptr D 0,.int .i64 (i:Int),.bool (!uU d (d.getD i [])),g 12,g 13,g 14,g 15,g 16,g 17,g 18,g 19])/\Fr o Z) ?_ ?_
  .refine aH (λk' vs Z=> ∃(k:Nat),(∃g:Nat->V,vs= [g 0,.ptr B 0,g 2,g 3,g 4,.ptr A 0,vl,v7,vb,.ptr D 0,.int .i64 (i:Int),.bool ((List.range k).all Q),.int .i64 (k:Int),g 13,g 14,g 15,g 16,g 17,g 18,g 19])/\k<=d.length/\Fr o Z/\k'=d.length-k) d.length
    ⟨0,aB rfl,fE _,Fr.refl _,rfl⟩ ?_
   rintro k' J Z ⟨k,⟨g,rfl⟩,hk,fy,rfl⟩
   have ra:(List.range (k+1)).all Q=((List.range k).all Q&&Q k):=by rw[List.range_succ,List.all_append];simp
   cases hs:(List.range k).all Q with
   |false=>
    have e3:(!uU d (d.getD i []))=false:=by
     rw[<-Bq,<-hs,Lf];refine⟨λh=>?_,λh=>by rw[hs] at h;cases h⟩;rw[vE] at h |-;exact λx o=>h x (wY.2 (by have:=wY.1 o;omega))
    refine aM ?_;rw[e3];exact⟨aB rfl,fy⟩
   |true=>
   by_cases i1:(k:Int)<(d.length:Int)
   case neg=>
    have d3:decide ((k:Int)<(d.length:Int))=false:=decide_eq_false i1;obtain rfl:k=d.length:=om
    refine cU d5 d3 ?_;rw[<-Bq,hs];exact⟨aB rfl,fy⟩
   have d3:decide ((k:Int)<(d.length:Int))=true:=decide_eq_true i1
   have i0:k<d.length:=om
   have P:Fx (λq=>q=D) he Z:=⟨by have:=fy.next;omega,λq z l=>by rw[fy.get q om];exact fx.get q z l⟩
   have c9:=SV.fx b9 N P
   obtain⟨ri,ro,b0,rC⟩:=qF c9 (i:=k) om
   obtain⟨o9,p0,e0,l7⟩:=qF c9 (i:=i) om
   obtain⟨Ok,o3,gk⟩:=aJ.get a3 k om i0
   obtain⟨Oi,Ri,b5⟩:=aJ.get a3 i om a9
   rw[b4] at b0 e0
   obtain⟨rfl,rfl⟩:=Hw b0 e0 om
   have a1:Fr Z (H.mk Z.tr (Z.next+14)):=(Fr.refl Z).bU om
   refine iT d5 d3 @b0.ixa rC l7 ?_
   refine (IV _ _ n Ok Oi o3 Ri _ _ _ ((gk.go P (W':=λq=>q=D) λ_ _ h=>h).mono a1) ((b5.go P (W':=λq=>q=D) λ_ _ h=>h).mono a1)).mono ?_
   rintro _ hz ⟨b,rfl,hb,fz⟩
   have a4:=fy.trans (a1.trans fz)
   have eQ:Q k=(decide (k=i)||!b):=by
    rw[<-hQ];show (decide (k=i)||!decide (∀x,RG L (d.getD k []) x->RG L (d.getD i []) x))=_;have n2:d.getD k []=d[k]:=by rw[List.getD,dC i0];rfl
    congr 2;rw[n2,gi]
    cases b with
    |true=>exact decide_eq_true (hb.1 rfl)
    |false=>exact decide_eq_false λh=>by have:=hb.2 h;cases this
   rw[hs,Bool.true_and,eQ] at ra
   have ek:decide ((k:Int)=(i:Int))=decide (k=i):=decide_eq_decide.2 om
   cases hki:decide (k=i) with
   |true=>
    rw[hki,Bool.true_or] at ra;rw[hki] at ek;refine bE ek ?_;rw[show (k:Int)+1=((k+1:Nat):Int) from om];refine⟨d.length-(k+1),om,k+1,?_,om,a4,rfl⟩;rw[ra];exact aB rfl
   |false=>
    rw[hki,Bool.false_or] at ra;rw[hki] at ek;refine bE ek ?_;rw[show (k:Int)+1=((k+1:Nat):Int) from om];refine⟨d.length-(k+1),om,k+1,?_,om,a4,rfl⟩;rw[ra];exact aB rfl
  rintro J Z ⟨⟨g,rfl⟩,fy⟩
  have ly:=fy.next
  have P:Fx (λq=>q=D) he Z:=⟨om,λq z l=>by rw[fy.get q om];exact fx.get q z l⟩
  have c9:=SV.fx b9 N P
  obtain⟨ri,ro,b0,rC⟩:=qF c9 (i:=i) om
  obtain⟨Oi,Ri,b5⟩:=aJ.get a3 i om a9
  rw[b4] at b0
  have n8:Z.get B=some (.cells false [.int .i64 (n:Int),vO,vR]):=by rw[P.get B om om,a6.get B om];exact gB
  have Fy:Fr h Z:=⟨by have:=FF.next;omega,λq hq=>by rw[P.get q (by have:=FF.next;omega) (by have:=FF.next;omega),a6.get q (by have:=FF.next;omega)];exact FF.get q hq⟩
  have a1:Fr Z (H.mk Z.tr (Z.next+7)):=(Fr.refl Z).bU om
  have c5:=f5 _ (pN a9)
  refine dQ (aE n8) @b0.ixa rC ?_
  refine (HF _ _ n O Oi R Ri G _ L _ (gc.mono (Fy.trans a1)) ((b5.go P (W':=λq=>q=D) λ_ _ h=>h).mono a1) E c5.le).mono ?_
  rintro b2 hz ⟨o8,l5,a7,fz⟩
  obtain rfl:=l5.uniq c5.rk
  have a4:=a1.trans fz
  have lz:=a4.next
  have c8:Fx (λq=>q=D) he hz:=⟨om,λq z l=>by rw[a4.get q om];exact P.get q z l⟩
  have lD:D<o.next:=om
  have j6:Fr o hz:=fy.trans a4
  have j3:=bj.mono j6 lD
  have f:(d.take (i+1)).filter (λa=>!uU d a)=(d.take i).filter (λa=>!uU d a)++if !uU d d[i] then [d[i]] else []:=by
   rw[List.take_succ_eq_append_getElem a9,List.filter_append];congr 1;cases h:(!uU d d[i])<;>simp [h]
  rw[<-gi] at f
  have k6:=SV.fx b9 N c8
  obtain⟨rz,oz,c6,l4⟩:=qF k6 (i:=i) om
  rw[b4] at c6
  have j2:=Rk.ne c5.cX
  rw[<-gi] at j2 a7
  have j8:(d.getD i []).length<=5040:=by have:=c5.rk.short;rw[gi];omega
  obtain⟨a2,j9⟩: ∃a2,(d.take i).filter (λa=>!uU d a)=a2:=⟨_,rfl⟩
  rw[j9] at f j3
  have f0: ∃id s m c,b2= .sl id s m c/\id≠D:=by
   have m2:=a7.in;rcases a7 with ⟨_,e⟩|⟨id,m,o2,_,rfl,_⟩
   .have:=congrArg List.length e
    rw[aN,aL] at this;have:(d.getD i []).length=0:=this;omega
   .exact⟨id,0,m,o2,rfl,by have:=(m2 _ _ _ _ rfl).2.1;have:Z.next+7<=id:=this;omega⟩
  obtain⟨t,ht⟩: ∃t,d.getD i []=t:=⟨_,rfl⟩
  rw[ht] at f a7 j8 j2
  rw[ht]
  obtain⟨_,q1,q2⟩:=b5.one
  obtain⟨⟨c1,c2,c3,f8⟩,c4⟩:=j3
  have j1:(hw:H)->Fr hz hw-> ∃a0,Ny hw 3 (.ptr D 0) (.agg [.int .i64 (n:Int),(lf[i]'om).1,(lf[i]'om).2])=some a0/\Fx (· =D) he a0/\a0.get D=some (.cells false [.int .i64 (n:Int),(lf[i]'om).1,(lf[i]'om).2])/\SI a0 b2 (zi t):=λhw fw=>by
   obtain⟨a0,e',n',g',o'⟩:=lU hw D [.int .i64 (n:Int),(lf[i]'om).1,(lf[i]'om).2];have m9:hw.get D=some (.cells false [c1,c2,c3]):=by rw[fw.get D om];exact f8
   have nw:=fw.next;refine⟨a0,by rw[bW hw D 0 (v:= .int .i64 (n:Int)) rfl q1 q2,m9,bQ,e'],⟨om,λq z l=>by rw[o' q l,fw.get q om];exact c8.get q z l⟩,g',?_⟩;refine SV.fx (W:=λq=>q=D) (a7.sv.mono fw) ?_ ⟨om,λq z l=>o' q l⟩;obtain⟨id,s,m,c,e,ne⟩:=f0;rw[e];exact ne
  have m1: ∀m,hz.next<=m->Fr hz (H.mk hz.tr m):=λm hm=>(Fr.refl hz).bU hm
  have ei:(i:Int)+1=((i+1:Nat):Int):=om
  cases hab:(!uU d t) with
  |false=>
   rw[hab,bV siM,qV] at f;refine bE @jS ?_;rw[ei];exact⟨d.length-(i+1),om,i+1,vb,aB rfl,om,by rw[f];exact⟨⟨c1,c2,c3,f8⟩,c4⟩,c8,rfl⟩
  |true=>
  rw[hab,bL rfl] at f
  have y:=PY a2 t
  rcases c4 with ⟨hn,rfl⟩|⟨g3,j,hj,ej,sj,⟨m8,m6,mb,m4,rfl,k4⟩,gj⟩
  .rw[bL hn] at y
   obtain⟨a0,e',f7,g',s'⟩:=j1 _ (m1 (hz.next+7) om)
   simp(disch:=omega)only[go_sem,jS,uJ,c6.ixa,l4,e']
   rw[ei]
   exact⟨d.length-(i+1),om,i+1,b2,aB rfl,om,⟨⟨_,_,_,g'⟩,.inr ⟨by rw[f];simp,i,om,by rw[f,y,ht],by rw[f,y];exact s',f0,g'⟩⟩,f7,rfl⟩
  .rw[bV g3] at y
   simp(disch:=omega)only[go_sem,jS,uJ]
   have lm:(Nj a2).length<=5040:=by
    have hm:=CN g3
    obtain⟨m,h0⟩: ∃m,Nj a2=m:=⟨_,rfl⟩
    rw[h0,<-j9] at hm;have:=(f5 _ (List.mem_of_mem_take (Re.1 hm).1)).rk.short;rw[h0];omega
   refine (VM b2 _ t (Nj a2) hz a7.sv sj j8 lm).mono ?_
   rintro _ hv ⟨rfl,fv⟩
   have p4:=fv.next
   have i9:Fx (λq=>q=D) he hv:=⟨om,λq z l=>by rw[fv.get q om];exact c8.get q z l⟩
   cases hlx:lexB t (Nj a2) with
   |true=>
    rw[hlx,bL rfl] at y;obtain⟨a0,e',f7,g',s'⟩:=j1 _ (fv.trans ((Fr.refl hv).bU (n:=hv.next+7) om))
    have k7:hv.row rz (oz+i*3) 3=some [.int .i64 (n:Int),(lf[i]'om).1,(lf[i]'om).2]:=by
     obtain⟨q3,q6,d8,h7⟩:=qF (SV.fx b9 N i9) (i:=i) om;rw[b4] at d8;obtain⟨rfl,rfl⟩:=Hw c6 d8 om;exact h7
    simp(disch:=omega)only[go_sem,jS,uJ,c6.ixa,k7,e'];rw[ei];exact⟨d.length-(i+1),om,i+1,b2,aB rfl,om,⟨⟨_,_,_,g'⟩,.inr ⟨by rw[f];simp,i,om,by rw[f,y,ht],by rw[f,y];exact s',f0,g'⟩⟩,f7,rfl⟩
   |false=>
    rw[hlx,bV siM] at y;simp(disch:=omega)only[go_sem,jS,uJ];rw[ei];exact⟨d.length-(i+1),om,i+1,_,aB rfl,om,⟨⟨c1,c2,c3,by rw[fv.get D om];exact f8⟩,.inr ⟨by rw[f];simp,j,hj,by rw[f,y];exact ej,by rw[f,y];exact sj.mono fv,⟨m8,m6,mb,m4,rfl,k4⟩,by rw[fv.get D om];exact gj⟩⟩,i9,rfl⟩
 rintro J o ⟨vb,⟨g,rfl⟩,⟨_,c4⟩,fx⟩
 have lx:=fx.next
 have j7:d≠ []:=by rw[<-a5];exact PI hG E kr ik hr
 rcases c4 with ⟨hn,_⟩|⟨_,j,hj,ej,_,_,j5⟩
 .exact absurd hn (BJ j7)
 have m0:Nj (HT d)=Dv n G L K r:=by rw[<-a5];rfl
 rw[m0] at ej
 have k9:o.get A=some (.cells false [.int .i64 (n:Int),p.1,p.2]):=by rw[fx.get A om om,a6.get A nA];exact gA
 obtain⟨Oj,Rj,e9⟩:=aJ.get a3 j hj om
 have n3:d[j]'om=Dv n G L K r:=by rw[<-ej,List.getD,dC om];rfl
 obtain⟨l0,l1,b1⟩:=aJ.get c7 j hj om
 rw[n3] at e9 b1
 generalize lf[j]=pn at e9 j5 b1
 obtain⟨_,q1,q2⟩:=e9.one
 obtain⟨i2,o0,q5,i8,i3⟩:=lU o A [.int .i64 (n:Int),pn.1,pn.2]
 obtain⟨C,hC⟩: ∃C,i2.next=C:=⟨_,rfl⟩
 obtain⟨f9,l9,q7,m3,e7,q4⟩:=dF hC [.int .i64 (n:Int),pn.1,pn.2]
 have b8: ∀Y,dG vl Y->A+1<=Y/\Y<hh.next:=λY ⟨s,m,c,e⟩=>by
  have:=ow.in _ _ _ _ e;omega
 have p6:=a6.next
 have p8:=aJ.length al
 have p2:=cb.len
 have j4:cW f9 vl 3 (Dk n ls) (A+1):=ow.qX om λid s m c e h=>by
  have:=b8 id ⟨s,m,c,e⟩;rw[e7 _ om,i3 _ om,fx.get id om om];exact a6.get id h
 obtain⟨c0,o7,b7⟩:=(j4.le (fE _)).push (bytes:=56) (SV.all (sz:=3) (len:=1) (vs:= [.int .i64 (n:Int),pn.1,pn.2]) rfl om m3 (.kn 1)) (n:=ls.length) (m:=1) (iU n ls) rfl om om om
 have p9:=b7.next
 simp(disch:=omega)only[go_sem,aE j5,bW o A 0 (v:= .int .i64 (n:Int)) (u:=pn.1) (w:=pn.2) rfl q1 q2,k9,bQ,o0,aE i8,Fp i2 q1 q2,hC,l9,o7]
 have ap: ∀Y,¬dG vl Y->dS vl Y:=λY h id s m c e e2=>h (by rw[e,e2];exact⟨_,_,_,rfl⟩)
 have d6:Fx (λq=>q=A\/dG vl q) o c0:=⟨om,λY z l=>by rw[b7.old Y om (ap Y λh=>l (.inr h)),e7 Y om,i3 Y λh=>l (.inl h)]⟩
 have d9:Fx (λq=>q=A\/dG vl q) hh c0:=⟨om,λY z l=>by rw[d6.get Y om l,fx.get Y om om];exact a6.get Y z⟩
 have k1:Fr h3 c0:=⟨by have:=F.next;omega,λq hq=>by rw[d9.get q (by have:=F.next;omega) λh=>h.elim (λh=>om) λh=>by have:=b8 q h;omega];exact F.get q hq⟩
 obtain⟨UO,k8,p1,_⟩:=vD hG E kr ik hr
 have q9:=k8.rk.short
 have h8:=b7.own (b:=A+1) (iU n ls) rfl om
 have d7:wV (λq=>q=A\/dG (.sl f9.next 0 (ls.length+1) (.un 3)) q) n L c0 pn (Dv n G L K r):=by
  refine⟨l0,l1,b1.go (W':=λq=>q=A\/dG (.sl f9.next 0 (ls.length+1) (.un 3)) q) ⟨om,λq z l=>?_⟩ λq z l=> .inl (l.elim (λh=>om) λ⟨s,m,c,e⟩=>by cases e;omega)⟩;have h3: ¬q<hb.next:=λh=>l (.inl h)
  rw[d6.get q om λh=>h.elim (λh=>om) λh=>by have:=b8 q h;omega,fx.get q om om];exact b6.get q z
 refine⟨L.length-(Dv n G L K r).length,om,Dv n G L K r,pn,_,ls++ [pn],rs++ [Dv n G L K r],aB rfl,?_,d7,by rw[Ie];exact h8,aJ.append (aJ.mono (λ_ _ x=>wV.go x d9 λY z l=>l.imp id λ⟨s,m,c,e⟩=>by cases e;omega) al) ⟨d7,trivial⟩,cb.push hG E ik hr,k1,om,rfl⟩
 rw[b7.old A om (ap A λh=>by have:=b8 A h;omega),e7 A om]
 exact i8
theorem YA (n:Nat):(h:H)->n<1000000->Ev T 118 [.int .i64 (n:Int)] h (λv h'=>v= .str (mN n)/\Fr h h'):=by
 induction n using Nat.strongRecOn with
 |_ n ih=>
  intro h p;refine kV ?_
  by_cases i:(n:Int)<10
  .have f:decide ((n:Int)<10)=true:=decide_eq_true i
   have c:(48:Int)+(n:Int)=((48+n:Nat):Int):=om
   have d:mN n= [48+n]:=by unfold mN;rw[bV om]
   simp(disch:=omega)only[go_sem,aI,f,c,Hu,Hx (show n<10 by omega),d];exact Fr.refl _
  .have f:decide ((n:Int)<10)=false:=decide_eq_false i
   have k:Int.tdiv (n:Int) 10=((n/10:Nat):Int):=rfl;have m:Int.tmod (n:Int) 10=((n%10:Nat):Int):=rfl;refine dQ @aI f k ?_;refine (ih (n/10) om h om).mono ?_;rintro _ l ⟨rfl,j⟩;have c:(48:Int)+((n%10:Nat):Int)=((48+n%10:Nat):Int):=om
   have o:=Ci (n/10)
   have d:mN n=mN (n/10)++ [48+n%10]:=by
                               conv=>lhs;unfold mN
                               rw[bL om]
   simp(disch:=omega)only[go_sem,m,c,Hu,Hx (Nat.mod_lt n (by omega:10>0)),Il,Pv l (a:=mN (n/10)) (b:= [48+n%10]) (by show _+1<_;omega),d];exact j
theorem abH (n:Nat)(h:H)(b:n<1000000):Ev T 73 [.int .i64 (n:Int)] h (λv h'=>v= .str (mN n)/\Fr h h'):=by
 refine nL ?_;refine (YA n h b).mono ?_;rintro _ c ⟨rfl,a⟩;refine aM ?_;exact a
def BL (n:Nat):List Nat:=match nJ.find? (λx=>x.1==n) with|some x=>x.2|none=> []
theorem OP (n:Nat)(h:H):Ev T 72 [.int .i64 (n:Int)] h (λv h'=>v= .str (BL n)/\Fr h h'):=by
 obtain⟨A,q⟩: ∃A,h.next=A:=⟨_,rfl⟩
 obtain⟨p,O,u,J,Q,z⟩:=dF q (nJ.map λx=> .int .i64 (x.1:Int));obtain⟨o,F,U,y,P,N⟩:=dF u (nJ.map λx=> .str x.2);have w:mC h 1 [.int .i64 0] 10 [(0,1,.int .i64 60),(1,1,.int .i64 168),(2,1,.int .i64 360),(3,1,.int .i64 504),(4,1,.int .i64 660),(5,1,.int .i64 1092),(6,1,.int .i64 2448),(7,1,.int .i64 2520),(8,1,.int .i64 3420),(9,1,.int .i64 4080)]=some (.sl A 0 10 (.kn 10),p):=by rw[<-O,<-q];rfl
 have K:mC p 1 [.str []] 10 [(0,1,.str [65,53]),(1,1,.str [76,50,40,55,41]),(2,1,.str [65,54]),(3,1,.str [76,50,40,56,41]),(4,1,.str [76,50,40,49,49,41]),(5,1,.str [76,50,40,49,51,41]),(6,1,.str [76,50,40,49,55,41]),(7,1,.str [65,55]),(8,1,.str [76,50,40,49,57,41]),(9,1,.str [76,50,40,49,54,41])]=some (.sl (A+1) 0 10 (.kn 10),o):=by rw[<-F,<-u];rfl
 have F2:=z.trans N;refine Px w K ?_;refine aH (λr a b=> ∃(i:Nat),(∃g:Nat->V,a= [.int .i64 (n:Int),g 1,.sl A 0 10 (.kn 10),.sl (A+1) 0 10 (.kn 10),.int .i64 (i:Int),g 5,g 6])/\i<=10/\(∀j,j<i->(nJ.getD j (0, [])).1≠n)/\Fr o b/\r=10-i) 10
  ⟨0,aB rfl,fE _,λj k=>om,Fr.refl _,rfl⟩ ?_
 rintro r a b ⟨i,⟨g,rfl⟩,hi,t,f,rfl⟩;have R:nJ.length=10:=rfl
 by_cases c:(i:Int)<((10:Nat):Int)
 case neg=>
  have d:decide ((i:Int)<((10:Nat):Int))=false:=decide_eq_false c;refine bE d ?_;refine⟨?_,F2.trans f⟩
  have e:nJ.find? (λx=>x.1==n)=none:=List.find?_eq_none.2 λx L=>by
   obtain⟨j,k,rfl⟩:=rV.1 L;have:=t j om;rw[List.getD,dC k] at this;simpa using this
  unfold BL;rw[e]
 have d:decide ((i:Int)<((10:Nat):Int))=true:=decide_eq_true c;have B:i<10:=om
 have s:b.cell A i=some (.int .i64 ((nJ.getD i (0, [])).1:Int)):=by
  have:b.get A=some (.cells false (nJ.map λx=> .int .i64 (x.1:Int))):=by rw[f.get A om,P A om];exact J
  rw[H.cell_of this,Jj,List.getD,dC om]
  rfl
 have G:b.cell (A+1) i=some (.str (nJ.getD i (0, [])).2):=by
  have:b.get (A+1)=some (.cells false (nJ.map λx=> .str x.2)):=by rw[f.get _ om];exact y
  rw[H.cell_of this,Jj,List.getD,dC om]
  rfl
 by_cases m:(nJ.getD i (0, [])).1=n
 .have l:decide (((nJ.getD i (0, [])).1:Int)=(n:Int))=true:=decide_eq_true om
  refine gX d s l G ?_;refine⟨?_,F2.trans f⟩
  have e:nJ.find? (λx=>x.1==n)=some (nJ.getD i (0, [])):=by
   rw[List.getD,dC om,Option.getD_some];have:=Ti i om;rw[List.getD,dC om,Option.getD_some] at m;rwa [m] at this
  unfold BL;rw[e]
 .have l:decide (((nJ.getD i (0, [])).1:Int)=(n:Int))=false:=decide_eq_false om
  refine dQ d s l ?_;rw[show (i:Int)+1=((i+1:Nat):Int) from om];refine⟨10-(i+1),om,i+1,aB rfl,om,λj k=>?_,f,rfl⟩;rcases Nat.lt_succ_iff_lt_or_eq.1 k with h|rfl
  .exact t j h
  .exact m
theorem CE {h:H}{v:V}{sz b n k:Nat}{ws:List V}(o:cW h v sz ws b)(l:ws.length=n*sz)(z:0<sz)(i:k<=n):
  ∃v1 v2,pI sz v none (some (.int .i64 (k:Int))) none=some v1/\pI sz v (some (.int .i64 (k:Int))) none none=some v2/\SV h v1 sz (ws.take (k*sz))/\SV h v2 sz (ws.drop (k*sz)):=by
 rcases o with ⟨rfl,rfl⟩|⟨id,c,y,f,rfl,s,u,A,q,t⟩
 .have w:n*sz=0:=l.symm
  have:n=0:=by
   rcases Nat.mul_eq_zero.1 w with h|h
   .exact h
   .omega
  obtain rfl:k=0:=om
  exact⟨.aD,.aD,by simp [pI,kT],by simp [pI,kT],by rw[List.take_nil];exact SV.aD _ _,by rw[List.drop_nil];exact SV.aD _ _⟩
 .have:c=n:=Nat.eq_of_mul_eq_mul_right z (s.symm.trans l)
  subst this
  have B:k*sz<=c*sz:=Nat.mul_le_mul_right _ i
  have j: ∀a,SV h (.sl id 0 k a) sz (ws.take (k*sz)):=λa=> .inr ⟨id,0,k,a,false,ws++f,rfl,by rw[wH];omega,q,t,by rw[iB];omega,by rw[List.drop_zero,List.take_append_of_le_length om]⟩
  have p: ∀a d,(k<c->d=k*sz)->(c<=k->d=0)->SV h (.sl id d (c-k) a) sz (ws.drop (k*sz)):=λa d r x=>by
   have m:(c-k)*sz=c*sz-k*sz:=Nat.sub_mul _ _ _;refine .inr ⟨id,d,c-k,a,false,ws++f,rfl,by rw[Nx,m,s],q,t,?_,?_⟩
   .rw[iB,m]
    rcases Nat.lt_or_ge k c with h|h
    .rw[r h];omega
    .rw[x h];omega
   .rcases Nat.lt_or_ge k c with h|h
    .rw[r h,List.drop_append_of_le_length om,List.take_append_of_le_length (by rw[Nx];omega),Bo (by rw[Nx];omega)]
    .obtain rfl:k=c:=om
     rw[Nat.sub_self,Nat.zero_mul,List.take_zero,List.drop_eq_nil_of_le om]
  rcases u with rfl|⟨rfl,rfl⟩
  .refine⟨_,_,?_,?_,j (.un sz),p (.un sz) (if k<c then k*sz else 0) (λh=>bL h) (λh=>bV om)⟩
   .by_cases h:0<c
    .simp [pI,kT,i,h]
    .simp [pI,kT,i,h];omega
   .by_cases h:k<c
    .simp [pI,kT,i,h]
    .simp [pI,kT,i,h];omega
  .refine⟨_,_,?_,?_,j (.kn c),p (.kn (c-k)) (if k<c then k*sz else 0) (λh=>bL h) (λh=>bV om)⟩
   .by_cases h:c=0
    .obtain rfl:k=0:=om
     simp [pI,kT,h]
    .simp [pI,kT,i,h]
   .by_cases h:k<c
    .simp [pI,kT,i,h,show c≠k by omega]
    .obtain rfl:k=c:=om
     simp [pI,kT]
theorem ahJ {d:H}{t P:V}{xs A B:List V}{bytes sz o u a b:Nat}(p:0<sz)(U:SV d t sz A)(sb:SV d P sz B)(h:A.length=a*sz)(lb:B.length=b*sz)(s:xs.length=1*sz)(ha:a<1000000)(a0:b<1000000)(K:bytes<=56)(ho:0<o)(ht:o<u):
  ∃v1 h1 h2 v2 h3 v3 h4,rD (H.mk ((H.mk d.tr d.next).new (.cells false [])).tr (d.next+u)) sz bytes (.sl d.next 0 0 (.kn 0)) t=some (v1,h1)/\Fr d h1/\H.mk ((H.mk h1.tr (d.next+o)).new (.cells false xs)).tr h1.next=h2/\
   rD h2 sz bytes v1 (.sl (d.next+o) 0 1 (.kn 1))=some (v2,h3)/\rD h3 sz bytes v2 P=some (v3,h4)/\cW h4 v3 sz (A++xs++B) 0/\Fr d h4:=by
 have G: ∀l:Nat,l<=4000000->(2*l+1000)*bytes<=2^48/\l<2^62:=λl hl=>by
  have:=Nat.mul_le_mul (show 2*l+1000<=8001000 by omega) K
  have e:2^48=281474976710656:=rfl;omega
 have j:0*sz=0:=Nat.zero_mul _
 obtain⟨k,Y,n0,g0,o0⟩:=Ub d d.next (d.next+u) []
 have r:Fr d k:=⟨om,λq i=>o0 q om⟩
 have v:cW k (.sl d.next 0 0 (.kn 0)) sz [] d.next:= .inr ⟨d.next,0,_, [],rfl,j.symm,.inr ⟨rfl,rfl⟩,eU _,om,g0⟩
 have first: ∃v1 h1,rD k sz bytes (.sl d.next 0 0 (.kn 0)) t=some (v1,h1)/\cW h1 v1 sz A d.next/\Fr d h1/\d.next+u<=h1.next/\ ∀id f m c,v1= .sl id f m c->id≠d.next+o:=by
  by_cases hA:a=0
  .subst hA
   rw[j] at h;have y:A= []:=Yl h;subst y;have Q:=U.mono r
   have a2:rD k sz bytes (.sl d.next 0 0 (.kn 0)) t=some (.sl d.next 0 0 (.kn 0),k):=by
    simp only[rD,Q.len (n:=0) j.symm p,Q.slice];unfold Ay.zL;simp only[v.sv.len (n:=0) j.symm p,v.sv.slice];rw[bL trivial]
   exact⟨_,_,a2,v,r,om,λid f m c e=>by cases e;omega⟩
  .obtain⟨h1,N,J⟩:=v.push (bytes:=bytes) (U.mono r) (n:=0) (m:=a) j.symm h p om (G _ om)
   have n1:=J.next;refine⟨_,h1,N,J.own j.symm h om,⟨om,λq i=>?_⟩,om,λid f m c e=>by cases e;omega⟩;rw[J.old q om (λid f m c e F=>by cases e;omega)];exact r.get q i
 have⟨v1,h1,N,Z,z,n1,ne⟩:=first
 obtain⟨h2,F,n2,g2,R⟩:=Ub h1 (d.next+o) h1.next xs
 have W:cW h2 v1 sz A d.next:=Z.qX om λid f m c e _=>R id (ne id f m c e)
 have w:Fr d h2:=⟨by have:=z.next;omega,λq i=>by rw[R q om];exact z.get q i⟩
 obtain⟨h3,a3,x⟩:=W.push (bytes:=bytes) (SV.all (sz:=sz) (len:=1) s om g2 (.kn 1)) (n:=a) (m:=1) h s p om (G _ om)
 have n3:=x.next
 have L:Fr d h3:=⟨by have:=w.next;omega,λq i=>by rw[x.old q (by have:=w.next;omega) (λid f m c e F=>by have:=(W.in _ _ _ _ e).2.1;omega)];exact w.get q i⟩
 have w3:cW h3 (.sl h2.next 0 (a+1) (.un sz)) sz (A++xs) d.next:=x.own h s (by have:=w.next;omega)
 obtain⟨v3,h4,a4,O⟩:=w3.app (bytes:=bytes) (by have:=L.next;omega) (sb.mono L) (n:=a+1) (m:=b) (by rw[iB,h,s,Nat.add_mul]) lb p (G _ om)
 exact⟨v1,h1,h2,_,h3,v3,h4,by rw[Y];exact N,z,F,a3,a4,O.own.le (fE _),O.fr d L (eU _)⟩
def okQ (q:Nat):Prop:=(Lu q (Ja (q- 2) q 2) 0 q).2=1\/ ∃x,nJ.find? (λx=>x.1==q)=some x
structure FcP (hh:H)(v6 v7:V)(fl:List (Nat×List Nat)):Prop where
 a:cW hh v6 1 (fl.map λx=> .str x.2) 0
 b:cW hh v7 1 (fl.map λx=> .int .i64 (x.1:Int)) 0
theorem FcP.mono {h h':H}{c d:V}{i:List (Nat×List Nat)}(p:FcP h c d i)(f:Fr h h'):FcP h' c d i:=⟨p.a.fr f,p.b.fr f⟩
theorem VT {p k q r:Nat}(f:2<=p)(o:2<=q)(h:q=p^k*r)(t:1<=r)(ok:r=1\/ ∃x,nJ.find? (λx=>x.1==q)=some x):
  ∃(x:Nat×List Nat) (m:Nat) (nv:Nat->Nat),uM p k q r=List.replicate m x/\nv 0=q/\nv m=1/\(∀j,j<m->1<nv j/\nv (j+1)=nv j/x.1)/\2<=x.1/\x.1<=q/\(∀j,nv j<=q)/\(r=1->x=(p,67::mN p))/\(r≠1->m=1/\x=(q,BL q)):=by
 by_cases a:r=1
 .subst a
  rw[qZ] at h
  have s:k≠0:=λe=>by rw[e] at h;simp at h;omega
  have n:p<=q:=by
   rw[h]
   obtain⟨c,rfl⟩: ∃c,k=c+1:=⟨k- 1,om⟩
   rw[Nat.pow_succ];exact Nat.le_mul_of_pos_left _ (Nat.pow_pos om)
  refine⟨(p,67::mN p),k,λj=>p^(k-j),by unfold uM;rw[bL rfl],by rw[h];rfl,siM,λj d=>⟨?_,?_⟩,f,n,λj=>?_,λ_=>rfl,λh=>absurd rfl h⟩
  .exact Nat.one_lt_pow om om
  .show p^(k-(j+1))=p^(k-j)/p
   rw[show k-j=(k-(j+1))+1 by omega,Nat.pow_succ,Nat.mul_div_cancel _ om]
  .rw[h];exact Nat.pow_le_pow_right om om
 .obtain⟨x,b⟩:=ok.resolve_left a
  have l:x.1=q:=by simpa using List.find?_some b
  have i:BL q=x.2:=by unfold BL;rw[b]
  refine⟨(q,BL q),1,λj=>if j=0 then q else 1,by unfold uM;rw[bV a,b,i];rfl,rfl,rfl,λj d=>?_,o,eU _,λj=>?_,λh=>absurd h a,λ_=>⟨rfl,rfl⟩⟩
  .obtain rfl:j=0:=om
   refine⟨by show 1<q;omega,?_⟩
   show 1=q/q
   exact (Nat.div_self om).symm
  .show (if j=0 then q else 1)<=q
   split<;>omega
theorem Vq {W0:Nat->Prop}(vc:V)(n:Nat)(O:List (List Nat))(R:List (List (List Nat)))(G:List Nat->Prop)(L:List (List Nat))(K:List Nat)(h:H)(gc:GC W0 h vc n O R G)(hL:bZ O R n 0 (bC n)=L)(ik:vB n G L K)(rs:List (List Nat))(g8:zK n G L K rs)(i3: ∀i (hi:i+1<rs.length),okQ (rs[i+1].length/rs[i].length)):
  Ev T 15 [vc] h (λv h'=> ∃vl,v= .tup [vl,.int .i64 0]/\SV h' vl 1 ((Ak rs).map V.str)/\Fr h h'):=by
 obtain⟨vO,vR,rfl,c1,e5⟩:=gc.shape
 obtain⟨A,hA⟩: ∃A,h.next=A:=⟨_,rfl⟩
 obtain⟨h1,e1,n1,g1,q1,f1⟩:=dF hA [.int .i64 (n:Int),vO,vR]
 have d0:decide ((0:Int)≠0)=false:=rfl
 refine pY (aU h (v:= .int .i64 (n:Int)) (u:=vO) (w:=vR) rfl c1 e5) hA e1 (aE g1) ?_
 refine (Md _ n O R G L K h1 (gc.mono f1) hL ik).mono ?_
 rintro _ h2 ⟨vl,ls,c,rfl,cl,sv,al,f2⟩
 obtain rfl:=cl.uniq g8
 have hG:=gc.cX
 obtain⟨E,eE⟩:=dA gc.cX gc.isc
 rw[hL] at E eE
 have ll:=dX gc
 obtain⟨rl,cb,j6⟩:=cl.ex
 have i4:=aJ.length al
 have j0:=cb.len
 have j4:=(cb.all _ (Oc cb.la)).rk.short
 have lv:bH vl=some (.int .i64 (c.length:Int)):=by unfold bH;rw[SV.len sv (n:=c.length) (by rw[iU,i4]) om];rfl
 have r0:0<c.length:=(rW.1 cb.hd).1
 have sb: ∀i (hi:i<c.length),1<=c[i].length/\c[i].length<=5040:=λi hi=>by
  have k:=cb.all _ (pN hi);have:=k.rk.short;refine⟨?_,om⟩;obtain⟨j,hj,_⟩:=k.cX.one;exact Ss hj
 obtain⟨sz,a8⟩: ∃sz,c.map List.length=sz:=⟨_,rfl⟩
 have i0:sz.length=c.length:=by rw[<-a8,fL]
 have U: ∀i (hi:i<c.length),sz[i]'om=c[i].length:=λi hi=>by subst a8;rw[List.getElem_map]
 have e8: ∀j,sz.getD j 0<=5040:=λj=>by
  by_cases hj:j<c.length
  .rw[List.getD,dC om,Option.getD_some,U j hj]
   exact (sb j hj).2
  .rw[List.getD,List.getElem?_eq_none om];exact fE _
 refine bE d0 ?_
 refine aH (λP d hh=> ∃(i:Nat) (z J:V),(∃g:Nat->V,d= [g 0,g 1,g 2,g 3,vl,g 5,z,J,.int .i64 (i:Int),g 9,g 10,g 11,g 12,g 13,g 14,g 15,g 16,g 17,g 18,g 19,g 20,g 21])/\1<=i/\i<=c.length/\FcP hh z J (Ad (jU (sz.take i)))/\2^(jU (sz.take i)).length<=sz.getD (i- 1) 0/\(∀x∈jU (sz.take i),x.1<1000000)/\Fr h2 hh/\P=c.length-i) (c.length- 1)
   ⟨1,.aD,.aD,aB rfl,om,om,?_,?_,?_,Fr.refl _,rfl⟩ ?_
 .rw[KG];exact⟨cW.aD _ _ _,cW.aD _ _ _⟩
 .rw[KG,List.getD,dC om,Option.getD_some,U 0 r0]
  exact (sb 0 r0).1
 .rw[KG];exact λx Y=>by cases Y
 rintro P d hh ⟨i,z,J,⟨g,rfl⟩,j9,hi,fp,bd,sm,F,rfl⟩
 by_cases c3:(i:Int)<(c.length:Int)
 case neg=>
  have d1:decide ((i:Int)<(c.length:Int))=false:=decide_eq_false c3;obtain rfl:i=c.length:=om
  rw[<-i0,List.take_length] at fp;refine cU lv d1 ?_
  have e:(Ak c).map V.str=(Ad (jU sz)).map λx=>V.str x.2:=by
   unfold Ak;rw[a8,List.map_map]
   rfl
  exact⟨z,rfl,by rw[e];exact fp.a.sv,f1.trans (f2.trans F)⟩
 have d1:decide ((i:Int)<(c.length:Int))=true:=decide_eq_true c3
 have a0:i<c.length:=om
 have Z:i- 1<c.length:=om
 obtain⟨ia,oa,b0,ra,na⟩:=SV.rec (k:=3) (f:=λp:V×V=> [V.int .i64 (n:Int),p.1,p.2]) om (λ_=>rfl) (sv.mono F) (i:=i) om
 obtain⟨ib,ob,b5,rb,nb⟩:=SV.rec (k:=3) (f:=λp:V×V=> [V.int .i64 (n:Int),p.1,p.2]) om (λ_=>rfl) (sv.mono F) (i:=i- 1) om
 obtain⟨rfl,rfl⟩:=Hw b0 b5 om
 have ga:=(aJ.get al i om a0).go (Fx.of F) (W':=λ_=>False) λ_ _ h=>h
 have gb:=(aJ.get al (i- 1) om Z).go (Fx.of F) (W':=λ_=>False) λ_ _ h=>h
 have ei:(i:Int)- 1=((i- 1:Nat):Int):=om
 have fb: ∀m,hh.next<=m->Fr hh (H.mk hh.tr m):=λm hm=>(Fr.refl hh).bU hm
 obtain⟨Oa,Ra,ga⟩:=ga
 obtain⟨Ob,Rb,gb⟩:=gb
 have ka:=cb.all _ (pN a0)
 have kb:=cb.all _ (pN Z)
 have h7:=Rk.len ga.cX ga.isc E ka.le ka.rk
 have b7:=Rk.len gb.cX gb.isc E kb.le kb.rk
 have eb:=wV.eq (show wV (λ_=>False) n L hh ls[i- 1] c[i- 1] from ⟨Ob,Rb,gb⟩)
 refine uA lv d1 @b0.ixa ra ei @b5.ixa rb ?_
 refine (zH _ n Oa Ra _ _ (ga.mono (fb _ om))).mono ?_
 rintro _ h3 ⟨rfl,f3⟩
 have a4:=(fb _ om).trans f3
 have c0:h3.row ia (oa+(i- 1)*3) 3=some [.int .i64 (n:Int),ls[i- 1].1,ls[i- 1].2]:=by rw[Zg a4 nb];exact rb
 refine dQ c0 @eb.1 @eb.2 ?_
 refine (zH _ n Ob Rb _ _ (gb.mono a4)).mono ?_
 rintro _ h4 ⟨rfl,f4⟩
 rw[<-h7,<-b7]
 have F4:=F.trans (a4.trans f4)
 obtain⟨q,hq⟩: ∃q,c[i].length/c[i- 1].length=q:=⟨_,rfl⟩
 have s1:=sb (i- 1) Z
 have s2:=sb i a0
 have db:=CG hG E cb ik (i:=i- 1) om
 simp only[show i- 1+1=i by omega] at db
 have q2:2<=q:=by rw[<-hq];exact (Nat.le_div_iff_mul_le om).2 db
 have q3:c[i- 1].length*q<=c[i].length:=by rw[<-hq];exact Nat.mul_div_le _ _
 have q4:q<=5040:=kP (by rw[<-hq];exact Nat.div_le_self _ _) s2.2
 have e3:Int.tdiv ((c[i].length:Nat):Int) ((c[i- 1].length:Nat):Int)=(q:Int):=by rw[<-hq];rfl
 have z0:decide (((c[i- 1].length:Nat):Int)=0)=false:=decide_eq_false om
 have N:=i3 (i- 1) om
 simp only[show i- 1+1=i by omega,hq] at N
 refine cU e3 z0 ?_
 clear e3 z0 c0 ra rb b0 b5
 refine bY (λQ h'=>h'=h4/\ ∃p:Nat,(∃g:Nat->V,Q= [g 0,g 1,g 2,g 3,vl,g 5,z,J,.int .i64 (i:Int),.int .i64 (q:Int),.int .i64 (p:Int),g 11,g 12,g 13,g 14,g 15,g 16,g 17,g 18,g 19,g 20,g 21])/\2<=p/\p<=q/\q%p=0/\p=Ja (q- 2) q 2) ?_ ?_
 .refine aH (λP d h'=> ∃(p:Nat),(∃g:Nat->V,d= [g 0,g 1,g 2,g 3,vl,g 5,z,J,.int .i64 (i:Int),.int .i64 (q:Int),.int .i64 (p:Int),g 11,g 12,g 13,g 14,g 15,g 16,g 17,g 18,g 19,g 20,g 21])/\2<=p/\p<=q/\Ja (q-p) q p=Ja (q- 2) q 2/\h4=h'/\P=q-p) (q- 2)
   ⟨2,aB rfl,eU _,q2,rfl,rfl,rfl⟩ ?_
  rintro P d h' ⟨p,⟨g,rfl⟩,p2,pq,lp,rfl,rfl⟩
  have em:Int.tmod (q:Int) (p:Int)=((q%p:Nat):Int):=rfl
  have z0:decide ((p:Int)=0)=false:=decide_eq_false om
  by_cases hz:q%p=0
  .have dz:decide (((q%p:Nat):Int)≠0)=false:=decide_eq_false om
   have e:p=Ja (q- 2) q 2:=by
    rw[<-lp]
    cases q-p with
    |zero=>rfl
    |succ f=>show p=if q%p=0 then p else _;rw[bL hz]
   refine dQ em z0 dz ?_
   exact⟨p,aB rfl,p2,pq,hz,e⟩
  .have dz:decide (((q%p:Nat):Int)≠0)=true:=decide_eq_true om
   have pl:p<q:=Nat.lt_of_le_of_ne pq λe=>hz (by rw[e];exact Nat.mod_self q)
   have e:Ja (q-(p+1)) q (p+1)=Ja (q- 2) q 2:=by
    rw[<-lp,show q-p=(q-(p+1))+1 by omega];show _=if q%p=0 then p else _
    rw[bV hz]
   refine dQ em z0 dz ?_
   rw[show (p:Int)+1=((p+1:Nat):Int) from om]
   exact⟨q-(p+1),om,p+1,aB rfl,om,pl,e,rfl⟩
 rintro d h' ⟨rfl,p,⟨g,rfl⟩,p2,pq,hz,ep⟩
 refine aM ?_
 refine bY (λQ h5=>h'=h5/\ ∃k r:Nat,(∃g:Nat->V,Q= [g 0,g 1,g 2,g 3,vl,g 5,z,J,.int .i64 (i:Int),.int .i64 (q:Int),.int .i64 (p:Int),.int .i64 (r:Int),g 12,g 13,g 14,g 15,g 16,g 17,g 18,g 19,g 20,g 21])/\q=p^k*r/\1<=r/\(k,r)=Lu q p 0 q) ?_ ?_
 .refine aH (λP d h5=> ∃(k r f:Nat),(∃g:Nat->V,d= [g 0,g 1,g 2,g 3,vl,g 5,z,J,.int .i64 (i:Int),.int .i64 (q:Int),.int .i64 (p:Int),.int .i64 (r:Int),g 12,g 13,g 14,g 15,g 16,g 17,g 18,g 19,g 20,g 21])/\q=p^k*r/\1<=r/\r<=f/\Lu f p k r=Lu q p 0 q/\h'=h5/\r=P) q
   ⟨0,q,q,aB rfl,siM,om,eU _,rfl,rfl,rfl⟩ ?_
  rintro P d h5 ⟨k,r,f,⟨g,rfl⟩,eq,r1,rf,sf,rfl,rfl⟩
  have em:Int.tmod (r:Int) (p:Int)=((r%p:Nat):Int):=rfl
  have z0:decide ((p:Int)=0)=false:=decide_eq_false om
  have rq:r<=q:=by rw[eq];exact Nat.le_mul_of_pos_left _ (Nat.pow_pos om)
  by_cases hz:r%p=0
  .have dz:decide (((r%p:Nat):Int)=0)=true:=decide_eq_true om
   have ed:Int.tdiv (r:Int) (p:Int)=((r/p:Nat):Int):=rfl
   obtain⟨f',rfl⟩: ∃f',f=f'+1:=⟨f- 1,om⟩
   have e:Lu f' p (k+1) (r/p)=Lu q p 0 q:=by
    rw[<-sf];show _=if r%p=0 then _ else _
    rw[bL hz]
   have rd:r/p<r:=Nat.div_lt_self om om
   have rm:p*(r/p)=r:=Nat.mul_div_cancel' (Nat.dvd_of_mod_eq_zero hz)
   have rp:1<=r/p:=Nat.pos_of_ne_zero λe=>by rw[e,Nat.mul_zero] at rm;omega
   have e2:q=p^(k+1)*(r/p):=by rw[Nat.pow_succ,Nat.mul_assoc,rm];exact eq
   refine gX em z0 dz ed ?_
   exact⟨r/p,rd,k+1,r/p,f',aB rfl,e2,rp,om,e,rfl⟩
  .have dz:decide (((r%p:Nat):Int)=0)=false:=decide_eq_false om
   have e:(k,r)=Lu q p 0 q:=by
    rw[<-sf]
    cases f with
    |zero=>omega
    |succ f=>show _=if r%p=0 then _ else _;rw[bV hz]
   refine dQ em z0 dz ?_
   exact⟨k,r,aB rfl,eq,r1,e⟩
 rintro d h5 ⟨rfl,k,r,⟨g,rfl⟩,c9,r1,e4⟩
 have d7:=fp.mono (a4.trans f4)
 have g7:gO q=uM p k q r:=by
  unfold gO;rw[<-ep,<-e4]
 have W:jU (sz.take (i+1))=jU (sz.take i)++uM p k q r:=by
  have:=Eg sz (i- 1) om;simp only[show i- 1+2=i+1 by omega,show i- 1+1=i by omega] at this;rw[U i a0,U (i- 1) Z,hq,g7] at this;exact this
 have c8:2^(jU (sz.take (i+1))).length<=sz.getD (i+1- 1) 0:=by
  rw[W,iB,Nat.pow_add,Nat.add_sub_cancel,List.getD,dC om,Option.getD_some,U i a0];rw[List.getD,dC om,Option.getD_some,U (i- 1) Z] at bd;exact kP (Nat.mul_le_mul bd (Xj p2 q2 c9 r1)) q3
 have i5:{m s:Nat}->2^m<=s->s<=5040->m<20:=λ{m s} h1 h2=>zQ λh=>by
  have:=Nat.pow_le_pow_right (show 0<2 by omega) (show 20<=m by omega);have e:2^20=1048576:=rfl;omega
 have b1:=i5 c8 (e8 _)
 rw[W,iB] at b1
 unfold okQ at N
 rw[<-ep,<-e4] at N
 obtain⟨x,m,nv,ex,c5,j8,g5,x2,xq,g3,g4,i8⟩:=VT p2 q2 c9 r1 N
 rw[ex,List.length_replicate] at b1
 rw[ex] at W
 obtain⟨A0,g0⟩: ∃A0,jU (sz.take i)=A0:=⟨_,rfl⟩
 rw[g0] at d7 W b1 sm
 have g6: ∀j,j<=m-> ∀y∈Ad (A0++List.replicate j x),y.1<1000000:=λj hj y t=>by
  have:=(Kd (A0++List.replicate j x) _ (eU _)).2.2;rw[List.take_length] at this;rcases jO.1 (this y t) with h|h
  .exact sm y h
  .rw[(List.mem_replicate.1 h).2];omega
 have i1: ∀y∈jU (sz.take (i+1)),y.1<1000000:=λy t=>by
  rw[W] at t;rcases jO.1 t with h|h
  .exact sm y h
  .rw[(List.mem_replicate.1 h).2];omega
 refine aM ?_
 refine rY (λQ Y=> ∃z J,(∃g:Nat->V,Q= [g 0,g 1,g 2,g 3,vl,g 5,z,J,.int .i64 (i:Int),g 9,g 10,g 11,g 12,g 13,g 14,g 15,g 16,g 17,g 18,g 19,g 20,g 21])/\FcP Y z J (Ad (A0++List.replicate m x))/\Fr h' Y) ?_ ?_
 .refine aH (λP Q Y=> ∃(j:Nat) (z J:V),(∃g:Nat->V,Q= [g 0,g 1,g 2,g 3,vl,g 5,z,J,.int .i64 (i:Int),.int .i64 (nv j:Int),.int .i64 (p:Int),.int .i64 (r:Int),g 12,g 13,g 14,g 15,g 16,g 17,g 18,g 19,g 20,g 21])/\j<=m/\FcP Y z J (Ad (A0++List.replicate j x))/\Fr h' Y/\P=m-j) m
   ⟨0,z,J,by rw[c5];exact aB rfl,fE _,by rw[List.replicate_zero,qV];exact d7,Fr.refl _,rfl⟩ ?_
  rintro P d Y ⟨j,w6,w7,⟨g,rfl⟩,hj,a1,fx,rfl⟩
  by_cases f6:j=m
  .subst f6
   have d3:decide ((1:Int)<(nv j:Int))=false:=decide_eq_false om
   refine bE d3 ?_
   exact⟨w6,w7,aB rfl,a1,fx⟩
  have f0:j<m:=om
  obtain⟨j3,d2⟩:=g5 j f0
  have d3:decide ((1:Int)<(nv j:Int))=true:=decide_eq_true om
  refine bE d3 ?_
  refine (OP (nv j) Y).mono ?_
  rintro _ ha ⟨rfl,fa⟩
  refine aM ?_
  refine rU (λQ hb=>(∃g:Nat->V,Q= [g 0,g 1,g 2,g 3,vl,g 5,w6,w7,.int .i64 (i:Int),.int .i64 (nv j:Int),.int .i64 (p:Int),.int .i64 (r:Int),.int .i64 (x.1:Int),.str x.2,g 14,g 15,g 16,g 17,g 18,g 19,g 20,g 21])/\Fr Y hb) ?_ ?_
  .by_cases b9:r=1
   .have d4:decide ((r:Int)=1)=true:=decide_eq_true om
    have a9:=g4 b9
    have dl:=Ci p
    refine bE d4 ?_
    refine (abH p ha om).mono ?_
    rintro _ hb ⟨rfl,a5⟩
    have h8:SJ hb (.str [67]) (.str (mN p))=some (.str (67::mN p),hb):=Pv hb (a:= [67]) (b:=mN p) (by show 1+_<_;omega)
    refine cU @Il h8 ?_
    rw[a9]
    exact .inl ⟨aB rfl,fa.trans a5⟩
   .have d4:decide ((r:Int)=1)=false:=decide_eq_false om
    obtain⟨m1,a9⟩:=i8 b9
    obtain rfl:j=0:=om
    refine bE d4 ?_
    rw[a9,c5]
    exact .inl ⟨aB rfl,fa⟩
  rintro d hb ⟨⟨g,rfl⟩,a5⟩
  obtain⟨l,b2⟩: ∃l,Ad (A0++List.replicate j x)=l:=⟨_,rfl⟩
  have e7:=g6 j om
  have c4:=(Kd (A0++List.replicate j x) _ (eU _)).1
  have c2:=(Kd (A0++List.replicate j x) _ (eU _)).2.1
  rw[List.take_length,b2] at c4 c2
  rw[b2] at a1 e7
  have b6:Ad (A0++List.replicate (j+1) x)=yS x l:=by
   rw[<-b2,List.replicate_succ',<-pJ];unfold Ad;rw[List.foldl_append]
   rfl
  rw[iB,List.length_replicate] at c2
  have a3:=a1.mono a5
  have a7:bH w6=some (.int .i64 (l.length:Int)):=by unfold bH;rw[SV.len a3.a.sv (n:=l.length) (by rw[fL,qZ]) om];rfl
  refine aM ?_
  refine bY (λQ t=> ∃k:Nat,(∃g:Nat->V,Q= [g 0,g 1,g 2,g 3,vl,g 5,w6,w7,.int .i64 (i:Int),.int .i64 (nv j:Int),.int .i64 (p:Int),.int .i64 (r:Int),.int .i64 (x.1:Int),.str x.2,.int .i64 (k:Int),g 15,g 16,g 17,g 18,g 19,g 20,g 21])/\k<=l.length/\yS x l=l.take k++x::l.drop k/\hb=t) ?_ ?_
  .refine aH (λP Q t=> ∃(k:Nat),(∃g:Nat->V,Q= [g 0,g 1,g 2,g 3,vl,g 5,w6,w7,.int .i64 (i:Int),.int .i64 (nv j:Int),.int .i64 (p:Int),.int .i64 (r:Int),.int .i64 (x.1:Int),.str x.2,.int .i64 (k:Int),g 15,g 16,g 17,g 18,g 19,g 20,g 21])/\k<=l.length/\(∀y∈l.take k,y.1<=x.1)/\hb=t/\P=l.length-k) l.length
    ⟨0,aB rfl,fE _,λy t=>by simp at t,rfl,rfl⟩ ?_
   rintro P d t ⟨k,⟨g,rfl⟩,hk,b3,rfl,rfl⟩
   by_cases d8:(k:Int)<(l.length:Int)
   case neg=>
    have d5:decide ((k:Int)<(l.length:Int))=false:=decide_eq_false d8;obtain rfl:k=l.length:=om
    refine dQ a7 d5 @jS ?_;refine⟨l.length,aB rfl,eU _,?_,trivial⟩;have:=yH (x:=x) (A:=l.take l.length) (B:=l.drop l.length) b3 (λy t=>by simp at t);rwa [List.take_append_drop] at this
   have d5:decide ((k:Int)<(l.length:Int))=true:=decide_eq_true d8
   have a6:k<l.length:=om
   obtain⟨g2,d9,c6,j1,f5⟩:=SV.shape a3.b.sv l.length (by rw[fL,qZ]) om
   have c7:hb.cell g2 (d9+k)=some (.int .i64 (l[k].1:Int)):=by rw[f5 k (by rw[fL];exact a6),Jj,dC a6];rfl
   by_cases b8:l[k].1<=x.1
   .have d6:decide ((l[k].1:Int)<=(x.1:Int))=true:=decide_eq_true om
    refine kA a7 d5 @jS @c6.ixa c7 d6 ?_
    rw[show (k:Int)+1=((k+1:Nat):Int) from om]
    refine⟨l.length-(k+1),om,k+1,aB rfl,om,λy t=>?_,rfl⟩
    rw[List.take_succ_eq_append_getElem a6] at t
    rcases jO.1 t with h|h
    .exact b3 y h
    .rw[List.mem_singleton.1 h];exact b8
   .have d6:decide ((l[k].1:Int)<=(x.1:Int))=false:=decide_eq_false om
    refine kA a7 d5 @jS @c6.ixa c7 d6 ?_
    refine⟨k,aB rfl,hk,?_,trivial⟩
    have:=yH (x:=x) (A:=l.take k) (B:=l.drop k) b3 (λy t=>by
     have a2:=c4.sublist (List.drop_sublist k l);rw[Ij a6] at t a2;rcases uL.1 t with h|h
     .rw[h];omega
     .have:=(List.pairwise_cons.1 a2).1 y h
      omega)
    rwa [List.take_append_drop] at this
  rintro d t ⟨k,⟨g,rfl⟩,hk,i2,rfl⟩
  obtain⟨va,j5,ea,i9,sa,h0⟩:=CE a3.a (n:=l.length) (k:=k) (by rw[fL,qZ]) om hk
  obtain⟨vb,j2,f8,e6,h9,i6⟩:=CE a3.b (n:=l.length) (k:=k) (by rw[fL,qZ]) om hk
  obtain⟨v1,h1,j7,v2,h3,v3,h4,p1,_,e9,p3,p4,h6,b4⟩:=ahJ (xs:= [.str x.2]) (bytes:=16) (o:=6) (u:=13) (a:=k) (b:=l.length-k) om sa h0 (by rw[wH,fL];omega) (by rw[Nx,fL];omega) rfl om om om om om
  simp(disch:=omega)only[go_sem,ea,i9,p1,cQ (H.mk h1.tr (hb.next+6)) (show (V.str x.2).cells= [V.str x.2] from rfl) rfl,e9,p3,p4,f8,e6]
  obtain⟨u1,k1,k2,u2,k3,u3,k4,p5,_,p6,p7,p8,g9,e0⟩:=ahJ (xs:= [.int .i64 (x.1:Int)]) (bytes:=8) (o:=6) (u:=13) (a:=k) (b:=l.length-k) om (h9.mono b4) (i6.mono b4) (by rw[wH,fL];omega) (by rw[Nx,fL];omega) rfl om om om om om
  have f9:Int.tdiv (nv j:Int) (x.1:Int)=((nv (j+1):Nat):Int):=by rw[d2];rfl
  have bq:=g3 (j+1)
  have z3:decide ((x.1:Int)=0)=false:=decide_eq_false om
  simp(disch:=omega)only[go_sem,p5,cQ (H.mk k1.tr (h4.next+6)) (show (V.int .i64 (x.1:Int)).cells= [V.int .i64 (x.1:Int)] from rfl) rfl,p6,p7,p8,f9,z3]
  refine⟨m-(j+1),om,j+1,v3,u3,aB rfl,om,?_,fx.trans (a5.trans (b4.trans e0)),rfl⟩
  rw[b6,i2]
  refine⟨?_,?_⟩
  .have:=h6.fr e0
   simpa using this
  .simpa using g9
 rintro d Y ⟨i7,f7,⟨g,rfl⟩,a1,fx⟩
 refine aM ?_
 rw[show (i:Int)+1=((i+1:Nat):Int) from om]
 exact⟨c.length-(i+1),om,i+1,i7,f7,aB rfl,om,om,by rw[W];exact a1,c8,i1,F4.trans fx,rfl⟩
set_option maxHeartbeats 16000000
theorem MF (k:V)(d:Int)(O:List (List Int))(R:List (List (List Int)))(h:H)(n:Hd h k d O R)(o:d<=7\/64<d)(q:mY O)(sr:qB R)(j:lE d O R≠0):
  Ev T 46 [k] h (λv h'=>v= .tup [.nilp,.int .i64 (lE d O R)]/\Fr h h'):=by
 have c:=n
 obtain⟨f,i,rfl,r,z⟩:=n
 have a:f.one=true:=by have⟨_,t,_⟩:=r;exact t.cM.2.1
 have b:i.one=true:=by have⟨_,t,_⟩:=z;exact t.cM.2.1
 obtain⟨B,m⟩: ∃B,h.next=B:=⟨_,rfl⟩
 obtain⟨A,x,G,p,J,l⟩:=dF m [.int .i64 d,f,i]
 refine pY (aU h (v:= .int .i64 d) (u:=f) (w:=i) rfl a b) m x (aE p) ?_
 refine (OI _ d O R A (c.mono l) o q sr j).mono ?_
 rintro _ F ⟨rfl,s⟩
 have y:decide (lE d O R≠0)=true:=decide_eq_true j
 refine bE y ?_
 exact l.trans s
theorem Ox (k:V)(d:Int)(O:List (List Int))(R:List (List (List Int)))(h:H)(n:Hd h k d O R)(o:d<=7\/64<d)(q:mY O)(sr:qB R)(j:lE d O R≠0):
  Ev T 12 [k] h (λv h'=>v= .tup [.aD,.int .i64 (lE d O R)]/\Fr h h'):=by
 have c:=n
 obtain⟨f,i,rfl,r,z⟩:=n
 have a:f.one=true:=by have⟨_,t,_⟩:=r;exact t.cM.2.1
 have b:i.one=true:=by have⟨_,t,_⟩:=z;exact t.cM.2.1
 obtain⟨B,m⟩: ∃B,h.next=B:=⟨_,rfl⟩
 obtain⟨A,x,G,p,J,l⟩:=dF m [.int .i64 d,f,i]
 refine pY (aU h (v:= .int .i64 d) (u:=f) (w:=i) rfl a b) m x (aE p) ?_
 refine (MF _ d O R A (c.mono l) o q sr j).mono ?_
 rintro _ F ⟨rfl,s⟩
 have y:decide (lE d O R≠0)=true:=decide_eq_true j
 refine bE y ?_
 exact l.trans s
theorem Vt (k:V)(d:Int)(O:List (List Int))(R:List (List (List Int)))(h:H)(n:Hd h k d O R)(o:d<=7\/64<d)(q:mY O)(sr:qB R)(j:lE d O R≠0):
  Ev T 14 [k] h (λv h'=>v= .tup [.aD,.int .i64 (lE d O R)]/\Fr h h'):=by
 have c:=n
 obtain⟨f,i,rfl,r,z⟩:=n
 have a:f.one=true:=by have⟨_,t,_⟩:=r;exact t.cM.2.1
 have b:i.one=true:=by have⟨_,t,_⟩:=z;exact t.cM.2.1
 obtain⟨B,m⟩: ∃B,h.next=B:=⟨_,rfl⟩
 obtain⟨A,x,G,p,J,l⟩:=dF m [.int .i64 d,f,i]
 refine pY (aU h (v:= .int .i64 d) (u:=f) (w:=i) rfl a b) m x (aE p) ?_
 refine (Ox _ d O R A (c.mono l) o q sr j).mono ?_
 rintro _ F ⟨rfl,s⟩
 have y:decide (lE d O R≠0)=true:=decide_eq_true j
 refine bE y ?_
 exact l.trans s
theorem Kc (k:V)(d:Int)(O:List (List Int))(R:List (List (List Int)))(h:H)(n:Hd h k d O R)(o:d<=7\/64<d)(q:mY O)(sr:qB R)(j:lE d O R≠0):
  Ev T 13 [k] h (λv h'=>v= .tup [.aD,.int .i64 (lE d O R)]/\Fr h h'):=by
 have c:=n
 obtain⟨f,i,rfl,r,z⟩:=n
 have a:f.one=true:=by have⟨_,t,_⟩:=r;exact t.cM.2.1
 have b:i.one=true:=by have⟨_,t,_⟩:=z;exact t.cM.2.1
 obtain⟨B,m⟩: ∃B,h.next=B:=⟨_,rfl⟩
 obtain⟨A,x,G,p,J,l⟩:=dF m [.int .i64 d,f,i]
 refine pY (aU h (v:= .int .i64 d) (u:=f) (w:=i) rfl a b) m x (aE p) ?_
 refine (GF _ d O R A (c.mono l) o q sr j).mono ?_
 rintro _ F ⟨rfl,s⟩
 have y:decide (lE d O R≠0)=true:=decide_eq_true j
 refine bE y ?_
 exact l.trans s
theorem Sn (k:V)(d:Int)(O:List (List Int))(R:List (List (List Int)))(h:H)(n:Hd h k d O R)(o:d<=7\/64<d)(q:mY O)(sr:qB R)(j:lE d O R≠0):
  Ev T 15 [k] h (λv h'=>v= .tup [.aD,.int .i64 (lE d O R)]/\Fr h h'):=by
 have c:=n
 obtain⟨f,i,rfl,r,z⟩:=n
 have a:f.one=true:=by have⟨_,t,_⟩:=r;exact t.cM.2.1
 have b:i.one=true:=by have⟨_,t,_⟩:=z;exact t.cM.2.1
 obtain⟨B,m⟩: ∃B,h.next=B:=⟨_,rfl⟩
 obtain⟨A,x,G,p,J,l⟩:=dF m [.int .i64 d,f,i]
 refine pY (aU h (v:= .int .i64 d) (u:=f) (w:=i) rfl a b) m x (aE p) ?_
 refine (Kc _ d O R A (c.mono l) o q sr j).mono ?_
 rintro _ F ⟨rfl,s⟩
 have y:decide (lE d O R≠0)=true:=decide_eq_true j
 refine bE y ?_
 exact l.trans s
theorem ahN {h:H}{m:V}{d:Int}{O:List (List Int)}{R:List (List (List Int))}(A:Hd h m d O R)(J:d<=7\/64<d)(f:lE d O R=0):
  ∃(n:Nat) (O':LN) (R':iA),d=(n:Int)/\O=O'.map zi/\R=R'.map (List.map zi)/\GC (λ_=>False) h m n O' R' (Xd n R'):=by
 unfold lE at f
 split at f
 .cases f
 .split at f
  .rename_i L q
   obtain⟨n,O',R',rfl,y,K,rfl,rfl,v⟩:=q
   obtain⟨x,F,rfl,t,z⟩:=A
   obtain⟨p,B,G⟩:=t
   obtain⟨r,u,o,w⟩:=z
   have b: ∀v:V,Gz (λ_=>False) v:=λv=>by cases v<;>first|exact id|trivial
   have all:{j:List V}->{l:LN}->aJ (SI h) j (l.map zi)->fG (λ_=>False) h j l:=λ{j l} a=>by
    have c:=aJ.length a;rw[fL] at c
    refine aJ.jM c λi hi k=>⟨?_,b _⟩
    have:=aJ.get a i hi (by rw[fL];exact k);rwa [List.getElem_map] at this
   refine⟨n,O',R',rfl,rfl,rfl,⟨x,F,p,r,rfl,B,b _,all G,u,b _,?_⟩,v.2,v.cX,y,om⟩
   have c:=aJ.length o
   rw[fL] at c
   refine aJ.jM c λi hi k=>?_
   have:=aJ.get o i hi (by rw[fL];exact k)
   rw[List.getElem_map] at this
   obtain⟨j,s,a⟩:=this
   exact⟨j,s,b _,all a,w _ (pN _)⟩
  .cases f
structure Sml (d:Int)(O:List (List Int))(R:List (List (List Int))):Prop where
 deg:d<=6\/64<d
 lo:O.length<=12
 lr:R.length<=12
 ro: ∀i,i<O.length->(O.getD i []).length<=12
 rr: ∀i,i<R.length->(R.getD i []).length<=12/\ ∀k,k<(R.getD i []).length->((R.getD i []).getD k []).length<=12
theorem Sml.small {d:Int}{O:List (List Int)}{R:List (List (List Int))}(s:Sml d O R):mY O/\qB R:=
 ⟨⟨by have:=s.lo;omega,λi hi=>by have:=s.ro i hi;omega⟩,⟨by have:=s.lr;omega,λi hi=>by have:=(s.rr i hi).1;omega⟩⟩
theorem XP (vc:V)(d:Int)(O:List (List Int))(R:List (List (List Int)))(h:H)(hc:Hd h vc d O R):
  Ev T 10 [vc] h (λv h'=>(v= .bool true\/v= .bool false/\Sml d O R)/\Fr h h'):=by
 obtain⟨vO,vR,rfl,sO,sR⟩:=hc
 refine kV ?_
 obtain⟨K,b6,_,a3,b4,U,Z,a5,cO⟩:=mI sO
 obtain⟨lR,b8,_,a9,b1,P,W,n,cR⟩:=sU sR
 obtain⟨B,hB⟩:=exI h.next
 obtain⟨c,e1,n1,g1,o1,o⟩:=dF hB [aC d,vO,vR]
 have c0: ∀b,Fr c b->b.cell B 0=some (aC d):=λb f=>by rw[f.cell om,H.cell_of g1];rfl
 have L: ∀b,Fr c b->b.cell B 1=some vO:=λb f=>by rw[f.cell om,H.cell_of g1];rfl
 have r: ∀b,Fr c b->b.cell B 2=some vR:=λb f=>by rw[f.cell om,H.cell_of g1];rfl
 have bx:=aU h (v:= aC d) (u:=vO) (w:=vR) rfl a3 a9
 have q:=Fr.refl c
 by_cases qA:6<d/\d<=64
 .have N:decide ((6:Int)<d)=true:=cJ qA.1
  have J:decide (d<=64)=true:=cJ qA.2
  refine uA @aI bx hB e1 (c0 c q) N J ?_
  exact⟨.inl trivial,o⟩
 obtain⟨b2,N⟩:=exI (decide ((6:Int)<d))
 obtain⟨b3,J⟩:=exI (decide (d<=64))
 have hb:(b2&&b3)=false:=by
  rw[<-N,<-J,<-Bool.not_eq_true,rG,tU,tU];exact qA
 have a6:d<=6\/64<d:=om
 by_cases q1:(12:Int)<(O.length:Int)
 .have y1:=cJ q1
  cases b2<;>cases b3<;>first|cases hb|skip
  all_goals
   simp(disch:=omega)only[go_sem,aI,bx,hB,e1,c0 c q,L c q,K,N,J,y1]
   exact⟨.inl trivial,o⟩
 have y1:=bT q1
 by_cases q4:(12:Int)<(R.length:Int)
 .have y4:=cJ q4
  cases b2<;>cases b3<;>first|cases hb|skip
  all_goals
   simp(disch:=omega)only[go_sem,aI,bx,hB,e1,c0 c q,L c q,K,r c q,lR,N,J,y1,y4]
   exact⟨.inl trivial,o⟩
 have y4:=bT q4
 have a0:O.length<=12:=om
 have a7:R.length<=12:=om
 cases b2<;>cases b3<;>first|cases hb|skip
 all_goals
  simp(disch:=omega)only[go_sem,aI,bx,hB,e1,c0 c q,L c q,K,r c q,lR,N,J,y1,y4]
  refine aH (λp a b=> ∃(i:Nat),(∃g:Nat->V,a= [g 0,.ptr B 0,g 2,aC i,g 4,g 5,g 6,g 7,g 8,g 9,g 10,g 11,g 12])/\i<=O.length/\(∀j,j<i->(O.getD j []).length<=12)/\Fr c b/\p=O.length-i) O.length
   ⟨0,aB rfl,fE _,λj z=>om,Fr.refl _,rfl⟩ ?_
  rintro p a h2 ⟨i,⟨g,rfl⟩,hi,ho,F,rfl⟩
  by_cases a4:(i:Int)<(O.length:Int)
  case pos=>
   have l:=cJ a4;obtain⟨i1,ci,si⟩:=cO i om;have y:h2.cell b4 (U+i)=some (Z.getD i V.undef):=by rw[(o.trans F).cell i1];exact ci
   have lo:=si.lens;generalize Z.getD i V.undef=vo at y lo
   by_cases Y:(12:Int)<((O.getD i []).length:Int)
   .have A:=cJ Y
    refine uA (L h2 F) K l @a5.ixa y lo A ?_;exact⟨.inl trivial,o.trans F⟩
   .have A:=bT Y
    refine uA (L h2 F) K l @a5.ixa y lo A ?_;rw[eJ i]
    exact⟨O.length-(i+1),om,i+1,aB rfl,om,λj z=>by
     by_cases e:j=i
     .subst e;omega
     .exact ho j om,F,rfl⟩
  have l:=bT a4
  refine dQ (L h2 F) K l ?_
  refine aH (λp a b=> ∃(i:Nat),(∃g:Nat->V,a= [g 0,.ptr B 0,g 2,g 3,aC i,g 5,g 6,g 7,g 8,g 9,g 10,g 11,g 12])/\i<=R.length/\(∀j,j<i->(R.getD j []).length<=12/\ ∀k,k<(R.getD j []).length->((R.getD j []).getD k []).length<=12)/\Fr c b/\p=R.length-i) R.length
   ⟨0,aB rfl,fE _,λj z=>om,F,rfl⟩ ?_
  clear F l
  rintro p a h3 ⟨t,⟨g,rfl⟩,ht,hr,F,rfl⟩
  by_cases s:(t:Int)<(R.length:Int)
  case neg=>
   have l:=bT s;refine dQ (r h3 F) lR l ?_;exact⟨.inr ⟨a6,a0,a7,λj z=>ho j om,λj z=>hr j om⟩,o.trans F⟩
  have l:=cJ s
  obtain⟨i1,ci,si⟩:=cR t om
  have m: ∀b,Fr c b->b.cell b1 (P+t)=some (W.getD t V.undef):=λb f=>by rw[(o.trans f).cell i1];exact ci
  generalize W.getD t V.undef=vr at m si
  obtain⟨lr,_,_,_,b5,b0,a1,a8,cr⟩:=mI si
  by_cases Y:(12:Int)<((R.getD t []).length:Int)
  case pos=>
   have A:=cJ Y;refine uA (r h3 F) lR l @n.ixa (m h3 F) lr A ?_;exact⟨.inl trivial,o.trans F⟩
  have A:=bT Y
  refine uA (r h3 F) lR l @n.ixa (m h3 F) lr A ?_
  refine aH (λp a b=> ∃(k:Nat),(∃g:Nat->V,a= [g 0,.ptr B 0,g 2,g 3,aC t,aC k,g 6,g 7,g 8,g 9,g 10,g 11,g 12])/\k<=(R.getD t []).length/\(∀j,j<k->((R.getD t []).getD j []).length<=12)/\Fr c b/\p=(R.getD t []).length-k) (R.getD t []).length
   ⟨0,aB rfl,fE _,λj z=>om,F,rfl⟩ ?_
  clear F l
  rintro p a x ⟨k,⟨g,rfl⟩,hk,Q,F,rfl⟩
  by_cases a2:(k:Int)<((R.getD t []).length:Int)
  case neg=>
   have l:=bT a2;refine iT (r x F) @n.ixa (m x F) lr l ?_;rw[eJ t]
   exact⟨R.length-(t+1),om,t+1,aB rfl,om,λj z=>by
    by_cases e:j=t
    .subst e;exact⟨om,λp b7=>Q p om⟩
    .exact hr j om,F,rfl⟩
  have l:=cJ a2
  obtain⟨k1,ck,sk⟩:=cr k om
  have G:x.cell b5 (b0+k)=some (a1.getD k V.undef):=by rw[(o.trans F).cell k1];exact ck
  generalize a1.getD k V.undef=vx at G sk
  have lx:=sk.lens
  by_cases q6:(12:Int)<(((R.getD t []).getD k []).length:Int)
  case pos=>
   have y6:decide ((12:Int)<(((R.getD t []).getD k []).length:Int))=true:=cJ q6;refine uG (r x F) @n.ixa (m x F) lr l @a8.ixa G lx y6 ?_;exact⟨.inl trivial,o.trans F⟩
  have y6:decide ((12:Int)<(((R.getD t []).getD k []).length:Int))=false:=bT q6
  refine uG (r x F) @n.ixa (m x F) lr l @a8.ixa G lx y6 ?_
  rw[eJ k]
  exact⟨(R.getD t []).length-(k+1),om,k+1,aB rfl,om,λj z=>by
   by_cases e:j=k
   .subst e;omega
   .exact Q j om,F,rfl⟩
theorem Nh {W W':Nat->Prop}(k m:V)(n:Nat)(L:List (List Nat))(ls o:List (V×V))(l:List (List Nat))(h:H)(A:SV h k 3 (Dk n ls))(u:SV h m 3 (Dk n o))(G:aJ (wV W n L h) ls l)(J:aJ (wV W' n L h) o l)(l6:l.length<=6000):
  Ev T 16 [k,m] h (λv h'=>v= .bool true/\Fr h h'):=by
 have O:=aJ.length G
 have lb:=aJ.length J
 have t:bH k=some (.int .i64 (l.length:Int)):=by unfold bH;rw[SV.len A (n:=l.length) (by rw[iU,O]) om];rfl
 have K:bH m=some (.int .i64 (l.length:Int)):=by unfold bH;rw[SV.len u (n:=l.length) (by rw[iU,lb]) om];rfl
 have N:decide ((l.length:Int)≠(l.length:Int))=false:=decide_eq_false λh=>h rfl
 refine Ku t K N ?_
 refine aH (λw a d=> ∃(i:Nat),(∃g:Nat->V,a= [k,m,g 2,.int .i64 (i:Int),g 4,g 5,g 6])/\i<=l.length/\Fr h d/\w=l.length-i) l.length
  ⟨0,aB rfl,fE _,Fr.refl h,rfl⟩ ?_
 rintro w a d ⟨i,⟨g,rfl⟩,hi,F,rfl⟩
 by_cases f:(i:Int)<(l.length:Int)
 case neg=>
  have p:decide ((i:Int)<(l.length:Int))=false:=decide_eq_false f;refine cU t p ?_;exact F
 have p:decide ((i:Int)<(l.length:Int))=true:=decide_eq_true f
 have j:i<l.length:=om
 obtain⟨U,o1,q,x⟩:=qF (A.mono F) (i:=i) om
 obtain⟨r2,Z,r,y⟩:=qF (u.mono F) (i:=i) om
 obtain⟨B,z,b⟩:=aJ.get G i om j
 obtain⟨O2,Y,c⟩:=aJ.get J i om j
 generalize ls[i]'om=p1 at x b
 generalize o[i]'om=R at y c
 obtain⟨rfl,rfl⟩:=b.isc.uniq c.isc
 have s:Fr d (H.mk d.tr (d.next+10)):=(Fr.refl d).bU om
 refine kA t p @q.ixa x @r.ixa y ?_
 refine (EU _ _ n (B,z) (B,z) _ _ _ (b.mono (F.trans s)) (c.mono (F.trans s))).mono ?_
 rintro _ Q ⟨rfl,P⟩
 simp(disch:=omega)only[go_sem,eq_self,decide_true,Bool.not_true]
 rw[show (i:Int)+1=((i+1:Nat):Int) from om]
 exact⟨l.length-(i+1),om,i+1,aB rfl,om,F.trans (s.trans P),rfl⟩
section
variable {n:Nat} {x y z a b:List Nat}
theorem agP (A:aY n a)(Y:aY n y)(B:aY n b):aS (aS a y) (aS (cK y) b)=aS a b:=by
 rw[aG A Y (Y.inv.mul B),<-aG Y Y.inv B,dB Y,cV B]
theorem tQ (X:aY n x)(Y:aY n y)(Z:aY n z):dN (aS x y) z=aS (aX (dN x z) y) (dN y z):=by
 have A:=dL X Z;have B:=dL Y Z;rw[nZ (X.mul Y) Z,iF X Y Z,xQ X Y,nZ X Z,nZ Y Z];show _=aS (aS (aS (cK y) (aS (cK x) (aX x z))) y) (aS (cK y) (aX y z));rw[agP (Y.inv.mul (X.inv.mul A)) Y B,aG Y.inv X.inv (A.mul B),aG Y.inv (X.inv.mul A) B,aG X.inv A B]
theorem tD (X:aY n x)(Y:aY n y):dN x y=aS (aX (cK y) x) y:=by
 show aS (aS (cK x) (cK y)) (aS x y)=aS (aS (aS (cK x) (cK y)) x) y;rw[aG (X.inv.mul Y.inv) X Y]
theorem sT (X:aY n x)(Y:aY n y)(Z:aY n z):dN x (aS y z)=aS (dN x z) (aX (dN x y) z):=by
 have A:=dL Z.inv X;have B:=dL Y.inv X;rw[tD X (Y.mul Z),xQ Y Z,iF Z.inv Y.inv X,tD X Z,tD X Y];show _=aS (aS (aX (cK z) x) z) (aS (aS (cK z) (aS (aX (cK y) x) y)) z);rw[aG Z.inv (B.mul Y) Z,agP A Z ((B.mul Y).mul Z),aG A B (Y.mul Z),aG B Y Z]
end
section
variable {n:Nat} {G K:List Nat->Prop} {O O':LN} {R R':iA}
theorem tM.all (l:eM n G)(o:eM n K)(c:bA n G O R)(d:bA n K O' R'){p q:List Nat}(f:G p)(r:K q):tM n R R' (dN p q):=by
 have i:=tM.cX l o c d;have s: ∀g∈cI R,aY n g:=λg h=>l.bM (cH c h)
 have j: ∀g∈cI R',aY n g:=λg h=>o.bM (cH d h)
 have UO: ∀{p},G p-> ∀k,k∈cI R'->tM n R R' (dN p k):=λ{p} f k m=>by
  have h:=lX l c f;clear f
  induction h with
  |one=>rw[Mc (j k m)];exact i.one
  | @mul y g hy hg ih=>
   rw[tQ (hy.bM s) (s g hg) (j k m)];exact i.mul (NC.cj ih (.inl hg)) (NC.of ⟨g,hg,k,m,rfl⟩)
 have h:=lX o d r;have P:=l.bM f;clear r
 induction h with
 |one=>rw[Lz P];exact i.one
 | @mul y g hy hg ih=>
  rw[sT P (hy.bM j) (j g hg)];exact i.mul (UO f g hg) (NC.cj ih (.inr hg))
def Az (n:Nat)(A C D:LN)(ws:List (List (Nat×Nat))):Bool:=
 D==ws.map (λw=>w.foldl (λx i=>aS x (dN (A.getD i.1 []) (C.getD i.2 []))) (bC n))&&ws.all (λw=>w.all λi=>decide (i.1<A.length/\i.2<C.length))&&decide (D.Pairwise λx y=>rI x y=true)&&D.all (λx=>x.length==n)&&D.contains (bC n)&&D.all (λx=>D.all λy=>D.contains (aS x y))&&D.all (λx=>D.contains (cK x))&&A.all (λp=>C.all λq=>D.contains (dN p q))&&D.all (λy=>A.all (λg=>D.contains (aX y g))&&C.all λg=>D.contains (aX y g))
theorem Az.AU (t:eM n G)(s:eM n K)(c:bA n G O R)(d:bA n K O' R'){A C D:LN}{ws:List (List (Nat×Nat))}(E:dR G A)(F:dR K C)(h:Az n A C D ws=true):dR (tM n R R') D:=by
 unfold Az at h;simp only[rG,beq_iff_eq,vE,tU,List.contains_iff_mem] at h;obtain⟨⟨⟨⟨⟨⟨⟨⟨J,v⟩,Y⟩,r⟩,N⟩,Z⟩,L⟩,W⟩,u⟩:=h;have o:=tM.cX t s c d
 have sub: ∀x,x∈D->tM n R R' x:=λx f=>by
  rw[J] at f;obtain⟨w,Q,rfl⟩:=qU.1 f
  have m:(w:List (Nat×Nat))->(x:List Nat)->(∀i∈w,i.1<A.length/\i.2<C.length)->tM n R R' x->tM n R R' (w.foldl (λx i=>aS x (dN (A.getD i.1 []) (C.getD i.2 []))) x):=by
   intro w
   induction w with
   |nil=>exact λx _ h=>h
   |cons i w ih=>
    intro x hi f;have:=hi i siM;exact ih _ (λj hj=>hi j (by simp [hj])) (o.mul f (tM.all t s c d ((E.mem _).1 (aV this.1)) ((F.mem _).1 (aV this.2))))
  exact m w _ (v w Q) o.one
 refine⟨List.Pairwise.imp_of_mem (λf k h=>(lC (by rw[r _ f,r _ k])).1 h) Y,λx=>⟨sub x,λf=>?_⟩⟩
 have P:eM n (· ∈D):=⟨λh=>o.bM (sub _ h),N,λa b=>Z _ a _ b,λa=>L _ a⟩
 refine NC.le (H:=(· ∈D)) f P ?_ ?_
 .rintro a ⟨p,U,q,B,rfl⟩
  exact W p ((E.mem _).2 (cH c U)) q ((F.mem _).2 (cH d B))
 .rintro y b k (l|l)
  .exact (u y k).1 b ((E.mem _).2 (cH c l))
  .exact (u y k).2 b ((F.mem _).2 (cH d l))
end
set_option maxRecDepth 100000
theorem afF (h:H)(x y z w u:Int):mC h 1 [aC 0] 5 [(0,1,aC x),(1,1,aC y),(2,1,aC z),(3,1,aC w),(4,1,aC u)]=some (.sl h.next 0 5 (.kn 5),h.new (.cells false (ints [x,y,z,w,u]))):=by
 have e:dT [aC 0] 5= [aC 0,aC 0,aC 0,aC 0,aC 0]:=rfl;simp [mC,iH,e,putAt,V.cells,V.one,ints]
abbrev KP:LN:= [[1,2,3,0], [1,0,2,3]]
theorem QF: ∀g∈KP,aY 4 g:=by
 intro g a;simp only[KP,uL,List.not_mem_nil,or_false] at a;rcases a with rfl|rfl<;>exact⟨rfl,deC,deC⟩
abbrev Sf:LN:= [[1,0,3,2], [2,3,0,1]]
theorem MI: ∀g∈Sf,aY 4 g:=by
 intro g a;simp only[Sf,uL,List.not_mem_nil,or_false] at a;rcases a with rfl|rfl<;>exact⟨rfl,deC,deC⟩
abbrev D4g:LN:= [[1,2,3,0], [2,1,0,3]]
theorem abZ: ∀g∈D4g,aY 4 g:=by
 intro g a;simp only[D4g,uL,List.not_mem_nil,or_false] at a;rcases a with rfl|rfl<;>exact⟨rfl,deC,deC⟩
abbrev UA:LN:= [[1,2,0,3,4], [1,2,3,4,0]]
theorem acC: ∀g∈UA,aY 5 g:=by
 intro g a;simp only[UA,uL,List.not_mem_nil,or_false] at a;rcases a with rfl|rfl<;>exact⟨rfl,deC,deC⟩
theorem Wy (h:H):Ev T 28 [] h (λv h'=> ∃c0 c1 c2 c3 O0 R0 O1 R1 O2 R2 O3 R3,v= .tup [c0,c1,c2,c3]/\GC (λid=>id<h.next) h' c0 4 O0 R0 (bX 4 (· ∈KP))/\GC (λid=>id<h.next) h' c1 4 O1 R1 (bX 4 (· ∈Sf))/\GC (λid=>id<h.next) h' c2 4 O2 R2 (bX 4 (· ∈D4g))/\GC (λid=>id<h.next) h' c3 5 O3 R3 (bX 5 (· ∈UA))/\Fr h h'):=by
 refine kV ?_;obtain⟨B,hB⟩:=exI h.next;obtain⟨c,e1,n1,g1,o1,f1⟩:=dF hB [aC 0,.aD,.aD];obtain⟨t,e2,n2,g2,o2,f2⟩:=dF n1 [aC 0,.aD,.aD];obtain⟨h3,e3,n3,g3,o3,f3⟩:=dF n2 [aC 0,.aD,.aD];obtain⟨h4,e4,n4,g4,o4,f4⟩:=dF n3 [aC 0,.aD,.aD];have o9:=((f1.trans f2).trans f3).trans f4;have r8:h4.get B=bG [aC 0,.aD,.aD]:=by rw[o4 _ om,o3 _ om,o2 _ om];exact g1
 have i6:h4.get (B+1)=bG [aC 0,.aD,.aD]:=by rw[o4 _ om,o3 _ om];exact g2
 have s8:h4.get (B+1+1)=bG [aC 0,.aD,.aD]:=by rw[o4 _ om];exact g3
 have r6:h4.get (B+1+1+1)=bG [aC 0,.aD,.aD]:=by exact g4
 obtain⟨Q0,g8⟩: ∃Q,h4.next=Q:=⟨_,rfl⟩
 obtain⟨i0,q9,d1,q7,q8⟩:=mkI g8 [1,2,3,0];obtain⟨j0,k7,e5,l9,e0⟩:=mkI d1 [1,0,2,3];obtain⟨x0,r7,v1,k2,t8,c6⟩:=dF e5 [.sl Q0 0 4 (.kn 4),.sl (Q0+1) 0 4 (.kn 4)];have n6:Fr h4 x0:=(q8.trans e0).trans c6;have EA:SP x0 (.sl (Q0+1+1) 0 2 (.kn 2)) KP:=SP.two (a:= [1,2,3,0]) (b:= [1,0,2,3]) (h:=j0) (q7.mono e0) l9 om c6 k2 _;simp(disch:=omega)only[go_sem,aI,hB,e1,n1,e2,n2,e3,n3,e4,g8,Qu,q9,d1,k7,e5,Pq _ (qM ..) (qM ..),r7];refine (qK _ 4 KP x0 om om deC EA QF).mono ?_;rintro _ m0 ⟨c0,O0,R0,rfl,f8,d2⟩;have j6:=f8.sl;obtain⟨i,j,rfl,a0,b0,r1,h9⟩:=j6;have d:Fr h4 m0:=n6.trans d2;have v7:=d.next;have v6:=d2.next;have p7:m0.get B=bG [aC 0,.aD,.aD]:=by rw[d.get _ om];exact r8
 obtain⟨K,o6,u8,n5,s⟩:=lU m0 B [aC (4:Nat),i,j];have r9:=bW m0 B 0 (v:= aC (4:Nat)) (u:=i) (w:=j) rfl a0 b0;have l5:K.get B=bG [aC (4:Nat),i,j]:=n5;have l0:K.get (B+1)=bG [aC 0,.aD,.aD]:=by rw[s _ om,d.get _ om];exact i6
 have l2:K.get (B+1+1)=bG [aC 0,.aD,.aD]:=by rw[s _ om,d.get _ om];exact s8
 have p6:K.get (B+1+1+1)=bG [aC 0,.aD,.aD]:=by rw[s _ om,d.get _ om];exact r6
 have G0:GC (λid=>id<B+4) K _ 4 O0 R0 _:=f8.go (⟨om,λid c t=>s id om⟩:Fx (λid=>id<x0.next) m0 K) (λid c t=>om)
 have X0:Fx (λid=>id<B+4) h4 K:=⟨om,λid c t=>by rw[s id om,d.get id c]⟩
 obtain⟨Q1,h0⟩: ∃Q,K.next=Q:=⟨_,rfl⟩
 obtain⟨i1,o0,f6,i5,m4⟩:=mkI h0 [1,0,3,2];obtain⟨j1,k6,b9,j7,g0⟩:=mkI f6 [2,3,0,1];obtain⟨x1,p0,w4,i8,v8,e9⟩:=dF b9 [.sl Q1 0 4 (.kn 4),.sl (Q1+1) 0 4 (.kn 4)];have p2:Fr K x1:=(m4.trans g0).trans e9;have l8:SP x1 (.sl (Q1+1+1) 0 2 (.kn 2)) Sf:=SP.two (a:= [1,0,3,2]) (b:= [2,3,0,1]) (h:=j1) (i5.mono g0) j7 om e9 i8 _;simp(disch:=omega)only[go_sem,r9,p7,bQ,o6,h0,Qu,o0,f6,k6,b9,Pq _ (qM ..) (qM ..),p0];refine (qK _ 4 Sf x1 om om deC l8 MI).mono ?_;rintro _ m1 ⟨c1,O1,R1,rfl,f9,f0⟩;have k8:=f9.sl;obtain⟨o,p,rfl,a1,b1,q5,k4⟩:=k8;have m:Fr K m1:=p2.trans f0;have t4:=m.next;have t5:=f0.next;have s2:m1.get (B+1)=bG [aC 0,.aD,.aD]:=by rw[m.get _ om];exact l0
 obtain⟨U,p8,u7,k0,r⟩:=lU m1 (B+1) [aC (4:Nat),o,p];have UO:=bW m1 (B+1) 0 (v:= aC (4:Nat)) (u:=o) (w:=p) rfl a1 b1;have s0:U.get B=bG [aC (4:Nat),i,j]:=by rw[r _ om,m.get _ om];exact l5
 have p5:U.get (B+1)=bG [aC (4:Nat),o,p]:=k0;have m5:U.get (B+1+1)=bG [aC 0,.aD,.aD]:=by rw[r _ om,m.get _ om];exact l2
 have n9:U.get (B+1+1+1)=bG [aC 0,.aD,.aD]:=by rw[r _ om,m.get _ om];exact p6
 have G1:GC (λid=>id<B+4) U _ 4 O1 R1 _:=f9.go (⟨om,λid c t=>r id om⟩:Fx (λid=>id<x1.next) m1 U) (λid c t=>om)
 have X1:Fx (λid=>id<B+4) K U:=⟨om,λid c t=>by rw[r id om,m.get id c]⟩
 obtain⟨Q2,e8⟩: ∃Q,U.next=Q:=⟨_,rfl⟩
 obtain⟨i2,m7,h5,j5,p1⟩:=mkI e8 [1,2,3,0];obtain⟨j2,k9,f7,r0,d3⟩:=mkI h5 [2,1,0,3];obtain⟨x2,n0,v4,l1,v3,h7⟩:=dF f7 [.sl Q2 0 4 (.kn 4),.sl (Q2+1) 0 4 (.kn 4)];have q6:Fr U x2:=(p1.trans d3).trans h7;have s3:SP x2 (.sl (Q2+1+1) 0 2 (.kn 2)) D4g:=SP.two (a:= [1,2,3,0]) (b:= [2,1,0,3]) (h:=j2) (j5.mono d3) r0 om h7 l1 _;simp(disch:=omega)only[go_sem,UO,s2,bQ,p8,e8,Qu,m7,h5,k9,f7,Pq _ (qM ..) (qM ..),n0];refine (qK _ 4 D4g x2 om om deC s3 abZ).mono ?_;rintro _ m2 ⟨c2,O2,R2,rfl,c4,g9⟩;have sE:=c4.sl;obtain⟨z,A,rfl,a2,b2,j8,o5⟩:=sE;have l:Fr U m2:=q6.trans g9;have u4:=l.next;have u5:=g9.next;have i7:m2.get (B+1+1)=bG [aC 0,.aD,.aD]:=by rw[l.get _ om];exact m5
 obtain⟨Y,r3,t7,s4,q⟩:=lU m2 (B+1+1) [aC (4:Nat),z,A];have l3:=bW m2 (B+1+1) 0 (v:= aC (4:Nat)) (u:=z) (w:=A) rfl a2 b2;have p4:Y.get B=bG [aC (4:Nat),i,j]:=by rw[q _ om,l.get _ om];exact s0
 have p9:Y.get (B+1)=bG [aC (4:Nat),o,p]:=by rw[q _ om,l.get _ om];exact p5
 have l6:Y.get (B+1+1)=bG [aC (4:Nat),z,A]:=s4;have l4:Y.get (B+1+1+1)=bG [aC 0,.aD,.aD]:=by rw[q _ om,l.get _ om];exact n9
 have G2:GC (λid=>id<B+4) Y _ 4 O2 R2 _:=c4.go (⟨om,λid c t=>q id om⟩:Fx (λid=>id<x2.next) m2 Y) (λid c t=>om)
 have X2:Fx (λid=>id<B+4) U Y:=⟨om,λid c t=>by rw[q id om,l.get id c]⟩
 obtain⟨Q3,g5⟩: ∃Q,Y.next=Q:=⟨_,rfl⟩
 obtain⟨i3,i9,c5,n7,p3⟩:=mkI g5 [1,2,0,3,4];obtain⟨j3,q4,d8,s5,h6⟩:=mkI c5 [1,2,3,4,0];obtain⟨x3,m9,w5,o8,u9,d7⟩:=dF d8 [.sl Q3 0 5 (.kn 5),.sl (Q3+1) 0 5 (.kn 5)];have j4:Fr Y x3:=(p3.trans h6).trans d7;have s6:SP x3 (.sl (Q3+1+1) 0 2 (.kn 2)) UA:=SP.two (a:= [1,2,0,3,4]) (b:= [1,2,3,4,0]) (h:=j3) (n7.mono h6) s5 om d7 o8 _;simp(disch:=omega)only[go_sem,l3,i7,bQ,r3,g5,afF,i9,c5,q4,d8,Pq _ (qM ..) (qM ..),m9];refine (qK _ 5 UA x3 om om deC s6 acC).mono ?_;rintro _ m3 ⟨c3,O3,R3,rfl,g7,c8⟩;have i4:=g7.sl;obtain⟨J,F,rfl,a3,b3,k5,r4⟩:=i4;have f:Fr Y m3:=j4.trans c8;have t9:=f.next;have w6:=c8.next;have j9:m3.get (B+1+1+1)=bG [aC 0,.aD,.aD]:=by rw[f.get _ om];exact l4
 obtain⟨k,s9,v0,n8,x⟩:=lU m3 (B+1+1+1) [aC (5:Nat),J,F];have k1:=bW m3 (B+1+1+1) 0 (v:= aC (5:Nat)) (u:=J) (w:=F) rfl a3 b3;have d4:k.get B=bG [aC (4:Nat),i,j]:=by rw[x _ om,f.get _ om];exact p4
 have h8:k.get (B+1)=bG [aC (4:Nat),o,p]:=by rw[x _ om,f.get _ om];exact p9
 have c7:k.get (B+1+1)=bG [aC (4:Nat),z,A]:=by rw[x _ om,f.get _ om];exact l6
 have g6:k.get (B+1+1+1)=bG [aC (5:Nat),J,F]:=n8;have G3:GC (λid=>id<B+4) k _ 5 O3 R3 _:=g7.go (⟨om,λid c t=>x id om⟩:Fx (λid=>id<x3.next) m3 k) (λid c t=>om)
 have X3:Fx (λid=>id<B+4) Y k:=⟨om,λid c t=>by rw[x id om,f.get id c]⟩
 obtain⟨Q4,u6⟩: ∃Q,k.next=Q:=⟨_,rfl⟩
 obtain⟨y,ey,ny⟩: ∃y:H,H.mk k.tr (k.next+8)=y/\y.next=k.next+8:=⟨_,rfl,rfl⟩
 have fy:Fr k y:=by rw[<-ey];exact (Fr.refl k).bU om
 have d9:y.get B=bG [aC (4:Nat),i,j]:=by rw[fy.get _ om];exact d4
 have d0:y.get (B+1)=bG [aC (4:Nat),o,p]:=by rw[fy.get _ om];exact h8
 have d5:y.get (B+1+1)=bG [aC (4:Nat),z,A]:=by rw[fy.get _ om];exact c7
 have d6:y.get (B+1+1+1)=bG [aC (5:Nat),J,F]:=by rw[fy.get _ om];exact g6
 obtain⟨y0,o7,v2,l7,L⟩:=lU y B [aC (4:Nat),i,j];have a9:y0.get B=bG [aC (4:Nat),i,j]:=l7;have a6:y0.get (B+1)=bG [aC (4:Nat),o,p]:=by rw[L _ om];exact d0
 have a7:y0.get (B+1+1)=bG [aC (4:Nat),z,A]:=by rw[L _ om];exact d5
 have b8:y0.get (B+1+1+1)=bG [aC (5:Nat),J,F]:=by rw[L _ om];exact d6
 have t0:=bW y B 0 (v:= aC (4:Nat)) (u:=i) (w:=j) rfl a0 b0;obtain⟨y1,s7,t6,k3,W⟩:=lU y0 (B+1) [aC (4:Nat),o,p];have a4:y1.get B=bG [aC (4:Nat),i,j]:=by rw[W _ om];exact a9
 have a5:y1.get (B+1)=bG [aC (4:Nat),o,p]:=k3;have a8:y1.get (B+1+1)=bG [aC (4:Nat),z,A]:=by rw[W _ om];exact a7
 have b7:y1.get (B+1+1+1)=bG [aC (5:Nat),J,F]:=by rw[W _ om];exact b8
 have t1:=bW y0 (B+1) 0 (v:= aC (4:Nat)) (u:=o) (w:=p) rfl a1 b1;obtain⟨y2,r2,v9,m8,N⟩:=lU y1 (B+1+1) [aC (4:Nat),z,A];have b6:y2.get B=bG [aC (4:Nat),i,j]:=by rw[N _ om];exact a4
 have b4:y2.get (B+1)=bG [aC (4:Nat),o,p]:=by rw[N _ om];exact a5
 have Z:y2.get (B+1+1)=bG [aC (4:Nat),z,A]:=m8;have b5:y2.get (B+1+1+1)=bG [aC (5:Nat),J,F]:=by rw[N _ om];exact b7
 have t2:=bW y1 (B+1+1) 0 (v:= aC (4:Nat)) (u:=z) (w:=A) rfl a2 b2;obtain⟨y3,m6,v5,r5,P⟩:=lU y2 (B+1+1+1) [aC (5:Nat),J,F];have f5:y3.get B=bG [aC (4:Nat),i,j]:=by rw[P _ om];exact b6
 have c9:y3.get (B+1)=bG [aC (4:Nat),o,p]:=by rw[P _ om];exact b4
 have e7:y3.get (B+1+1)=bG [aC (4:Nat),z,A]:=by rw[P _ om];exact Z
 have e6:y3.get (B+1+1+1)=bG [aC (5:Nat),J,F]:=r5;have t3:=bW y2 (B+1+1+1) 0 (v:= aC (5:Nat)) (u:=J) (w:=F) rfl a3 b3;have q0:dM (.agg [aC (4:Nat),i,j]) (.agg [aC (4:Nat),i,j])=true:=by simp [dM,rJ,r1,h9]
 have q1:dM (.agg [aC (4:Nat),o,p]) (.agg [aC (4:Nat),o,p])=true:=by simp [dM,rJ,q5,k4]
 have q2:dM (.agg [aC (4:Nat),z,A]) (.agg [aC (4:Nat),z,A])=true:=by simp [dM,rJ,j8,o5]
 have q3:dM (.agg [aC (5:Nat),J,F]) (.agg [aC (5:Nat),J,F])=true:=by simp [dM,rJ,k5,r4]
 refine qL k1 j9 @bQ s9 (aE d4) (aE h8) (aE c7) (aE g6) ?_;rw[ey];simp(disch:=omega)only[go_sem,t0,d9,o7,t1,a6,s7,t2,a8,r2,t3,b5,m6,bQ,aE d9,aE d0,aE d5,aE d6,aE a9,aE a6,aE a7,aE b8,aE a4,aE a5,aE a8,aE b7,aE b6,aE b4,aE Z,aE b5,aE f5,aE c9,aE e7,aE e6,q0,q1,q2,q3]
 have Xe:Fx (λid=>id<B+4) k y3:=⟨om,λid c t=>by rw[P id om,N id om,W id om,L id om,fy.get id om]⟩
 have low: ∀{v n O R G},GC (λid=>id<B+4) k v n O R G->GC (λid=>id<B) y3 v n O R G:=λg=>g.go Xe (λid _ s1=>om)
 refine⟨_,_,_,_,O0,R0,O1,R1,O2,R2,O3,R3,rfl,low (((G0.go X1 λ_ _ h=>h).go X2 λ_ _ h=>h).go X3 λ_ _ h=>h),low ((G1.go X2 λ_ _ h=>h).go X3 λ_ _ h=>h),low (G2.go X3 λ_ _ h=>h),low G3,⟨om,λid s1=>?_⟩⟩;rw[P id om,N id om,W id om,L id om,fy.get id om,x id om,f.get id om,q id om,l.get id om,r id om,m.get id om,s id om,d.get id om];exact o9.get id om
section
variable {n:Nat} {w:Bool} {c d:qG} {l:List qG} {Gc Gd:List Nat->Prop} {A C D:LN} {ws:List (List (Nat×Nat))}
theorem WO {G K:List Nat->Prop}(E:dR G A)(F:dR K A)(x:List Nat):G x↔K x:=(E.mem x).symm.trans (F.mem x)
structure Mem (n:Nat)(d:qG)(Gd:List Nat->Prop)(A:LN):Prop where
 cX:eM n Gd
 isc:bA n Gd d.1 d.2
 el:dR Gd A
theorem Mem.sz (m:Mem n d Gd A):iC d.1 n 0=A.length:=by
 obtain⟨E,e⟩:=dA m.cX m.isc;rw[<-e,E.uniq m.el]
theorem Mem.nx (a:Mem n c Gc C)(m:Mem n d Gd A)(h:Az n A (if w then C else A) D ws=true):eM n (Hk n w c d)/\dR (Hk n w c d) D:=by
 unfold Hk
 cases w with
 |false=>exact⟨tM.cX m.cX m.cX m.isc m.isc,Az.AU m.cX m.cX m.isc m.isc m.el m.el h⟩
 |true=>exact⟨tM.cX m.cX a.cX m.isc a.isc,Az.AU m.cX a.cX m.isc a.isc m.el a.el h⟩
theorem xI (s:xP n w c l)(p:Mem n c Gc C){k:Nat}(a:l[k]? =some d)(m:Mem n d Gd A)(h:Az n A (if w then C else A) D ws=true)(f:D≠A): ∃e,l[k+1]? =some e/\Mem n e (Hk n w c d) D:=by
 obtain⟨g,E⟩:=p.nx m h;have t:k<l.length:=(rW.1 a).1
 by_cases o:k+1<l.length
 .have i:=dC o
  exact⟨_,i,g,(s.st k _ _ a i).1,E⟩
 .have b:k=l.length- 1:=om
  have j:=s.en d (by rw[<-b];exact a);obtain⟨q,_⟩:=dA m.cX m.isc;obtain⟨r,_⟩:=dA g j;exact absurd ((E.uniq r).trans (q.uniq m.el)) f
theorem CT (s:xP n w c l)(p:Mem n c Gc C){k:Nat}(f:l[k]? =some d)(m:Mem n d Gd A)(h:Az n A (if w then C else A) A ws=true):l.length=k+1:=by
 obtain⟨g,E⟩:=p.nx m h;have r:k<l.length:=(rW.1 f).1
 by_cases j:k+1<l.length
 .have i:=dC j
  obtain⟨q,o⟩:=s.st k _ _ f i;obtain⟨a,b⟩:=(q.congr (WO E m.el)).uniq m.isc;exact absurd (Prod.ext a b) o
 .omega
end
abbrev UE:LN:= [[0,1,2,3], [0,1,3,2], [0,2,1,3], [0,2,3,1], [0,3,1,2], [0,3,2,1], [1,0,2,3], [1,0,3,2], [1,2,0,3], [1,2,3,0], [1,3,0,2], [1,3,2,0], [2,0,1,3], [2,0,3,1], [2,1,0,3], [2,1,3,0], [2,3,0,1], [2,3,1,0], [3,0,1,2], [3,0,2,1], [3,1,0,2], [3,1,2,0], [3,2,0,1], [3,2,1,0]]
theorem BS:dR (bX 4 (· ∈KP)) UE:=Zq.AU (ws:= [[], [0,0,1,0,0], [0,0,0,1,0], [0,1], [0,1,0,1], [1,0,0,1,0], [1], [0,0,1,0,0,1], [0,0,0,1,0,1], [0], [0,1,0], [0,0,0,1,0,0], [0,1,0,0], [1,0,1], [0,1,0,0,1], [1,0], [0,0], [0,0,1], [0,0,0], [0,0,1,0], [0,0,0,1], [0,0,1,0,1], [1,0,0], [1,0,0,1]]) (by decide+kernel)
abbrev adS:LN:= [[0,1,2,3], [0,2,3,1], [0,3,1,2], [1,0,3,2], [1,2,0,3], [1,3,2,0], [2,0,1,3], [2,1,3,0], [2,3,0,1], [3,0,2,1], [3,1,0,2], [3,2,1,0]]
abbrev xJ:LN:= [[0,1,2,3], [1,0,3,2], [2,3,0,1], [3,2,1,0]]
abbrev ZG:LN:= [[0,1,2,3]]
theorem ahU:Az 4 UE (if false then UE else UE) adS [[], [(1,4)], [(1,2)], [(1,16)], [(2,12)], [(3,18)], [(2,6)], [(1,10)], [(3,19)], [(4,6)], [(1,8)], [(2,7)]]=true:=by decide+kernel
theorem aiA:Az 4 adS (if false then UE else adS) xJ [[], [(1,6)], [(1,9)], [(1,3)]]=true:=by decide+kernel
theorem ahR:Az 4 xJ (if false then UE else xJ) ZG [[]]=true:=by decide+kernel
theorem aiH:Az 4 ZG (if false then UE else ZG) ZG [[]]=true:=by decide+kernel
theorem NS {c:qG}{l:List qG}(p:bA 4 (bX 4 (· ∈KP)) c.1 c.2)(s:xP 4 false c l):l.map (λe=>iC e.1 4 0)= [24,12,4,1]:=by
 have a:Mem 4 c _ UE:=⟨bX.cX QF,p,BS⟩
 have k:=s.hd;obtain⟨u,j,m⟩:=xI s a k a ahU deC;obtain⟨q,f,b⟩:=xI s a j m aiA deC;obtain⟨r,o,h⟩:=xI s a f b ahR deC;have t:=CT s a o h aiH;refine List.ext_getElem? λi=>?_
 rw[Jj]
 match i with
 |0=>rw[k];exact congrArg some a.sz
 |1=>rw[j];exact congrArg some m.sz
 |2=>rw[f];exact congrArg some b.sz
 |3=>rw[o];exact congrArg some h.sz
 |i+4=>rw[List.getElem?_eq_none om];rfl
abbrev LD4:LN:= [[0,1,2,3], [0,3,2,1], [1,0,3,2], [1,2,3,0], [2,1,0,3], [2,3,0,1], [3,0,1,2], [3,2,1,0]]
theorem afQ:dR (bX 4 (· ∈D4g)) LD4:=Zq.AU (ws:= [[], [0,0,1], [0,1], [0], [1], [0,0], [0,0,0], [1,0]]) (by decide+kernel)
abbrev aeW:LN:= [[0,1,2,3], [2,3,0,1]]
abbrev ZO:LN:= [[0,1,2,3]]
theorem aiI:Az 4 LD4 (if true then LD4 else LD4) aeW [[], [(1,2)]]=true:=by decide+kernel
theorem ahW:Az 4 aeW (if true then LD4 else aeW) ZO [[]]=true:=by decide+kernel
theorem aiD:Az 4 ZO (if true then LD4 else ZO) ZO [[]]=true:=by decide+kernel
theorem PK {c:qG}{l:List qG}(m:bA 4 (bX 4 (· ∈D4g)) c.1 c.2)(s:xP 4 true c l):l.map (λe=>iC e.1 4 0)= [8,2,1]:=by
 have a:Mem 4 c _ LD4:=⟨bX.cX abZ,m,afQ⟩
 have j:=s.hd;obtain⟨q,h,k⟩:=xI s a j a aiI deC;obtain⟨o,f,b⟩:=xI s a h k ahW deC;have p:=CT s a f b aiD;refine List.ext_getElem? λi=>?_
 rw[Jj]
 match i with
 |0=>rw[j];exact congrArg some a.sz
 |1=>rw[h];exact congrArg some k.sz
 |2=>rw[f];exact congrArg some b.sz
 |i+3=>rw[List.getElem?_eq_none om];rfl
section
variable {Rp Cg:List Nat}
def afX (s:List Nat)(gs a:LN):LN:=gs.foldl (λa g=>if a.contains (aS s g) then a else a++ [aS s g]) a
def DY (gs:LN):Nat->Nat->LN->LN
 |0,_,S=>S
 |f+1,i,S=>match S[i]? with
  |none=>S
  |some s=>DY gs f (i+1) (afX s gs S)
theorem Uq {P:List Nat->Prop}{d:LN}(j: ∀x,P x-> ∀g∈d,P (aS x g)):(f i:Nat)->(S:LN)->(∀x∈S,P x)-> ∀x∈DY d f i S,P x
 |0,_,_,h=>h
 |f+1,i,S,h=>by
  unfold DY;split
  .exact h
  .rename_i s o
   refine Uq j f _ _ ?_
   have m:(l:LN)->(∀g∈l,g∈d)-> ∀a:LN,(∀x∈a,P x)-> ∀x∈afX s l a,P x:=by
    intro l
    induction l with
    |nil=>exact λ_ a c=>c
    |cons g l ih=>
     intro k a c;refine ih (λg n=>k g (tX _ n)) _ ?_;dsimp only;split
     .exact c
     .intro x b
      rcases jO.1 b with b|b
      .exact c x b
      .rw[List.mem_singleton.1 b];exact j s (h s (Oc o)) g (k g sZ)
   exact m d (λg h=>h) S h
def KM (L:LN)(N:List Nat):LN:=N.map λi=>L.getD i []
def OO (n:Nat)(L:LN)(N:List Nat):Bool:=
 decide (N.Pairwise (· < ·))&&N.all (λi=>decide (i<L.length))&&(KM L N).all (λx=>(KM L N).all λy=>(KM L N).contains (aS x y))&&(KM L N).all (λx=>(KM L N).contains (cK x))&&(KM L N).contains (bC n)&&(KM L N).all λy=>L.all λg=>(KM L N).contains (aX y g)
def NxB (n:Nat)(L:LN)(Rp Cg N N':List Nat):Bool:=
 (N.all λi=>N'.contains i)&&(List.range L.length).all (λi=>N.contains i||Rp.any λr=>!N.contains r&&(L.map (aX (L.getD r []))).contains (L.getD i []))&&Rp.all (λr=>decide (r<L.length)&&(N.contains r||(KM L N').all λx=>(DY (KM L N++Cg.map λg=>aX (L.getD r []) (L.getD g [])) L.length 0 [bC n]).contains x))&&Cg.all (λg=>decide (g<L.length))&&N'.any λi=>!N.contains i
def UF (n:Nat)(L:LN)(Rp Cg:List Nat):LN->Bool
 |a::b::r=>(b==List.range L.length||OO n L b)&&NxB n L Rp Cg a b&&decide (a.length<L.length)&&UF n L Rp Cg (b::r)
 | [a]=>decide (a.length=L.length)
 | []=>false
section
variable {n:Nat} {G:List Nat->Prop} {L:LN} {K N N' r:List Nat} {rs:LN}
theorem Zf {x:List Nat}:x∈KM L N↔RG L N x:=by
 unfold KM;rw[qU];exact Iff.rfl
variable (hG:eM n G) (E:dR G L)
include hG E
theorem OO.ok (h:OO n L N=true):zF n G L N:=by
 unfold OO at h;simp only[rG,vE,tU,List.contains_iff_mem,Zf] at h;obtain⟨⟨⟨⟨⟨s,c⟩,k⟩,q⟩,t⟩,p⟩:=h;have le: ∀x,RG L N x->G x:=λx ⟨i,hi,e⟩=>by rw[<-e];exact tY E (c i hi)
 refine⟨⟨s,λi=>⟨λhi=>⟨c i hi,i,hi,rfl⟩,λ⟨hi,j,hj,e⟩=>?_⟩⟩,⟨λo=>hG.bM (le _ o),t,λ{a b} d l=>k a d b l,λ{a} d=>q a d⟩,λy g f m=>p y f g ((E.mem g).2 m),le⟩;rw[<-tT E.nodup (c j hj) hi e];exact hj
theorem aeM:zF n G L (List.range L.length):=by
 have e:RG L (List.range L.length)=G:=funext λx=>propext ⟨λ⟨i,hi,e⟩=>by rw[<-e];exact tY E (wY.1 hi),λh=>by
  obtain⟨i,hi,e⟩:=rV.1 ((E.mem x).2 h)
  exact⟨i,wY.2 hi,by rw[List.getD,dC hi];exact e⟩⟩
 refine⟨⟨List.pairwise_lt_range,λi=>?_⟩,by rw[e];exact hG,by rw[e];exact λy g b a=>hG.mul (hG.mul (hG.inv a) b) a,by rw[e];exact λx h=>h⟩;rw[wY,e];exact⟨λh=>⟨h,tY E h⟩,λh=>h.1⟩
theorem NxB.ok (k:zF n G L N)(o:zF n G L N')(J:vB n G L K)(hl:N.length<L.length)(h:NxB n L Rp Cg N N'=true):Dv n G L K N=N':=by
 unfold NxB at h;simp only[rG,vE,List.any_eq_true,Bool.or_eq_true,Bool.not_eq_true',tU,List.contains_iff_mem,Zf,wY] at h;obtain⟨⟨⟨⟨h1,A⟩,m⟩,hC⟩,W,q,B⟩:=h;have nc:{i:Nat}->N.contains i=false->i∉N:=λh A=>by rw[List.contains_iff_mem.2 A] at h;cases h
 obtain⟨⟨i,hi,hn,e⟩,F,_,w⟩:=vD hG E k J hl;have s:=J.lt hi
 have up: ∀t∈N',t∈Dv n G L K N:=λt f=>by
  rw[e];refine (Bm t).2 ⟨((o.rk.mem t).1 f).1,?_⟩;rcases A i s with h|⟨r,hr,R,Y⟩
  .exact absurd h hn
  .obtain⟨p,m⟩:=m r hr
   rcases m with m|m
   .exact absurd m (nc R)
   .obtain⟨g,d,u⟩:=qU.1 Y
    have gr:=Gt.cX hG k.le (tY E s);have l:=(E.mem g).1 d
    have rx:Gt n G (RG L N) (L.getD i []) (L.getD r []):=by
     have:=NC.cj (n:=n) (NC.of (.inr rfl):Gt n G (RG L N) (L.getD i []) (L.getD i [])) (hG.inv l);rw[<-u,<-iP (jJ hG E p) (hG.bM l) (hG.bM l).inv,dB (hG.bM l),kZ (jJ hG E p)] at this;rwa [<-u]
    refine Uq (P:=Gt n G (RG L N) (L.getD i [])) (λx U g d=>gr.mul U ?_) L.length 0 [bC n] (λx U=>by rw[List.mem_singleton.1 U];exact gr.one) _ (m _ ⟨t,f,rfl⟩);rcases jO.1 d with d|d
    .exact NC.of (.inl (Zf.1 d))
    .obtain⟨c,Y,rfl⟩:=qU.1 d
     exact NC.cj rx (tY E (hC c Y))
 have v:=((o.rk.mem W).1 q).1;obtain⟨y,a0,hR,g,d,u⟩:=Pb hG E v;have z:y∈K:=J.perm.mem_iff.2 (kX.2 ⟨om,hR⟩)
 have yN:y∉N:=λh=>nc B (by
  obtain⟨t,f,O⟩:=k.nm _ _ ⟨y,h,rfl⟩ d;have:t=W:=tT E.nodup ((k.rk.mem t).1 f).1 v (O.trans u)
  rw[<-this];exact f)
 have Q:RG L N' (L.getD y []):=by
  have:=o.nm _ _ ⟨W,q,rfl⟩ (hG.inv d);rwa [<-u,<-iP (jJ hG E om) (hG.bM d) (hG.bM d).inv,dB (hG.bM d),kZ (jJ hG E om)] at this
 have Z: ∀t∈zX n G L N y,t∈N':=λt f=>by
  obtain⟨m,h4⟩:=(Bm t).1 f;have:RG L N' (L.getD t []):=NC.le h4 o.cX (λa h=>h.elim (λ⟨j,hj,e⟩=>⟨j,h1 j hj,e⟩) λe=>by rw[e];exact Q) λa b ha hb=>o.nm a b ha hb
  exact (o.rk.mem t).2 ⟨m,this⟩
 have O:=w y z yN λt f=>up t (Z t f)
 refine sX F.rk.asc o.rk.asc λt=>⟨λf=>Z t (by rw[O];exact f),up t⟩
theorem UF.ok (c:zS n G L K rs r)(o:r.length=L.length)(i:vB n G L K):(Ns:LN)->(N:List Nat)->(k:Nat)->rs[k]? =some N->zF n G L N->UF n L Rp Cg (N::Ns)=true->rs.drop k=N::Ns
 | [],N,k,hk,kN,h=>by
  have d:N.length=L.length:=of_decide_eq_true h;have b:=(rW.1 hk).1
  have: ¬k+1<rs.length:=λa=>by
   have:=(c.st k _ _ hk (dC a)).1;omega
  rw[Ij b,List.drop_eq_nil_of_le om];rw[dC b] at hk;rw[Option.some.inj hk]
 |N'::Ns,N,k,hk,kN,h=>by
  unfold UF at h;simp only[rG,tU] at h;obtain⟨⟨⟨a,l⟩,p⟩,m⟩:=h
  have j:zF n G L N':=by
   rw[Bool.or_eq_true] at a;rcases a with a|a
   .rw[beq_iff_eq.1 a];exact aeM hG E
   .exact OO.ok hG E a
  have b:=(rW.1 hk).1
  have f:k+1<rs.length:=Nat.lt_of_not_le λh=>by
   have d:=c.la;rw[show rs.length- 1=k by omega,hk] at d;cases d;omega
  have e:=(c.st k _ _ hk (dC f)).2;rw[NxB.ok hG E kN j i p l] at e;have:=UF.ok c o i Ns N' (k+1) (by rw[dC f,e]) j m;rw[dC b] at hk;rw[Ij b,this,Option.some.inj hk]
omit hG E in
theorem QE (b:zF n G L [0])(a:L.getD 0 []=bC n):Km L (λx=>x=bC n)= [0]:=by
 refine (xW L _).uniq (K:=λx=>x=bC n) ⟨b.rk.asc,λi=>?_⟩;rw[b.rk.mem i]
 refine and_congr_right λ_=>⟨λ⟨j,hj,e⟩=>?_,λe=>⟨0,List.mem_singleton.2 rfl,?_⟩⟩
 .rw[List.mem_singleton.1 hj] at e;rw[<-e,a]
 .rw[a,e]
theorem MO (f:zK n G L K rs)(l:vB n G L K){a:LN}(k:OO n L [0]=true)(j:L.getD 0 []=bC n)(h:UF n L Rp Cg ([0]::a)=true):rs= [0]::a:=by
 obtain⟨r,c,i⟩:=f.ex;have d:=OO.ok hG E k;have e:=QE d j;have b:=c.hd;rw[e] at b;exact UF.ok hG E c i l a [0] 0 b d h
end
theorem acY {K:List Nat}{rs:LN}(b:zK 4 (bX 4 (· ∈KP)) UE K rs)(a:vB 4 (bX 4 (· ∈KP)) UE K):rs= [[0], [0,7,16,23], [0,3,4,7,8,11,12,15,16,19,20,23],List.range 24]:=MO (Rp:= [1,3,7,9]) (Cg:= [0,2,8]) (bX.cX QF) BS b a (by decide+kernel) rfl (by decide+kernel)
theorem AB:dR (bX 4 (· ∈Sf)) xJ:=Zq.AU (ws:= [[], [0], [1], [0,1]]) (by decide+kernel)
theorem ahA {i:Nat}(k:i<4)(l:i∉ [0]):zX 4 (bX 4 (· ∈Sf)) xJ [0] i= [0,i]/\zF 4 (bX 4 (· ∈Sf)) xJ [0,i]/\UF 4 xJ [1,2,3] [0] [[0,i],List.range 4]=true:=by
 have hG:=bX.cX MI;have E:=AB;have m:zF 4 (bX 4 (· ∈Sf)) xJ [0]:=OO.ok hG E (by decide+kernel);have f: ∀i,i<4->i∉ [0]->OO 4 xJ [0,i]=true/\UF 4 xJ [1,2,3] [0] [[0,i],List.range 4]=true:=by decide+kernel
 obtain⟨x,p⟩:=f i k l;have c:zF 4 (bX 4 (· ∈Sf)) xJ [0,i]:=OO.ok hG E x;refine⟨sX (Nt hG E m k).rk.asc c.rk.asc λt=>?_,c,p⟩;obtain⟨o,u,_⟩:=Hv m k l;refine⟨λd=>?_,λd=>?_⟩
 .obtain⟨q,w⟩:=(Bm t).1 d
  refine (c.rk.mem t).2 ⟨q,NC.le w c.cX (λa h=>h.elim (λ⟨j,hj,e⟩=>⟨j,by rw[List.mem_singleton.1 hj];exact sZ,e⟩) λe=>by rw[e];exact⟨i,siM,rfl⟩) λa b v s=>c.nm a b v s⟩
 .rcases uL.1 d with rfl|d
  .exact o 0 sZ
  .rw[List.mem_singleton.1 d];exact u
theorem afU {K:List Nat}{rs:LN}(t:zK 4 (bX 4 (· ∈Sf)) xJ K rs)(b:vB 4 (bX 4 (· ∈Sf)) xJ K): ∃i,i<4/\i∉ [0]/\rs= [[0], [0,i],List.range 4]/\Dv 4 (bX 4 (· ∈Sf)) xJ K [0]= [0,i]:=by
 obtain⟨r,c,l⟩:=t.ex;have hG:=bX.cX MI;have E:=AB;have p:zF 4 (bX 4 (· ∈Sf)) xJ [0]:=OO.ok hG E (by decide+kernel);have a:=c.hd;rw[QE p rfl] at a;have f:=(rW.1 a).1
 have o:0+1<rs.length:=Nat.lt_of_not_le λh=>by
  have j:=c.la;rw[show rs.length- 1=0 by omega,a] at j;cases j;cases l
 have e:=(c.st 0 _ _ a (dC o)).2;obtain⟨⟨i,hi,m,d⟩,_⟩:=vD hG E p b (show 1<4 by omega);have k:i<4:=b.lt hi;obtain⟨u,q,s⟩:=ahA k m;rw[u] at d;rw[d] at e;have:=UF.ok hG E c l b [List.range 4] [0,i] 1 (by rw[dC o,e]) q s;refine⟨i,k,m,?_,d⟩;rw[<-List.take_append_drop 1 rs,this,List.take_succ_eq_append_getElem f];rw[dC f] at a;rw[Option.some.inj a]
 rfl
theorem acT {K:List Nat}{rs:LN}(a:zK 4 (bX 4 (· ∈Sf)) xJ K rs)(b:vB 4 (bX 4 (· ∈Sf)) xJ K):rs.map List.length= [1,2,4]:=by
 obtain⟨i,_,_,e,_⟩:=afU a b;rw[e];rfl
abbrev LA5:LN:= [[0,1,2,3,4], [0,1,3,4,2], [0,1,4,2,3], [0,2,1,4,3], [0,2,3,1,4], [0,2,4,3,1], [0,3,1,2,4], [0,3,2,4,1], [0,3,4,1,2], [0,4,1,3,2], [0,4,2,1,3], [0,4,3,2,1], [1,0,2,4,3], [1,0,3,2,4], [1,0,4,3,2], [1,2,0,3,4], [1,2,3,4,0], [1,2,4,0,3], [1,3,0,4,2], [1,3,2,0,4], [1,3,4,2,0], [1,4,0,2,3], [1,4,2,3,0], [1,4,3,0,2], [2,0,1,3,4], [2,0,3,4,1], [2,0,4,1,3], [2,1,0,4,3], [2,1,3,0,4], [2,1,4,3,0], [2,3,0,1,4], [2,3,1,4,0], [2,3,4,0,1], [2,4,0,3,1], [2,4,1,0,3], [2,4,3,1,0], [3,0,1,4,2], [3,0,2,1,4], [3,0,4,2,1], [3,1,0,2,4], [3,1,2,4,0], [3,1,4,0,2], [3,2,0,4,1], [3,2,1,0,4], [3,2,4,1,0], [3,4,0,1,2], [3,4,1,2,0], [3,4,2,0,1], [4,0,1,2,3], [4,0,2,3,1], [4,0,3,1,2], [4,1,0,3,2], [4,1,2,0,3], [4,1,3,2,0], [4,2,0,1,3], [4,2,1,3,0], [4,2,3,0,1], [4,3,0,2,1], [4,3,1,0,2], [4,3,2,1,0]]
theorem KV:dR (bX 5 (· ∈UA)) LA5:=Zq.AU (ws:= [[], [1,0,0], [0,1,1,1,1], [1,0,1,0,0,1,1], [1,1,1,1,0,1], [0,1,1,1,0,1], [1,0,1,1,1], [0,1,0], [1,1,0], [1,0,1,0,1,1], [0,0,1,0,1,1], [0,1,0,1,0,0], [1,0,1,0,1,1,1], [0,0,1,0,1,1,1], [0,1,0,1,0,0,1], [0], [1], [1,0,0,1], [0,1,0,0], [1,0,1,1,1,0], [1,1,0,0], [1,1,0,1], [1,0,1,1,1,1], [0,1,0,1], [0,0], [1,0], [0,1,0,1,1], [0,1,0,1,0,0,1,1], [0,0,1,0,1,1,1,0], [0,0,1,0,1,1,1,1], [1,0,0,1,1], [0,1], [1,1], [1,1,0,0,1], [0,1,0,0,1], [0,1,0,1,0], [0,0,1,0,0], [0,1,0,0,1,1], [1,0,1,0,0], [0,1,0,1,1,1], [0,0,1], [1,0,1], [0,0,1,0], [0,1,0,1,1,1,0], [1,0,1,0], [1,1,1], [1,1,1,0], [0,1,1], [1,1,1,1], [1,1,1,0,1], [0,1,1,1], [1,0,1,0,0,1], [1,1,1,1,0], [0,1,1,1,0], [1,0,1,1], [0,1,0,1,1,1,1], [0,0,1,1], [1,0,1,0,1], [0,0,1,0,1], [0,0,1,0,1,0]]) (by decide+kernel)
theorem adU {K:List Nat}{rs:LN}(b:zK 5 (bX 5 (· ∈UA)) LA5 K rs)(a:vB 5 (bX 5 (· ∈UA)) LA5 K):rs= [[0],List.range 60]:=MO (Rp:= [1,3,16,17]) (Cg:= [0,1,30]) (bX.cX acC) KV b a (by decide+kernel) rfl (by decide+kernel)
end
theorem RT {W:Nat->Prop}(vc:V)(n:Nat)(O:LN)(R:iA)(G:List Nat->Prop)(h:H)(r:GC W h vc n O R G):
  Ev T 42 [vc] h (λv h'=>v= aC (iC O n 0:Nat)/\Fr h h'):=by
 obtain⟨A,Q,p,a0,rfl,y,oO,pO,sR,oR,aR⟩:=r.cw
 have s:=(SV.cM y).2.1
 have t:=(SV.cM sR).2.1
 have c:=r.isc
 have n7:=r.n7
 have a1:=dX r
 have lO:=aJ.length pO
 rw[c.lo] at lO
 obtain⟨B,hB⟩:=exI h.next
 obtain⟨P,e1,n1,Z,o1,F⟩:=dF hB [aC n,A,Q]
 have f:bH A=some (aC n):=by unfold bH;rw[SV.len y (n:=n) om om];rfl
 obtain⟨x,l,K,q,cO⟩:=SV.shape y n om om
 refine Ku (aU h (v:= aC n) (u:=A) (w:=Q) rfl s t) hB e1 ?_
 refine aH (λU b L=> ∃(i a:Nat),(∃g:Nat->V,b= [g 0,.ptr B 0,g 2,aC a,aC i,g 5])/\i<=n/\a*iC O (n-i) i=iC O n 0/\L=P/\U=n-i) n
  ⟨0,1,aB rfl,fE _,by rw[Nat.one_mul];rfl,rfl,rfl⟩ ?_
 rintro U b L ⟨i,a,⟨g,rfl⟩,hi,d,rfl,rfl⟩
 by_cases k:(i:Int)<(n:Int)
 case neg=>
  have J:=bT k;obtain rfl:i=n:=om
  simp(disch:=omega)only[go_sem,H.cell_of Z,f,J];rw[Nat.sub_self] at d;have:iC O 0 i=1:=rfl;rw[this,qZ] at d;exact⟨by rw[d],F⟩
 have J:=cJ k
 have o:i<n:=om
 have z:=aJ.get pO i om (by rw[c.lo];exact o)
 rw[show O[i]'(by rw[c.lo];exact o)=O.getD i [] from oV _] at z
 have co:L.cell x (l+i)=some (p[i]'om):=by
  rw[F.cell (q om),cO i om,dC om]
 generalize p[i]'om=vo at z co
 have N:=(z.si.mono F).lens
 rw[aL] at N
 have st:iC O (n-i) i=(O.getD i []).length*iC O (n-(i+1)) (i+1):=by
  rw[show n-i=(n-(i+1))+1 by omega];rfl
 have pos:=tF (O:=O) (n-(i+1)) (i+1) (λj P h2=>(r.row om).1)
 obtain⟨m,hm⟩:=exI ((O.getD i []).length)
 rw[st,<-Nat.mul_assoc,hm] at d
 rw[hm] at N
 have bd:a*m<=iC O n 0:=by rw[<-d];exact Nat.le_mul_of_pos_right _ pos
 have Y:(a:Int)*(m:Int)=((a*m:Nat):Int):=rfl
 obtain⟨w,hw⟩:=exI (a*m)
 rw[hw] at Y bd d
 simp(disch:=omega)only[go_sem,H.cell_of Z,f,J,K.ixa,co,N,Y]
 rw[eJ i]
 exact⟨n-(i+1),om,i+1,w,aB rfl,om,d,rfl⟩
theorem VC {h:H}{id o:Nat}{a b c:V}(r:h.row id o 3=some [a,b,c]):h.cell id (o+1)=some b:=by
 unfold H.row at r;unfold H.cell;split at r
 .rename_i f d e
  try rw[e]
  simp only[sub] at r;split at r
  .have r:=Option.some.inj r
   have:=congrArg (λl:List V=>l[1]?) r;simp at this;exact this
  .cases r
 .cases r
theorem Ko {W:Nat->Prop}(x A:V)(n:Nat)(ls:List (V×V))(l:List qG)(a:List Nat)(h:H)(sv:SV h x 3 (Dk n ls))(al:aJ (λp (e:qG)=> ∃G,GC W h (.agg [aC n,p.1,p.2]) n e.1 e.2 G) ls l)(l6:l.length<=6000)(R:SI h A (zi a))(P:l.map (λe=>iC e.1 n 0)=a):
  Ev T 29 [x,aC 0,A] h (λv h'=>v= .bool true/\Fr h h'):=by
 have la:=aJ.length al
 have N:a.length=l.length:=by rw[<-P,fL]
 have K:bH x=some (aC (l.length:Int)):=by unfold bH;rw[SV.len sv (n:=l.length) (by rw[iU,la]) om];rfl
 have s:=R.lens
 rw[aL,N] at s
 have d0:decide ((0:Int)≠0)=false:=rfl
 have d1:decide ((l.length:Int)≠(l.length:Int))=false:=bT λh=>h rfl
 obtain⟨w,j,u,c,r⟩:=R.open
 rw[aL,N] at u c r
 refine pY d0 K s d1 ?_
 refine aH (λO f m=> ∃(i:Nat),(∃g:Nat->V,f= [x,aC 0,A,g 3,aC i,g 5,g 6,g 7])/\i<=l.length/\Fr h m/\O=l.length-i) l.length
  ⟨0,aB rfl,fE _,Fr.refl h,rfl⟩ ?_
 rintro O f m ⟨i,⟨g,rfl⟩,hi,F,rfl⟩
 by_cases q:(i:Int)<(l.length:Int)
 case neg=>
  have y:=bT q;refine cU K y ?_;exact F
 have y:=cJ q
 have o:i<l.length:=om
 obtain⟨r1,o1,B,J⟩:=qF (sv.mono F) (i:=i) om
 obtain⟨G1,b⟩:=aJ.get al i om o
 have t:a.getD i 0=iC l[i].1 n 0:=by rw[<-P,List.getD,Jj,dC o];rfl
 generalize ls[i]'om=p1 at J b
 generalize l[i]=e at b t
 have Q:m.cell w (j+i)=some (aC (iC e.1 n 0:Nat)):=by
  rw[F.cell (c om),r i o,<-t];congr 2;exact fO (λk:Nat=>(k:Int)) (d:=0) om
 have lp:bH p1.1=some (aC n):=by
  obtain⟨vO,vR,a1,a0,L,sO,oO,pO,_⟩:=b.cw;simp only[V.agg.injEq,List.cons.injEq,true_and,and_true] at L;rw[L.1];have lO:=aJ.length pO;rw[b.isc.lo] at lO;unfold bH;rw[SV.len sO (n:=n) om om];rfl
 have Y:decide ((n:Int)=0)=false:=bT (by have:=b.n0;omega)
 have d4:decide (((iC e.1 n 0:Nat):Int)≠((iC e.1 n 0:Nat):Int))=false:=bT λh=>h rfl
 have U:Fr m (H.mk m.tr (m.next+19)):=(Fr.refl m).bU om
 refine uG K y @B.ixa (VC J) lp Y J @u.ixa Q ?_
 refine (RT _ n e.1 e.2 G1 _ (b.mono (F.trans U))).mono ?_
 rintro _ Z ⟨rfl,f2⟩
 have F2:=U.trans f2
 have z:Z.cell w (j+i)=some (aC (iC e.1 n 0:Nat)):=by rw[F2.cell (by have:=c om;have:=F.next;omega)];exact Q
 simp(disch:=omega)only[go_sem,z,d4,dM]
 refine⟨siM,?_⟩
 rw[eJ i]
 exact⟨l.length-(i+1),om,i+1,aB rfl,om,F.trans F2,rfl⟩
section
variable {L rs:LN} {K:List Nat}
def aeZ (h:H)(neg:Bool)(x y:V):Option (V×H):=match x,y with
 | .str a,.str b=>some (.bool (if neg then !(a.map (· %256)==b.map (· %256)) else a.map (· %256)==b.map (· %256)),h)
 |_,_=>none
theorem UT (ρ:X->V)(h:H)(neg:Bool)(x y:X):fJ ρ h (.seq neg x y)=aeZ h neg (ρ x) (ρ y):=by
 simp only[fJ,aeZ]
 rfl
theorem PZ (h:H)(a:List Nat):aeZ h true (.str a) (.str a)=some (.bool false,h):=by
 show some (V.bool (!(_==_)),h)=_;rw[beq_self_eq_true];rfl
theorem Qc (d f:V)(l:LN)(h:H)(A:l.length<1000000)(r:SV h d 1 (l.map V.str))(s:SV h f 1 (l.map V.str)):
  Ev T 17 [d,f] h (λv h'=>v= .bool true/\Fr h h'):=by
 have j:(l.map V.str).length=l.length*1:=by rw[fL];omega
 have k:bH d=some (aC (l.length:Int)):=by unfold bH;rw[SV.len r j om];rfl
 have lb:bH f=some (aC (l.length:Int)):=by unfold bH;rw[SV.len s j om];rfl
 have x:decide ((l.length:Int)≠(l.length:Int))=false:=bT λh=>h rfl
 refine Ku k lb x ?_
 refine aH (λt a b=> ∃(i:Nat),(∃g:Nat->V,a= [d,f,g 2,aC i,g 4,g 5,g 6])/\i<=l.length/\Fr h b/\t=l.length-i) l.length
  ⟨0,aB rfl,fE _,Fr.refl h,rfl⟩ ?_
 rintro t a b ⟨i,⟨g,rfl⟩,hi,F,rfl⟩
 by_cases c:(i:Int)<(l.length:Int)
 case neg=>
  have o:=bT c;refine cU k o ?_;exact F
 have o:=cJ c
 have m:i<l.length:=om
 obtain⟨G,J,n,_,z⟩:=(r.mono F).shape l.length j om
 obtain⟨B,N,p,_,w⟩:=(s.mono F).shape l.length j om
 have u:=z i om
 have q:=w i om
 rw[Jj,dC m] at u q
 have y:Fr b (H.mk b.tr (b.next+9)):=(Fr.refl b).bU om
 refine qL k o @n.ixa u @p.ixa q @UT @PZ ?_
 rw[eJ i]
 exact⟨l.length-(i+1),om,i+1,aB rfl,om,F.trans y,rfl⟩
theorem Sd {W:Nat->Prop}(k c:V)(n:Nat)(O:LN)(R:iA)(G:List Nat->Prop)(a:LN)(h:H)(b:GC W h k n O R G)(t:SV h c 1 (a.map V.str))(p: ∀L K rs,dR G L->vB n G L K->zK n G L K rs->Ak rs=a):
  Ev T 45 [k,c] h (λv h'=>v= .bool true/\Fr h h'):=by
 obtain⟨l,i,rfl,o,x⟩:=b.shape
 obtain⟨A,m⟩:=exI h.next
 obtain⟨F,z,Q,q,U,f⟩:=dF m [aC n,l,i]
 refine pY (aU h (v:= aC n) (u:=l) (w:=i) rfl o x) m z (aE q) ?_
 refine (Kj _ n O R G F (b.mono f)).mono ?_
 rintro _ r ⟨s,L,K,rs,rfl,N,J,y,sv,d,j⟩
 have E:=(dA b.cX b.isc).1
 rw[N] at E
 have e:=p L K rs E J y
 rw[e] at sv d
 simp(disch:=omega)only[go_sem,eq_self,decide_true]
 refine (Qc s c a r om sv (t.mono (f.trans j))).mono ?_
 rintro _ P ⟨rfl,B⟩
 refine aM ?_
 exact f.trans (j.trans B)
theorem Xh {n:Nat}(h:n<=9):mN n= [48+n]:=by unfold mN;rw[bV om]
theorem afP (E:dR (bX 4 (· ∈KP)) L)(b:vB 4 (bX 4 (· ∈KP)) L K)(a:zK 4 (bX 4 (· ∈KP)) L K rs):Ak rs= [[67,50], [67,50], [67,50], [67,51]]:=by
 obtain rfl:=E.uniq BS;rw[acY a b];have e:Ak=λrs=>(Ad (jU (rs.map List.length))).map Prod.snd:=rfl
 rw[e];simp [jU,gO,uM,Ja,Lu,Ad,yS,Xh,List.replicate]
theorem adT (E:dR (bX 4 (· ∈Sf)) L)(a:vB 4 (bX 4 (· ∈Sf)) L K)(b:zK 4 (bX 4 (· ∈Sf)) L K rs):Ak rs= [[67,50], [67,50]]:=by
 obtain rfl:=E.uniq AB;unfold Ak;rw[acT b a];simp [jU,gO,uM,Ja,Lu,Ad,yS,Xh,List.replicate]
theorem adW (E:dR (bX 5 (· ∈UA)) L)(a:vB 5 (bX 5 (· ∈UA)) L K)(b:zK 5 (bX 5 (· ∈UA)) L K rs):Ak rs= [[65,53]]:=by
 obtain rfl:=E.uniq KV;unfold Ak;rw[adU b a];simp [jU,gO,uM,Ja,Lu,Ad,yS,nJ]
end
theorem adZ (h:H)(x y z w:List Nat):mC h 1 [.str []] 4 [(0,1,.str x),(1,1,.str y),(2,1,.str z),(3,1,.str w)]=some (.sl h.next 0 4 (.kn 4),h.new (.cells false [.str x,.str y,.str z,.str w])):=rfl
theorem adA (h:H)(x y:List Nat):mC h 1 [.str []] 2 [(0,1,.str x),(1,1,.str y)]=some (.sl h.next 0 2 (.kn 2),h.new (.cells false [.str x,.str y])):=rfl
theorem aeO (h:H)(x:List Nat):mC h 1 [.str []] 1 [(0,1,.str x)]=some (.sl h.next 0 1 (.kn 1),h.new (.cells false [.str x])):=rfl
theorem Bd (h:H):Ev T 11 [] h (λv h'=>v= .bool true/\Fr h h'):=by
 refine nL ?_;refine (Wy h).mono ?_;rintro _ h1 ⟨c0,c1,c2,c3,O0,R0,O1,R1,O2,R2,O3,R3,rfl,c,t,l,y,f1⟩;obtain⟨p0,q0,rfl,a0,b0⟩:=c.shape;obtain⟨p1,q1,rfl,a1,b1⟩:=t.shape;obtain⟨R,q2,rfl,a2,b2⟩:=l.shape;obtain⟨Q,W,rfl,a3,b3⟩:=y.shape;obtain⟨A,hA⟩:=exI h1.next;obtain⟨k1,e1,n1,g1,o1,F1⟩:=dF hA [aC 0,.aD,.aD];obtain⟨k2,e2,n2,g2,o2,F2⟩:=dF n1 [aC 0,.aD,.aD];obtain⟨k3,e3,n3,g3,o3,F3⟩:=dF n2 [aC 0,.aD,.aD];obtain⟨x,e4,n4,g4,P,F4⟩:=dF n3 [aC 0,.aD,.aD];have z1:x.get A=bG [aC 0,.aD,.aD]:=by rw[P _ om,o3 _ om,o2 _ om];exact g1
 have z2:x.get (A+1)=bG [aC 0,.aD,.aD]:=by rw[P _ om,o3 _ om];exact g2
 have z3:x.get (A+1+1)=bG [aC 0,.aD,.aD]:=by rw[P _ om];exact g3
 obtain⟨k5,e5,n5,g5,F⟩:=lU x A [aC (4:Nat),p0,q0];obtain⟨k6,e6,n6,g6,J⟩:=lU k5 (A+1) [aC (4:Nat),p1,q1];obtain⟨k7,e7,n7,g7,N⟩:=lU k6 (A+1+1) [aC (4:Nat),R,q2];obtain⟨d,e8,n8,g8,O⟩:=lU k7 (A+1+1+1) [aC (5:Nat),Q,W];have y2:k5.get (A+1)=bG [aC 0,.aD,.aD]:=by rw[F _ om];exact z2
 have y3:k6.get (A+1+1)=bG [aC 0,.aD,.aD]:=by rw[J _ om,F _ om];exact z3
 have y4:k7.get (A+1+1+1)=bG [aC 0,.aD,.aD]:=by rw[N _ om,J _ om,F _ om];exact g4
 have b:Fr h1 d:=⟨om,λq hq=>by rw[O q om,N q om,J q om,F q om,P q om,o3 q om,o2 q om,o1 q om]⟩
 have r1: ∀a,Fr d a->a.row A 0 3=some [aC (4:Nat),p0,q0]:=λa f=>aE (by rw[f.get A om,O _ om,N _ om,J _ om];exact g5)
 have r2: ∀a,Fr d a->a.row (A+1) 0 3=some [aC (4:Nat),p1,q1]:=λa f=>aE (by rw[f.get _ om,O _ om,N _ om];exact g6)
 have r3: ∀a,Fr d a->a.row (A+1+1) 0 3=some [aC (4:Nat),R,q2]:=λa f=>aE (by rw[f.get _ om,O _ om];exact g7)
 have r4: ∀a,Fr d a->a.row (A+1+1+1) 0 3=some [aC (5:Nat),Q,W]:=λa f=>aE (by rw[f.get _ om];exact g8)
 simp(disch:=omega)only[go_sem,hA,e1,n1,e2,n2,e3,n3,e4,bW x A 0 (v:= aC (4:Nat)) (u:=p0) (w:=q0) rfl a0 b0,z1,bQ,e5,bW k5 (A+1) 0 (v:= aC (4:Nat)) (u:=p1) (w:=q1) rfl a1 b1,y2,e6,bW k6 (A+1+1) 0 (v:= aC (4:Nat)) (u:=R) (w:=q2) rfl a2 b2,y3,e7,bW k7 (A+1+1+1) 0 (v:= aC (5:Nat)) (u:=Q) (w:=W) rfl a3 b3,y4,e8,r1 d (Fr.refl _)];refine (Yk _ 4 O0 R0 _ d (c.mono b)).mono ?_;rintro _ h2 ⟨v2,a6,l2,rfl,s2,c9,sE,f2⟩;refine bE (r3 h2 f2) ?_;refine (RZ _ 4 O2 R2 _ h2 (l.mono (b.trans f2))).mono ?_;rintro _ h3 ⟨v3,a7,l3,rfl,s3,b5,U,f3⟩;have w2:=NS c.isc sE;have w3:=PK l.isc U;have L2:l2.length<=6000:=by have:=congrArg List.length w2;rw[fL] at this;rw[this];decide
 have L3:l3.length<=6000:=by have:=congrArg List.length w3;rw[fL] at this;rw[this];decide
 obtain⟨h4,a5,d9,b8,d8,f4⟩:=dF (h:=h3) rfl (ints [24,12,4,1]);have o:=f3.trans f4;refine cU @Qu a5 ?_;have b4: ∀q,Fr d q->Fr h q:=λq f=>f1.trans (b.trans f)
 refine (Ko v2 _ 4 a6 l2 [24,12,4,1] h4 (s2.mono o) (aJ.mono (λ_ _ ⟨G,g,_⟩=>⟨G,g.mono o⟩) c9) L2 (SV.all rfl om b8 _) w2).mono ?_;rintro _ h5 ⟨rfl,f5⟩;obtain⟨h6,c6,e9,b7,f0,f6⟩:=dF (h:=h5) rfl (ints [8,2,1]);have a9:=f5.trans f6;have m:=f4.trans a9;refine cU @adJ c6 ?_;refine (Ko v3 _ 4 a7 l3 [8,2,1] h6 (s3.mono m) (aJ.mono (λ_ _ ⟨G,g,_⟩=>⟨G,g.mono m⟩) b5) L3 (SV.all rfl om b7 _) w3).mono ?_;rintro _ h7 ⟨rfl,f7⟩;have r:Fr d h7:=f2.trans (f3.trans (m.trans f7));obtain⟨h8,c5,d4,Z,d3,f8⟩:=dF (h:=h7) rfl [.str [67,50],.str [67,50],.str [67,50],.str [67,51]];have n:=r.trans f8;refine dQ (r1 h7 r) @adZ c5 ?_;refine (Sd _ _ 4 O0 R0 _ [[67,50], [67,50], [67,50], [67,51]] h8 (c.mono (b.trans n)) (SV.all (len:=4) rfl om Z _) λL K rs E p B=>afP E p B).mono ?_;rintro _ h9 ⟨rfl,f9⟩;have s:=n.trans f9;obtain⟨a8,c4,d7,b6,d5,c8⟩:=dF (h:=h9) rfl [.str [67,50],.str [67,50]];have i:=s.trans c8;refine dQ (r2 h9 s) @adA c4 ?_;refine (Sd _ _ 4 O1 R1 _ [[67,50], [67,50]] a8 (t.mono (b.trans i)) (SV.all (len:=2) rfl om b6 _) λL K rs E p B=>adT E p B).mono ?_;rintro _ z ⟨rfl,a4⟩;have j:=i.trans a4;obtain⟨b9,c7,d6,d0,e0,Y⟩:=dF (h:=z) rfl [.str [65,53]];have k:=j.trans Y;refine dQ (r4 z j) @aeO c7 ?_;refine (Sd _ _ 5 O3 R3 _ [[65,53]] b9 (y.mono (b.trans k)) (SV.all (len:=1) rfl om d0 _) λL K rs E p B=>adW E p B).mono ?_;rintro _ d2 ⟨rfl,d1⟩;refine aM ?_;exact b4 _ (k.trans d1)
section
variable {n:Nat} {G K:List Nat->Prop} {O O':List (List Nat)} {R R':List (List (List Nat))} {x y g:List Nat} {c d e:qG} {l:List qG} {w:Bool}
theorem inv_inv {s:List Nat}(S:aY n s):cK (cK s)=s:=by
 have h:=dB S.inv;have:=congrArg (aS s) h;rw[<-aG S S.inv S.inv.inv,dB S,cV S.inv.inv,bD S] at this;exact this
theorem Dm (X:aY n x)(B:aY n g):aX (cK x) g=cK (aX x g):=by
 have A:=dL X B;have a:=dL X.inv B;have h:aS (aX (cK x) g) (aX x g)=bC n:=by rw[<-iF X.inv X B,dU X,mQ B]
 have:=congrArg (λz=>aS z (cK (aX x g))) h;rwa [aG a A A.inv,dB A,bD a,cV A.inv] at this
theorem Ew (X:aY n x)(Y:aY n y)(B:aY n g):aX (dN x y) g=dN (aX x g) (aX y g):=by
 unfold dN;rw[iF (X.inv.mul Y.inv) (X.mul Y) B,iF X.inv Y.inv B,iF X Y B,Dm X B,Dm Y B]
theorem XV (t:eM n G)(f:eM n K)(c:bA n K O R)(le: ∀x,K x->G x)(o: ∀y g,K y->G g->K (aX y g))(r:tM n R R y)(j:G g):tM n R R (aX y g):=by
 have B:=t.bM j;have m:=tM.cX f f c c;refine (NC.le r (H:=λy=>aY n y/\tM n R R (aX y g)) ⟨λh=>h.1,⟨aY.one n,by rw[mQ B];exact m.one⟩,λh k=>⟨h.1.mul k.1,by rw[iF h.1 k.1 B];exact m.mul h.2 k.2⟩,λh=>⟨h.1.inv,by rw[Dm h.1 B];exact m.inv h.2⟩⟩ ?_ ?_).2
 .rintro a ⟨p,s,q,u,rfl⟩
  have P:=cH c s;have Q:=cH c u;exact⟨rT (f.bM P) (f.bM Q),by rw[Ew (f.bM P) (f.bM Q) B];exact tM.all f f c c (o _ _ P j) (o _ _ Q j)⟩
 .rintro y b ⟨Y,r⟩ i
  have i:K b:=i.elim (λh=>cH c h) λh=>cH c h
  have Bb:=f.bM i;exact⟨dL Y Bb,by rw[<-Ix Y Bb B];exact tM.norm f f c c r (o _ _ i j)⟩
structure Vh (n:Nat)(G:List Nat->Prop)(d:qG)(K:List Nat->Prop):Prop where
 cX:eM n K
 isc:bA n K d.1 d.2
 le: ∀x,K x->G x
 nm: ∀y g,K y->G g->K (aX y g)
theorem Vh.first (a:eM n G)(f:bA n G c.1 c.2):Vh n G c G:=⟨a,f,λ_ h=>h,λ_ _ i b=>a.mul (a.mul (a.inv b) i) b⟩
theorem Vh.nx (a:eM n G)(j:bA n G c.1 c.2)(m:Vh n G d K)(b:bA n (Hk n w c d) e.1 e.2):Vh n G e (Hk n w c d)/\ ∀x,Hk n w c d x->K x:=by
 unfold Hk at b |-
 cases w with
 |false=>
  have le: ∀x,tM n d.2 d.2 x->K x:=λx h=>tM.self m.cX m.isc h
  exact⟨⟨tM.cX m.cX m.cX m.isc m.isc,b,λx h=>m.le x (le x h),λy g f i=>XV a m.cX m.isc m.le m.nm f i⟩,le⟩
 |true=>
  have le: ∀x,tM n d.2 c.2 x->K x:=λx h=>tM.le m.cX a m.isc j m.nm h
  exact⟨⟨tM.cX m.cX a m.isc j,b,λx h=>m.le x (le x h),λy g f i=>tM.norm m.cX a m.isc j f i⟩,le⟩
theorem Vh.uniq {f:List Nat->Prop}(a:Vh n G d K)(b:Vh n G d f):K=f:=
 funext λx=>propext ((mT a.cX a.isc x).symm.trans (mT b.cX b.isc x))
end
end Go.Proofs.YtcdbmkidaecdiaaGreat
