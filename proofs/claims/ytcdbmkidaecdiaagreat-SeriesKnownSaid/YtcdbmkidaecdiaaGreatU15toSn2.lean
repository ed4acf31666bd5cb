/- Texts of the claim. -/
import Derived.Test.YtcdbmkidaecdiaaGreatP6ktoU14
import Derived.Test.YtcdbmkidaecdiaaGreatP5qtoP6j
import Derived.Test.YtcdbmkidaecdiaaGreatAy39
import Derived.Test.YtcdbmkidaecdiaaGreatC16code
import Derived.Sort.AssemblyPlain
set_option maxHeartbeats 64000000
namespace Go.Proofs.YtcdbmkidaecdiaaGreat
open Go Go.Ay Go.Pm
set_option maxRecDepth 100000
def NxF (n:Nat)(w:Bool)(c:nE)(h:H)(F:Nat)(caps:List V):Prop:=
 ∀(hh:H) (vd:V) (W:Nat->Prop) (d:nE) (Gd:List Nat->Prop),Fr h hh->GC W hh vd n d.1 d.2 Gd->
  Ev T F (vd::caps) hh (λv h'=> ∃(p:V×V) (e:nE),v= .agg [aC n,p.1,p.2]/\GC (λq=>q<hh.next) h' v n e.1 e.2 (Kf n w c d)/\Fr hh h')
theorem QU (n:Nat)(c:nE)(h:H):NxF n false c h 77 []:=by
 intro A vd W d x _ l;obtain⟨o,r,rfl,Q,oR⟩:=l.shape;refine cV tK rfl ?_;obtain⟨B,z⟩:=exI A.next;obtain⟨h1,e1,J,N,Z,f1⟩:=dF z [aC n,o,r];obtain⟨i,e2,n2,g2,F,R⟩:=dF J [aC 0,.aE,.aE];have s:i.get B=aZ [aC n,o,r]:=by rw[F B om];exact N
 simp(disch:=omega)only[go_sem,tK,aD,bM A (v:= aC n) (u:=o) (w:=r) rfl Q oR,z,e1,J,e2,aI s];have F2:=f1.trans R;refine (Zv _ _ n d.1 d.1 d.2 d.2 x x i (l.mono F2) (l.mono F2)).mono ?_;rintro _ O ⟨vr,O2,R2,rfl,L,k⟩;obtain⟨b,e,rfl,a,g⟩:=L.shape;have n3:=k.next;obtain⟨S,G⟩:=exI O.next;obtain⟨y,Y,n4,U,t,f4⟩:=dF G [aC 0,.aE,.aE];obtain⟨m,P,n5,g5,p⟩:=pJ y S [aC n,b,e];have j:m.get (B+1)=aZ [aC 0,.aE,.aE]:=by rw[p _ om,t _ om,k.get _ om];exact g2
 obtain⟨h6,e6,n6,g6,K⟩:=pJ m (B+1) [aC n,b,e];simp(disch:=omega)only[go_sem,G,Y,bW y S 0 (v:= aC n) (u:=b) (w:=e) rfl a g,U,cF,P,aI g5,bW m (B+1) 0 (v:= aC n) (u:=b) (w:=e) rfl a g,j,e6,aI g6];refine⟨(b,e),(O2,R2),rfl,?_,⟨om,λq hq=>by rw[K q om,p q om,t q om,k.get q om,F q om,Z q om]⟩⟩;refine L.go ⟨om,λq a0 f=>?_⟩ λq _ (h:q<B)=>by show q<i.next;omega
 have f: ¬q<i.next:=f;rw[K q om,p q om,t q om]
theorem UL {W0:Nat->Prop}(n:Nat)(c:nE)(h:H)(g:Nat)(a b:V)(L:List Nat->Prop)(x:h.get g=aZ [aC n,a,b])(y:g<h.next)(g0:GC W0 h (.agg [aC n,a,b]) n c.1 c.2 L):NxF n true c h 81 [.ptr g 0]:=by
 intro O vd W d Gd G R;obtain⟨A,F,rfl,oO,oR⟩:=R.shape;refine cV vY rfl ?_;obtain⟨B,J⟩:=exI O.next;have nh:=G.next;obtain⟨h1,e1,Q,Z,o1,f1⟩:=dF J [aC n,A,F];obtain⟨i,e2,n2,g2,K,f2⟩:=dF Q [aC 0,.aE,.aE];have s:i.get B=aZ [aC n,A,F]:=by rw[K B om];exact Z
 have F2:=f1.trans f2;have p:i.get g=aZ [aC n,a,b]:=by rw[(G.trans F2).get g y];exact x
 simp(disch:=omega)only[go_sem,vY,aD,bM O (v:= aC n) (u:=A) (w:=F) rfl oO oR,J,e1,Q,e2,aI s,aI p];refine (Zv _ _ n d.1 c.1 d.2 c.2 Gd L i (R.mono F2) (g0.mono (G.trans F2))).mono ?_;rintro _ h3 ⟨vr,O2,R2,rfl,Y,z⟩;obtain⟨j,k,rfl,e,l⟩:=Y.shape;have n3:=z.next;obtain⟨S,P⟩:=exI h3.next;obtain⟨N,e4,n4,g4,t,f4⟩:=dF P [aC 0,.aE,.aE];obtain⟨o,e5,n5,g5,r⟩:=pJ N S [aC n,j,k];have m:o.get (B+1)=aZ [aC 0,.aE,.aE]:=by rw[r _ om,t _ om,z.get _ om];exact g2
 obtain⟨h6,e6,n6,g6,U⟩:=pJ o (B+1) [aC n,j,k];simp(disch:=omega)only[go_sem,P,e4,bW N S 0 (v:= aC n) (u:=j) (w:=k) rfl e l,g4,cF,e5,aI g5,bW o (B+1) 0 (v:= aC n) (u:=j) (w:=k) rfl e l,m,e6,aI g6];refine⟨(j,k),(O2,R2),rfl,?_,⟨om,λq hq=>by rw[U q om,r q om,t q om,z.get q om,K q om,o1 q om]⟩⟩;refine Y.go ⟨om,λq a0 f=>?_⟩ λq _ (h:q<B)=>by show q<i.next;omega
 have f: ¬q<i.next:=f;rw[U q om,r q om,t q om]
def Kr (n:Nat)(ls:List (V×V)):List V:=ls.flatMap λp=> [aC n,p.1,p.2]
theorem Tt (n:Nat)(a b:List (V×V)):Kr n (a++b)=Kr n a++Kr n b:=by unfold Kr;rw[List.flatMap_append]
theorem lC (n:Nat)(ls:List (V×V)):(Kr n ls).length=ls.length*3:=by
 induction ls with
 |nil=>rfl
 |cons a r ih=>
  unfold Kr at ih ⊢;rw[List.flatMap_cons,jZ,ih,List.length_cons,List.length_cons,List.length_cons,List.length_cons,List.length_nil];omega
theorem QY {n:Nat}: ∀{ls:List (V×V)} {i:Nat} (hi:i<ls.length),(Kr n ls)[i*3]? =some (aC n)/\(Kr n ls)[i*3+1]? =some ls[i].1/\(Kr n ls)[i*3+2]? =some ls[i].2
 |p::r,0,_=>⟨rfl,rfl,rfl⟩
 |p::r,i+1,hi=>by
  have:=QY (n:=n) (ls:=r) (i:=i) (by simpa using hi);have e:Kr n (p::r)= [aC n,p.1,p.2]++Kr n r:=rfl;rw[e];refine⟨?_,?_,?_⟩
  ·rw[Kk (by show 3<=(i+1)*3;omega)]
   rw[show (i+1)*3- [aC n,p.1,p.2].length=i*3 from by show (i+1)*3- 3=i*3;omega];exact this.1
  ·rw[Kk (by show 3<=(i+1)*3+1;omega)]
   rw[show (i+1)*3+1- [aC n,p.1,p.2].length=i*3+1 from by show (i+1)*3+1- 3=i*3+1;omega];exact this.2.1
  ·rw[Kk (by show 3<=(i+1)*3+2;omega)]
   rw[show (i+1)*3+2- [aC n,p.1,p.2].length=i*3+2 from by show (i+1)*3+2- 3=i*3+2;omega];exact this.2.2
def WO (C1 P id:Nat)(vl:V)(q:Nat):Prop:=q=C1∨q=P∨q=id∨dO vl q
def GD (W:Nat->Prop)(h:H)(n:Nat)(w:Bool)(Gc:List Nat->Prop)(p:V×V)(e:nE):Prop:= ∃G,GC W h (.agg [aC n,p.1,p.2]) n e.1 e.2 G/\Dx n w Gc e G
theorem GD.go {W W':Nat->Prop}{h h':H}{n:Nat}{w:Bool}{a:List Nat->Prop}{p:V×V}{e:nE}(g:GD W h n w a p e)(f:Fx W h h')(c: ∀q,q<h.next->W' q->W q):GD W' h' n w a p e:=by
 obtain⟨G,b,x⟩:=g;exact⟨G,b.go f c,x⟩
structure DeH (h0 hh:H)(C1 C2 K P id:Nat)(r:eH)(f:V)(n:Nat)(w:Bool)(Gc:List Nat->Prop)(l:List nE)(d:nE):Prop where
 ex: ∃vl ls p,hh.get P=aZ [vl]/\cY hh vl 3 (Kr n ls) 0/\(∀q,dO vl q->h0.next<=q/\q≠C1/\q≠C2/\q≠K/\q≠P/\q≠id/\q<hh.next)/\aM (GD (WO C1 P id vl) hh n w Gc) ls l/\hh.get C1=aZ [aC n,p.1,p.2]/\GD (WO C1 P id vl) hh n w Gc p d
 k:hh.get K=aZ [.fn 65 [] []]
 c2:hh.get C2=aZ [f]
 gr:hh.get id=some (.loop r)
 fr:Fr h0 hh
 nx:id<hh.next
def muS (n:Nat)(l:List nE):Nat:=match l[l.length- 1]? with|none=>6000|some e=>kI e.1 n 0
theorem YQ (n:Nat)(l:List nE)(d:nE):muS n (l++ [d])=kI d.1 n 0:=by
 unfold muS
 have:(l++ [d])[(l++ [d]).length- 1]? =some d:=by
  rw[jZ,show l.length+ [d].length- 1=l.length from rfl,Kk om,Nat.sub_self];rfl
 rw[this]
theorem DeH.at {m a:H}{k g K P id:Nat}{r:eH}{f:V}{n:Nat}{w:Bool}{b:List Nat->Prop}{l:List nE}{d:nE}(j:DeH m a k g K P id r f n w b l d){i:Nat}{e:nE}(h:l[i]? =some e): ∃W p,GD W a n w b p e:=by
 obtain⟨o,q,p,_,_,_,c,_⟩:=j.ex;obtain⟨hi,rfl⟩:=Ax.1 h;have:=aM.length c;exact⟨_,_,aM.get c i om hi⟩
theorem UR (W:H)(f y K P id:Nat)(r:eH)(F:Nat)(m:List V)(n:Nat)(w:Bool)(c:nE)(R:List Nat->Prop)(hG:iX n R)(hc:bC n R c.1 c.2)(nx:NxF n w c W F m)(N:W.next<=f)(ho:f<id/\y<id/\K<id/\P<id)(B:f≠y/\f≠K/\f≠P)(h:H)(j0:DeH W h f y K P id r (.fn F [] m) n w R [] c)(Q:H->Prop)
  (hy: ∀l d hh (p:V×V),DeH W hh f y K P id r (.fn F [] m) n w R l d->hh.get f=aZ [aC n,p.1,p.2]->Na n w c l d->Ey T id [.agg [aC n,p.1,p.2]] hh (λv h'=>v= .bool true/\DeH W h' f y K P id r (.fn F [] m) n w R (l++ [d]) d/\(∀e,l[l.length- 1]? =some e->d≠e)∨v= .bool false/\Q h')):
  Ev T 120 [.yl id,.ptr f 0,.ptr y 0] h (λ_ h'=>Q h'):=by
 refine cV tJ rfl ?_
 simp(disch:=omega)only[go_sem,tJ,aD]
 refine aH (λk' z hh=> ∃(l:List nE) (d:nE),(∃g:Nat->V,z= [.yl id,.ptr f 0,.ptr y 0,g 3])/\DeH W hh f y K P id r (.fn F [] m) n w R l d/\Na n w c l d/\k'=muS n l) 6000
  ⟨[],c,aB rfl,j0,Na.start,rfl⟩ ?_
 rintro k' z hh ⟨l,d,⟨g,rfl⟩,j,s,rfl⟩
 obtain⟨vl,ls,p,gP,ow,bl,al,a0,gd⟩:=j.ex
 simp(disch:=omega)only[go_sem,aI a0]
 refine (hy l d hh p j a0 s).mono ?_
 rintro _ o (⟨rfl,t,A⟩|⟨rfl,q2⟩)
 case inr=>
  simp(disch:=omega)only[go_sem];exact q2
 obtain⟨O,b0,p2,a5,a8,L,a2,Z,a3⟩:=t.ex
 obtain⟨Gd,J,dx⟩:=a3
 obtain⟨_,b3,b6⟩:=J.one
 simp(disch:=omega)only[go_sem,H.aF t.c2,aI Z]
 refine (nx o _ _ d Gd t.fr J).mono ?_
 rintro _ h3 ⟨Y,e,rfl,G,f3⟩
 obtain⟨_,a7,b1⟩:=G.one
 have n3:=f3.next
 have b5:=t.nx
 have a1:h3.get f=aZ [aC n,p2.1,p2.2]:=by rw[f3.get f om];exact Z
 obtain⟨h4,e4,n4,g4,o4⟩:=pJ h3 f [aC n,Y.1,Y.2]
 simp(disch:=omega)only[go_sem,bW h3 f 0 (v:= aC n) (u:=Y.1) (w:=Y.2) rfl a7 b1,a1,cF,e4]
 have hE:=G.isc
 have b4:=jH J
 have a6:muS n (l++ [d])<muS n l:=by
  rw[YQ];unfold muS
  cases hl:l[l.length- 1]? with
  |none=>show kI d.1 n 0<6000;omega
  |some a=>
   obtain⟨_,_,Ga,b2,a9⟩:=j.at hl;have:=a9.size hG hc (s.la a hl);have ne:kI d.1 n 0≠kI a.1 n 0:=λh=>A a hl (this.2 h)
   show kI d.1 n 0<kI a.1 n 0;omega
 have fx:Fx (WO f P id O) o h4:=⟨om,λq N o=>by rw[o4 q λe=>o (.inl e),f3.get q N]⟩
 have U: ∀q,q<o.next->q≠f->h4.get q=o.get q:=λq N o=>by rw[o4 q o,f3.get q N]
 refine⟨_,a6,l++ [d],e,aB rfl,⟨⟨O,b0,Y,by rw[U P om (Ne.symm B.2.2)];exact a5,a8.mono om λq _ _ _ ee _ N=>U q N (L q ⟨_,_,_,ee⟩).2.1,λq hq=>by obtain⟨a,b,c,d,e,g,i⟩:=L q hq;exact⟨a,b,c,d,e,g,om⟩,aM.mono (λ_ _ x=>x.go fx λ_ _ h=>h) a2,g4,Kf n w c d,?_,dx.next hG hc hE⟩,by rw[U K om (Ne.symm B.2.1)];exact t.k,by rw[U y om (Ne.symm B.1)];exact t.c2,by rw[U id om om];exact t.gr,⟨by have:=t.fr.next;omega,λq hq=>by rw[U q (by have:=t.fr.next;omega) om];exact t.fr.get q hq⟩,om⟩,s.push A hE,rfl⟩
 have a4: ∀q,WO f P id O q->q<o.next:=λq h=>by
  rcases h with h|h|h|h
  ·omega
  ·omega
  ·omega
  ·exact (L q h).2.2.2.2.2.2
 exact G.go ⟨om,λq N o=>o4 q λe=>o (by show q<_;omega)⟩ λq _ h=>a4 q h
theorem Ra {h:H}{id o:Nat}{a b c:V}(g:h.cell id o=some a)(f:h.cell id (o+1)=some b)(d:h.cell id (o+2)=some c):h.row id o 3=some [a,b,c]:=by
 unfold H.cell at g f d;unfold H.row;split at g
 ·rename_i p i e
  rw[e] at f d;have f:i[o+1]? =some b:=f;have d:i[o+2]? =some c:=d;obtain⟨n,j⟩:=Ax.1 g;obtain⟨lb,k⟩:=Ax.1 f;obtain⟨l,m⟩:=Ax.1 d;rw[e];simp only[sub];rw[bF om,AR n,AR lb,AR l,j,k,m]
  rfl
 ·cases g
theorem Lw {h:H}{v:V}{n:Nat}{ls:List (V×V)}(s:SV h v 3 (Kr n ls)){i:Nat}(hi:i<ls.length): ∃id off,Sl v 3 ls.length id off/\h.row id (off+i*3) 3=some [aC n,ls[i].1,ls[i].2]:=by
 obtain⟨id,off,b,d,a⟩:=s.shape ls.length (lC n ls) om;obtain⟨e,f,c⟩:=QY (n:=n) hi;have g:=lC n ls;refine⟨id,off,b,Ra ((a (i*3) om).trans e) ?_ ?_⟩
 ·have:=(a (i*3+1) om).trans f
  rwa [←Nat.add_assoc] at this
 ·have:=(a (i*3+2) om).trans c
  rwa [←Nat.add_assoc] at this
theorem Vj (h:H){x y:V}{d:Int}(a:x.one=true)(b:y.one=true):lQ h 3 [aC 0,.aE,.aE] 1 [(0,3,.agg [aC d,x,y])]=some (.sl h.next 0 1 (.kn 1),h.new (.cells false [aC d,x,y])):=by
 have e:cX [aC 0,.aE,.aE] (1*3)= [aC 0,.aE,.aE]:=rfl;simp [lQ,iS,e,putAt,V.cells,a,b,show (aC d).one=true from rfl]
theorem DeH.short {t v:H}{y u K P id:Nat}{r:eH}{f:V}{n:Nat}{w:Bool}{c:nE}{i:List Nat->Prop}{l:List nE}{d:nE}(j:DeH t v y u K P id r f n w i l d)(A:iX n i)(x:bC n i c.1 c.2)(s:Na n w c l d):l.length<=6000:=by
 have g: ∀k e,l[k]? =some e->k+kI e.1 n 0<=5999:=by
  intro k
  induction k with
  |zero=>
   intro e a;obtain⟨_,_,_,q,_⟩:=j.at a;have:=jH q;omega
  |succ k ih=>
   intro e a;have B:k<l.length:=by have:=(Ax.1 a).1;omega
   have b:l[k]? =some l[k]:=dD B;obtain⟨_,_,G,_,m⟩:=j.at b;obtain⟨z,p⟩:=s.st k _ _ b a;have o:=m.size A x z;have F:=ih _ b;have:kI e.1 n 0≠kI l[k].1 n 0:=λh=>p (o.2 h)
   omega
 by_cases h:l.length=0
 ·omega
 ·have:=g (l.length- 1) _ (dD om)
  omega
theorem Rd {W0:Nat->Prop}(Y h:H)(y U:Nat)(F:Nat)(z:List V)(n:Nat)(w:Bool)(c:nE)(Gc:List Nat->Prop)(vO vR:V)(f0:Fr Y h)(a:Y.next<=y)(h2:Y.next<=U)(d0:y≠U)(l1:y<h.next)(l2:U<h.next)(b9:h.get y=aZ [aC n,vO,vR])(c5:h.get U=aZ [.fn F [] z])(g0:GC W0 Y (.agg [aC n,vO,vR]) n c.1 c.2 Gc)(nx:NxF n w c Y F z):
  Ev T 75 [.fn 120 [] [.ptr y 0,.ptr U 0],.fn 65 [] []] h (λv h'=> ∃ls l,SV h' v 3 (Kr n ls)/\aM (GD (λ_=>False) h' n w Gc) ls l/\uC n w c l/\Fr Y h'):=by
 refine cV jA rfl ?_
 obtain⟨K,hK⟩:=exI h.next
 obtain⟨h3,e3,n3,g3,o3,f3⟩:=dF hK [.fn 65 [] []]
 obtain⟨W,e4,n4,g4,o4,f4⟩:=dF n3 [.aE]
 simp(disch:=omega)only[go_sem,jA,aD,mF (x:= .fn 65 [] []) rfl rfl h,hK,e3,n3,e4]
 obtain⟨P,hP⟩:=exI (K+1)
 rw[hP] at n3 n4 g4 o4 ⊢
 obtain⟨id,a3⟩:=exI W.next
 refine⟨rfl,uJ λr hr=>?_⟩
 rw[a3]
 have iP:r.st= .ready:=by rw[hr]
 have c1:r.pend=none:=by rw[hr]
 have oA: ∀k,k<id->(W.new (.loop r)).get k=W.get k:=λk hk=>H.bG W om _
 have nA:(W.new (.loop r)).next=id+1:=by rw[H.aU,a3]
 have fA:Fr h (W.new (.loop r)):=(f3.trans f4).new _
 have n0:=f0.next
 have J0:DeH Y (W.new (.loop r)) y U K P id r (.fn F [] z) n w Gc [] c:=by
  refine⟨⟨.aE, [],(vO,vR),by rw[oA _ om];exact g4,cY.aE _ _ _,λq ⟨_,_,_,e⟩=>(by cases e),trivial,by rw[fA.get _ l1];exact b9,Gc,(g0.lH λq a h2=>?_).mono (f0.trans fA),Dx.first g0.dN g0.isc⟩,by rw[oA _ om,o4 _ om];exact g3,by rw[fA.get _ l2];exact c5,by rw[←a3,H.aL],f0.trans fA,om⟩;rcases h2 with h|h|h|⟨_,_,_,e⟩
  ·omega
  ·omega
  ·omega
  ·cases e
 refine (UR Y y U K P id r F z n w c Gc g0.dN g0.isc nx a om om _ J0 (λh'=> ∃f ls l,h'.get P=aZ [f]/\(cY h' f 3 (Kr n ls) 0/\ ∀q,dO f q->q≠id)/\aM (GD (WO y P id f) h' n w Gc) ls l/\uC n w c l/\Fr Y h'/\h'.get id=some (.loop (tX r (.exit 0)))/\id<h'.next) ?_).mono ?_
 ·intro l d J p j gp s
  obtain⟨f,ls,t,gP,ow,R,al,a0,a4⟩:=j.ex
  have c4:t=p:=by
   have:=a0.symm.trans gp;simp only[Option.some.injEq,Ob.cells.injEq,List.cons.injEq,true_and,and_true] at this;exact Prod.ext this.1 this.2
  subst c4
  have b6:=a4
  obtain⟨Gd,gc,dx⟩:=b6
  obtain⟨_,a8,b2⟩:=gc.one
  have jn:=j.nx
  have jf:=j.fr.next
  have la:=aM.length al
  have l6:=j.short g0.dN g0.isc s
  obtain⟨X,hX⟩:=exI J.next
  obtain⟨hA,eA,nA,gA,oA,fA⟩:=dF hX [aC 0,.aE,.aE]
  obtain⟨hB,eB,nB,gB,oB⟩:=pJ hA X [aC n,t.1,t.2]
  refine acY j.gr (by rw[hr];rfl) ?_
  rw[congrArg eH.assign hr,congrArg eH.vars hr,congrArg eH.pars hr]
  simp(disch:=omega)only[go_sem,List.zip_cons_cons,List.zip_nil_left,hX,eA,bW hA X 0 (v:= aC n) (u:=t.1) (w:=t.2) rfl a8 b2,gA,cF,eB]
  refine⟨r,by rw[oB _ om,oA _ om];exact j.gr,iP,?_⟩
  obtain⟨A,eC⟩: ∃x,hB.set id (some (.loop (pW r)))=x:=⟨_,rfl⟩
  have c6:hB.set id (some (.loop {r with st:= .busy}))=A:=eC
  rw[c6,congrArg eH.body hr]
  have nC:A.next=X+1:=by rw[←eC];show hB.next=_;omega
  have a7:A.get id=some (.loop (pW r)):=by rw[←eC,H.aS]
  have oC: ∀q,q≠id->q≠X->A.get q=J.get q:=λq a h2=>by rw[←eC,H.aG _ a,oB q h2,oA q h2]
  have a2:A.get X=aZ [aC n,t.1,t.2]:=by rw[←eC,H.aG _ om];exact gB
  have fx:Fx (WO y P id f) J A:=⟨om,λq a h2=>oC q (λe=>h2 (.inr (.inr (.inl e)))) om⟩
  rw[AD]
  refine xW (λa1 hf=>(∃g:Nat->V,a1= [g 0,g 1,g 2,g 3,.ptr P 0,.ptr X 0,g 6,g 7,g 8])/\Fr A hf/\ ∀e,l[l.length- 1]? =some e->d≠e) ?_ ?_
  ·have sv:=(ow.mono (h':=A) om λq o m Q e _ a=>oC q (R q ⟨o,m,Q,e⟩).2.2.2.2.2.1 om).sv
   have lv:bT f=some (aC (ls.length:Int)):=by unfold bT;rw[SV.len sv (n:=ls.length) (lC n ls) om];rfl
   have a9:A.get P=aZ [f]:=by rw[oC P om om];exact gP
   have fb:Fr A (H.mk A.tr (A.next+17)):=(Fr.refl A).bA om
   have b1:A.get K=aZ [.fn 65 [] []]:=by rw[oC K om om];exact j.k
   by_cases hl:ls.length=0
   ·have d1:decide ((ls.length:Int)>0)=false:=bH om
    have l0:l= []:=WJ om
    simp(disch:=omega)only[go_sem,H.aF a9,lv,d1]
    exact .inl ⟨aB rfl,fb,λe he=>by rw[l0] at he;cases he⟩
   ·have d1:decide ((ls.length:Int)>0)=true:=bP om
    have hi:ls.length- 1<ls.length:=om
    obtain⟨ri,ro,b5,rC⟩:=Lw sv hi
    have gl:=aM.get al (ls.length- 1) hi om
    obtain⟨Gl,a5,a6⟩:=gl
    have em:((ls.length:Nat):Int)- 1=((ls.length- 1:Nat):Int):=om
    have G:l[ls.length- 1]? =some (l[ls.length- 1]'om):=dD om
    generalize (ls[ls.length- 1]'hi)=pl at a5 rC
    generalize (l[ls.length- 1]'om)=e0 at a5 a6 G
    rw[la] at G
    have c0:=a6.size g0.dN g0.isc (s.la e0 G)
    simp(disch:=omega)only[go_sem,H.aF a9,lv,d1,H.aF b1,em,b5.ixa,rC,aI a2]
    refine (vW _ n e0.1 e0.2 Gl _ ((a5.go fx λ_ _ h=>h).mono fb)).mono ?_
    rintro _ h5 ⟨rfl,f5⟩
    have F5:=fb.trans f5
    have ec:dE t.1 t.1=true/\dE t.2 t.2=true:=by
     obtain⟨_,_,_,_,e,sO,_,_,sR,_,_⟩:=gc.cw;simp only[V.agg.injEq,List.cons.injEq,true_and,and_true] at e;rw[e.1,e.2];exact⟨SV.dE sO,SV.dE sR⟩
    simp(disch:=omega)only[go_sem,aI (show h5.get X=_ from (F5.get X om).trans a2),H.aF (show h5.get K=_ from (F5.get K om).trans b1),ec.1,ec.2,show dE (.fn 65 [] []) (.fn 65 [] [])=true from rfl]
    refine (vW _ n d.1 d.2 Gd _ ((gc.go fx λ_ _ h=>h).mono F5)).mono ?_
    rintro _ h6 ⟨rfl,f6⟩
    have F6:=F5.trans f6
    by_cases hs:kI e0.1 n 0=kI d.1 n 0
    ·have d2:decide (((kI e0.1 n 0:Nat):Int)=((kI d.1 n 0:Nat):Int))=true:=bP (by rw[hs])
     simp(disch:=omega)only[go_sem,d2]
     obtain⟨hz,B⟩: ∃x,h6.set id (some (.loop (tX r (.exit 0))))=x:=⟨_,rfl⟩
     have nz:hz.next=h6.next:=by rw[←B];rfl
     have n6:=F6.next
     have oz: ∀q,q≠id->q<X->hz.get q=J.get q:=λq a h2=>by rw[←B,H.aG _ a,F6.get q om,oC q a om]
     have fz:Fx (WO y P id f) J hz:=⟨om,λq a h2=>oz q (λe=>h2 (.inr (.inr (.inl e)))) om⟩
     refine .inr ⟨λe=>(by cases e),DS (by rw[F6.get id om];exact a7) ?_⟩
     rw[B]
     exact .inr ⟨rfl,f,ls,l,by rw[oz P om om];exact gP,⟨ow.mono om λq o m Q e _ a=>oz q (R q ⟨o,m,Q,e⟩).2.2.2.2.2.1 om,λq h=>(R q h).2.2.2.2.2.1⟩,aM.mono (λ_ _ x=>x.go fz λ_ _ h=>h) al,s.done (λe=>hl (by rw[la,e];rfl)) (by rw[G,c0.2 hs.symm]),⟨om,λq L=>by rw[oz q om om];exact j.fr.get q L⟩,by rw[←B,H.aS],om⟩
    ·have d2:decide (((kI e0.1 n 0:Nat):Int)=((kI d.1 n 0:Nat):Int))=false:=bH om
     simp(disch:=omega)only[go_sem,d2]
     exact .inl ⟨aB rfl,F6,λe he c9=>by rw[G] at he;cases he;exact hs (by rw[c9])⟩
  ·rintro a1 hf ⟨⟨g,rfl⟩,ff,b3⟩
   have nf:=ff.next
   have of: ∀q,q≠id->q<X->hf.get q=J.get q:=λq a h2=>by rw[ff.get q om,oC q a om]
   obtain⟨S,hS⟩:=exI hf.next
   obtain⟨a,e1,n1,g1,o1,f1⟩:=dF hS [aC n,t.1,t.2]
   have c8:cY a f 3 (Kr n ls) 0:=ow.mono om λq o m Q e _ L=>by rw[o1 q om,of q (R q ⟨o,m,Q,e⟩).2.2.2.2.2.1 om]
   have b7:SV a (.sl S 0 1 (.kn 1)) 3 [aC n,t.1,t.2]:=SV.all rfl om g1 _
   obtain⟨h2,e2,pu⟩:=c8.push (bytes:=56) b7 (n:=ls.length) (m:=1) (lC n ls) rfl om om om
   have n2:=pu.next
   obtain⟨v2,N⟩: ∃x,V.sl a.next 0 (ls.length+1) (.un 3)=x:=⟨_,rfl⟩
   have c7: ∀q,¬dO f q->dL f q:=λq h i o m Q e L=>h ⟨o,m,Q,by rw[L];exact e⟩
   have o2: ∀q,q≠a.next-> ¬dO f q->h2.get q=a.get q:=λq a h2=>pu.old q a (c7 q h2)
   have b8:h2.get P=aZ [f]:=by rw[o2 P om (λh=>(R P h).2.2.2.2.1 rfl),o1 P om,of P om om];exact gP
   obtain⟨h3,e3,n3,g3,o3⟩:=pJ h2 P [v2]
   have b4:Wj h2 1 (.ptr P 0) v2=some h3:=by rw[←N,OV,b8,bN (by show 0<1;omega),N];exact congrArg some e3
   rw[N] at e2
   simp(disch:=omega)only[go_sem,H.aF (show hf.get P=_ from (of P om om).trans gP),aI (show hf.get X=_ from (ff.get X om).trans a2),Vj hf a8 b2,hS,e1,e2,b4]
   obtain⟨hz,B⟩: ∃x,h3.set id (some (.loop r))=x:=⟨_,rfl⟩
   have nz:hz.next=a.next+1:=by rw[←B];show h3.next=_;omega
   have O: ∀q,q<X->(¬dO f q->q≠id->q≠P->hz.get q=J.get q):=λq a h2 h3 W=>by
    rw[←B,H.aG _ h3,o3 q W,o2 q om h2,o1 q om,of q h3 a]
   have Z: ¬dO f y/\ ¬dO f U/\ ¬dO f K/\ ¬dO f id:=⟨λh=>(R y h).2.1 rfl,λh=>(R U h).2.2.1 rfl,λh=>(R K h).2.2.2.1 rfl,λh=>(R id h).2.2.2.2.2.1 rfl⟩
   have fz:Fx (WO y P id f) J hz:=⟨om,λq a h2=>O q om (λh=>h2 (.inr (.inr (.inr h)))) (λe=>h2 (.inr (.inr (.inl e)))) (λe=>h2 (.inr (.inl e)))⟩
   have b0: ∀q,dO v2 q->q=a.next:=λq ⟨_,_,_,e⟩=>by rw[←N] at e;cases e;rfl
   have hw: ∀q,q<J.next->WO y P id v2 q->WO y P id f q:=λq a h2=>by
    rcases h2 with h|h|h|h
    ·exact .inl h
    ·exact .inr (.inl h)
    ·exact .inr (.inr (.inl h))
    ·have:=b0 q h;omega
   refine oX iP c1 (by rw[o3 id om,o2 id om Z.2.2.2,o1 id om,ff.get id om];exact a7) ?_
   rw[B]
   refine .inl ⟨rfl,⟨⟨v2,ls++ [t],t,?_,?_,?_,?_,?_,?_⟩,?_,?_,?_,?_,?_⟩,b3⟩
   ·rw[←B,H.aG _ om];exact g3
   ·rw[Tt,←N]
    refine (pu.own (b:=0) (lC n ls) rfl om).mono om λq o m Q e _ L=>?_
    cases e
    rw[←B,H.aG _ om,o3 _ om]
   ·intro q L
    have:=b0 q L
    omega
   ·exact aM.append (aM.mono (λ_ _ x=>x.go fz hw) al) ⟨a4.go fz hw,trivial⟩
   ·rw[O y om Z.1 om om];exact a0
   ·exact a4.go fz hw
   ·rw[O K om Z.2.2.1 om om];exact j.k
   ·rw[O U om Z.2.1 om om];exact j.c2
   ·rw[←B,H.aS]
   ·refine⟨om,λq L=>?_⟩
    rw[O q om (λh=>?_) om om]
    ·exact j.fr.get q L
    ·have:=(R q h).1;omega
   ·omega
 ·rintro _ J ⟨f,ls,l,gP,⟨ow,bi⟩,al,s,F,gr,nx⟩
  refine⟨_,gr,by simp [tX],?_⟩
  have en:(tX r (.exit 0)).pend.getD .norm= .exit 0:=rfl
  rw[en]
  have c3:(J.set id (some (.loop {tX r (.exit 0) with st:= .out}))).get P=aZ [f]:=by rw[H.aG _ om];exact gP
  simp(disch:=omega)only[go_sem,H.aF c3]
  have n0:=F.next
  refine⟨ls,l,?_,?_,s,⟨?_,λq L=>?_⟩⟩
  ·refine cY.sv (b:=0) ?_
   exact ow.mono (fM _) λq o m Q e _ a=>H.aG _ (bi q ⟨o,m,Q,e⟩) _
  ·exact aM.mono (λ_ _ x=>x.go ⟨fM _,λq a h2=>H.aG _ (λe=>h2 (.inr (.inr (.inl e)))) _⟩ λ_ _ h=>h.elim) al
  ·exact n0
  ·rw[H.aG _ (by have:=f0.next;omega)]
   exact F.get q L
section
variable {W:Nat->Prop} {n:Nat} {w:Bool}
theorem Pc (h:H){a b c:V}(f:V)(l:a.one=true)(y:b.one=true)(q:c.one=true)(t:f.one=true)(d:f.cells= [f]):
  Ev T 76 [.agg [a,b,c],f] h (λv h'=>v= .fn 120 [] [.ptr h.next 0,.ptr (h.next+1) 0]/\h'.get h.next=aZ [a,b,c]/\h'.get (h.next+1)=aZ [f]/\h'.next=h.next+2/\Fr h h'):=by
 refine cV wM rfl ?_
 obtain⟨B,g⟩:=exI h.next
 obtain⟨r,z,e,i,F,k⟩:=dF g [a,b,c]
 obtain⟨A,s,o,j,p,m⟩:=dF e [f]
 simp(disch:=omega)only[go_sem,wM,aD,bM h (v:=a) (u:=b) (w:=c) l y q,g,z,mF (x:=f) d t r,e,s]
 exact⟨by rw[p B om];exact i,j,o,k.trans m⟩
def ahB (n:Nat)(w:Bool)(c:nE)(G:List Nat->Prop)(h:H)(v:V)(h':H):Prop:= ∃vl ls l,v= .tup [vl,aC 0]/\SV h' vl 3 (Kr n ls)/\aM (GD (λ_=>False) h' n w G) ls l/\uC n w c l/\Fr h h'
theorem Eu (m:V)(n:Nat)(O:LN)(R:jI)(G:List Nat->Prop)(h:H)(g:GC W h m n O R G):
  Ev T 18 [m] h (ahB n false (O,R) G h):=by
 obtain⟨b,d,rfl,k,p⟩:=g.shape
 refine cV wI rfl ?_
 obtain⟨B,o⟩:=exI h.next
 obtain⟨L,K,N,j,U,e⟩:=dF o [aC n,b,d]
 simp(disch:=omega)only[go_sem,wI,aD,bM h (v:= aC n) (u:=b) (w:=d) rfl k p,o,K,aI j]
 refine (Yb _ n O R G L (g.mono e)).mono ?_
 rintro _ a ⟨rfl,f⟩
 have i:a.get B=aZ [aC n,b,d]:=by rw[f.get B om];exact j
 have J:decide ((0:Int)≠0)=false:=rfl
 simp(disch:=omega)only[go_sem,J,aI i]
 refine (Pc a (.fn 77 [] []) rfl k p rfl rfl).mono ?_
 rintro _ r ⟨rfl,q,F,Q,x⟩
 simp(disch:=omega)only[go_sem]
 refine (Rd (c:=(O,R)) a r a.next (a.next+1) 77 [] n false G b d x (fM _) om om om om q F (g.mono (e.trans f)) (QU n (O,R) a)).mono ?_
 rintro A P ⟨t,l,sv,z,s,y⟩
 simp(disch:=omega)only[go_sem]
 exact⟨A,t,l,rfl,sv,z,s,(e.trans f).trans y⟩
theorem Nq (o:V)(n:Nat)(O:LN)(R:jI)(G:List Nat->Prop)(h:H)(i:GC W h o n O R G):
  Ev T 20 [o] h (ahB n true (O,R) G h):=by
 obtain⟨d,e,rfl,k,p⟩:=i.shape
 refine cV Av rfl ?_
 obtain⟨B,m⟩:=exI h.next
 obtain⟨K,L,Q,j,P,g⟩:=dF m [aC n,d,e]
 simp(disch:=omega)only[go_sem,Av,aD,bM h (v:= aC n) (u:=d) (w:=e) rfl k p,m,L,aI j]
 refine (Yb _ n O R G K (i.mono g)).mono ?_
 rintro _ a ⟨rfl,b⟩
 have N:=b.next
 have f:a.get B=aZ [aC n,d,e]:=by rw[b.get B om];exact j
 have J:decide ((0:Int)≠0)=false:=rfl
 simp(disch:=omega)only[go_sem,J,aI f]
 refine (Pc a (.fn 81 [] [.ptr B 0]) rfl k p rfl rfl).mono ?_
 rintro _ r ⟨rfl,q,x,Y,y⟩
 simp(disch:=omega)only[go_sem]
 refine (Rd (c:=(O,R)) a r a.next (a.next+1) 81 [.ptr B 0] n true G d e y (fM _) om om om om q x (i.mono (g.trans b)) (UL n (O,R) a B d e G f om (i.mono (g.trans b)))).mono ?_
 rintro F U ⟨t,l,sv,A,s,z⟩
 simp(disch:=omega)only[go_sem]
 exact⟨F,t,l,rfl,sv,A,s,(g.trans b).trans z⟩
def Qg (n:Nat)(l:List nE):Bool:=match l[l.length- 1]? with|none=>false|some e=>decide (kI e.1 n 0=1)
theorem uC.pos {c:nE}{l:List nE}(s:uC n w c l):0<l.length:=by
 have:=(Ax.1 s.hd).1;omega
theorem uC.short {h:H}{c:nE}{f:List Nat->Prop}{ls:List (V×V)}{l:List nE}(s:uC n w c l)(r:iX n f)(p:bC n f c.1 c.2)(al:aM (GD W h n w f) ls l):l.length<=6000:=by
 have u:=aM.length al
 have d: ∀k e,l[k]? =some e->k+kI e.1 n 0<=5999:=by
  intro k
  induction k with
  |zero=>
   intro e a;obtain⟨b,rfl⟩:=Ax.1 a;obtain⟨_,o,_⟩:=aM.get al 0 om b;have:=jH o;omega
  |succ k ih=>
   intro e a;have b:k<l.length:=by have:=(Ax.1 a).1;omega
   have i:l[k]? =some l[k]:=dD b;obtain⟨v,_,g⟩:=aM.get al k om b;obtain⟨q,m⟩:=s.st k _ _ i a;have j:=g.size r p q;have t:=ih _ i;have:kI e.1 n 0≠kI l[k].1 n 0:=λh=>m (j.2 h)
   omega
 by_cases h:l.length=0
 ·omega
 ·have:=d (l.length- 1) _ (dD om)
  omega
theorem GS {c:nE}{G:List Nat->Prop}{ls:List (V×V)}{l:List nE}(i:V)(h:H)(sv:SV h i 3 (Kr n ls))(al:aM (GD W h n w G) ls l)(s:uC n w c l)(t:iX n G)(q:bC n G c.1 c.2):
  Ev T 82 [i,aC 0] h (λr h'=>r= .tup [.bool (Qg n l),aC 0]/\Fr h h'):=by
 refine cV Df rfl ?_
 have m:=aM.length al
 have A:=s.pos
 have u:bT i=some (aC (ls.length:Int)):=by unfold bT;rw[SV.len sv (n:=ls.length) (lC n ls) om];rfl
 have hi:ls.length- 1<ls.length:=om
 obtain⟨y,z,g,j⟩:=Lw sv hi
 obtain⟨v,a,f⟩:=aM.get al (ls.length- 1) hi om
 have b:l[ls.length- 1]? =some (l[ls.length- 1]'om):=dD om
 generalize (ls[ls.length- 1]'hi)=pl at a j
 generalize (l[ls.length- 1]'om)=d at a f b
 have o:((ls.length:Nat):Int)- 1=((ls.length- 1:Nat):Int):=om
 have B:=s.short t q al
 have p:decide ((0:Int)≠0)=false:=rfl
 simp(disch:=omega)only[go_sem,Df,aD,p,u,o,g.ixa,j]
 refine (vW _ n d.1 d.2 v _ a).mono ?_
 rintro _ x ⟨rfl,k⟩
 simp(disch:=omega)only[go_sem]
 refine⟨?_,k⟩
 rw[m] at b
 unfold Qg
 rw[b]
 rw[show decide (((kI d.1 n 0:Nat):Int)=1)=decide (kI d.1 n 0=1) from by
  by_cases e:kI d.1 n 0=1
  ·rw[bP e,bP om]
  ·rw[bH e,bH om]]
theorem Kh (c:V)(n:Nat)(O:LN)(R:jI)(G:List Nat->Prop)(h:H)(a:GC W h c n O R G):
  Ev T 22 [c] h (λv h'=> ∃l,uC n false (O,R) l/\v= .tup [.bool (Qg n l),aC 0]/\Fr h h'):=by
 obtain⟨e,f,rfl,j,t⟩:=a.shape
 refine cV uP rfl ?_
 obtain⟨B,d⟩:=exI h.next
 obtain⟨r,q,z,g,A,b⟩:=dF d [aC n,e,f]
 simp(disch:=omega)only[go_sem,uP,aD,bM h (v:= aC n) (u:=e) (w:=f) rfl j t,d,q,aI g]
 refine (Eu _ n O R G r (a.mono b)).mono ?_
 rintro _ i ⟨p,y,l,rfl,sv,o,s,m⟩
 simp(disch:=omega)only[go_sem]
 refine (GS p i sv o s a.dN a.isc).mono ?_
 rintro _ x ⟨rfl,k⟩
 simp(disch:=omega)only[go_sem]
 exact⟨l,s,rfl,(b.trans m).trans k⟩
theorem Fo (c:V)(n:Nat)(O:LN)(R:jI)(G:List Nat->Prop)(h:H)(a:GC W h c n O R G):
  Ev T 24 [c] h (λv h'=> ∃l,uC n true (O,R) l/\v= .tup [.bool (Qg n l),aC 0]/\Fr h h'):=by
 obtain⟨e,f,rfl,j,t⟩:=a.shape
 refine cV sV rfl ?_
 obtain⟨B,d⟩:=exI h.next
 obtain⟨r,q,z,g,A,b⟩:=dF d [aC n,e,f]
 simp(disch:=omega)only[go_sem,sV,aD,bM h (v:= aC n) (u:=e) (w:=f) rfl j t,d,q,aI g]
 refine (Nq _ n O R G r (a.mono b)).mono ?_
 rintro _ i ⟨p,y,l,rfl,sv,o,s,m⟩
 simp(disch:=omega)only[go_sem]
 refine (GS p i sv o s a.dN a.isc).mono ?_
 rintro _ x ⟨rfl,k⟩
 simp(disch:=omega)only[go_sem]
 exact⟨l,s,rfl,(b.trans m).trans k⟩
end
theorem Me (u:V)(a:List Nat)(h:H)(U:a.length<=1000)(O: ∀x∈a,x<256)(A:SI h u (zi a)):
  Ev T 99 [u] h (λv h'=>v= .str a/\Fr h h'):=by
 refine cV Db rfl ?_
 obtain⟨n,q⟩:=exI a.length
 have J:=A.lens
 rw[aQ,q] at J
 obtain⟨id,off,y,l,K⟩:=A.open
 rw[aQ,q] at y l K
 simp(disch:=omega)only[go_sem,Db,aD,J,Qp h n om]
 have m:Fr h (h.new (.cells false (rc n λ_=> .int .u8 0))):=(Fr.refl h).new _
 have f:(h.new (.cells false (rc n λ_=> .int .u8 0))).get h.next=some (.cells false (rc n λ_=> .int .u8 0)):=H.aL ..
 have d:(h.new (.cells false (rc n λ_=> .int .u8 0))).next=h.next+1:=H.aU ..
 generalize h.new (.cells false (rc n λ_=> .int .u8 0))=W at*
 obtain⟨S,B⟩:=exI h.next
 rw[B] at f d
 rw[B]
 refine aH (λG b t=> ∃(i:Nat),(∃j:Nat->V,b= [u,j 1,.sl S 0 n (.kn n),j 3,j 4,u,aC n,aC i,j 8])/\i<=n/\
   t.get S=some (.cells false (rc n λj=>if j<i then .int .u8 ((a.getD j 0:Nat):Int) else .int .u8 0))/\t.next=S+1/\Fr h t/\G=n-i) n
  ⟨0,aB rfl,iJ _,by rw[f];rfl,d,m,rfl⟩ ?_
 clear f m d
 rintro G b g ⟨i,⟨R,rfl⟩,hi,N,Q,F,rfl⟩
 simp(disch:=omega)only[go_sem]
 by_cases p:(i:Int)<(n:Int)
 ·rw[bP p]
  have c:i<n:=om
  have ci:g.cell id (off+i)=some (aC (a.getD i 0:Nat)):=by rw[F.cell (l om),K i c];congr 2;simp [zi,q,c]
  have r:=O (a.getD i 0) (bD om)
  generalize P:a.getD i 0=k at ci r
  have z:=bN (vs:=rc n λj=>if j<i then .int .u8 ((a.getD j 0:Nat):Int) else .int .u8 0) (off:=i) (by rw[kH];exact c) g S (.int .u8 (k:Int))
  rw[mS] at z
  simp(disch:=omega)only[go_sem,y.ixa,ci,N,yH,z]
  rw[eJ i]
  refine⟨n-(i+1),om,i+1,aB rfl,om,?_,Q,F.set om _,rfl⟩
  congr 2
  refine dB λj w=>?_
  by_cases e:j=i
  ·rw[bF e,bF om,e,P]
  ·rw[bI e]
   by_cases L:j<i
   ·rw[bF L,bF om]
   ·rw[bI L,bI om]
 rw[bH p]
 obtain rfl:i=n:=om
 have o:g.row S 0 i=some (a.map λ(x:Nat)=>V.int .u8 (x:Int)):=by
  have e:(rc i λj=>if j<i then V.int .u8 ((a.getD j 0:Nat):Int) else .int .u8 0)=a.map λ(x:Nat)=>V.int .u8 (x:Int):=Kq (by rw[jV,q]) λj w=>by
   rw[bF w,Ol,dD om,List.getD,dD om];rfl
  unfold H.row;rw[N,e];simp only[sub];rw[bF (by rw[jV];omega)];rw[List.drop_zero,Tn (by rw[jV];omega)]
 have s:JA g (.sl S 0 i (.kn i))=some (.str a):=by
  show (match g.row S 0 i with|some ys=>(qH ys).map V.str|none=>none)=_;rw[o];show (qH (a.map λ(x:Nat)=>V.int .u8 (x:Int))).map V.str=_;rw[Ee a O];rfl
 simp(disch:=omega)only[go_sem,GH,s]
 exact F
structure WM (n:Nat)(O:LN)(R:jI)(G:List Nat->Prop)(L:LN)(K:List Nat)(h:H)(p:Nat):Prop where
 ex: ∃vO vR M vr,h.get p=some (.cells false [aC n,vO,vR,.mp M,vr])/\h.get M=some (.wmap .str (Ie L L.length))/\GC (λ_=>False) h (.agg [aC n,vO,vR]) n O R G/\SP h vr (K.map λr=>L.getD r [])/\M<h.next
 hL:cZ O R n 0 (bL n)=L
 isK:Cm n G L K
 nx:p<h.next
theorem WM.mono {n:Nat}{O:LN}{R:jI}{G:List Nat->Prop}{L:LN}{K:List Nat}{h h':H}{p:Nat}(l:WM n O R G L K h p)(f:Fr h h'):WM n O R G L K h' p:=by
 obtain⟨i,b,M,e,g,c,d,sp,a⟩:=l.ex;have nx:=l.nx;exact⟨⟨i,b,M,e,by rw[f.get p nx];exact g,by rw[f.get M a];exact c,d.mono f,sp.mono f,iW a f.next⟩,l.hL,l.isK,iW nx f.next⟩
theorem aaR {a b c m:V}(f:a.one=true)(e:b.one=true)(g:c.one=true)(h:m.cells= [m])(d:m.one=true):rO [aC 0,.aE,.aE,.nilm,.aE] [(0,3,.agg [a,b,c]),(3,1,m)]=some (.agg [a,b,c,m,.aE]):=by
 simp [rO,iS,putAt,f,e,g,h,d,show (V.agg [a,b,c]).cells= [a,b,c] from rfl]
theorem YK {a b:V}(c:a.one=true)(d:b.one=true)(n:Int)(M:Nat)(h:H):Cv h (.agg [aC n,a,b,.mp M,.aE])=some (.ptr h.next 0,h.new (.cells false [aC n,a,b,.mp M,.aE])):=tL h _ (by simp [c,d,show (aC n).one=true from rfl,show (V.mp M).one=true from rfl,show V.aE.one=true from rfl])
theorem SI.zC {h h':H}{v:V}{l:List Int}{q:Nat}{n:Int}{a b m x y:V}(s:SI h v l)(N:l≠ [])(g:h.get q=aZ [aC n,a,b,m,x])(g':h'.get q=aZ [aC n,a,b,m,y])(B: ∀z,a≠ aC z)(L: ∀z,b≠ aC z)(F: ∀z,m≠ aC z)(nx: ∀z,x≠ aC z)(f:Fx (· =q) h h'):SI h' v l:=by
 rcases s with s|⟨id,off,len,i,G,J,p,A,u,w,j,d⟩
 ·exact .inl s
 ·by_cases e:id=q
  ·subst e
   rw[g] at w;cases w
   cases l with
   |nil=>exact absurd rfl N
   |cons z r=>
    have o: ∀(c:V) (t:List V),(∀z,c≠ aC z)->c::t≠ints (z::r):=λc t K e=>K z (List.cons.inj e).1
    match off,len,p,j,d with
    |off,0,_,_,d=>simp [ints] at d
    |0,1,p,j,d=>exact .inr ⟨id,0,1,i,false,_,p,A,iW u f.next,g',j,d⟩
    |0,k+2,_,_,d=>
     exfalso
     cases r with
     |nil=>
      have:=congrArg List.length d;simp [ints] at this
      try omega
     |cons z2 r2=>
      have:=congrArg (λl:List V=>l[1]?) d;simp [ints] at this;exact B z2 this
    |1,k+1,_,_,d=>exact absurd d (by simpa using o a _ B)
    |2,k+1,_,_,d=>exact absurd d (by simpa using o b _ L)
    |3,k+1,_,_,d=>exact absurd d (by simpa using o m _ F)
    |4,k+1,_,_,d=>exact absurd d (by simpa using o x _ nx)
    |off+5,k+1,_,_,d=>simp [ints] at d
  ·exact .inr ⟨id,off,len,i,G,J,p,A,iW u f.next,by rw[f.get id u e];exact w,j,d⟩
theorem FX {W0:Nat->Prop}(vc:V)(n:Nat)(O:LN)(R:jI)(G:List Nat->Prop)(h:H)(gc:GC W0 h vc n O R G):
  Ev T 46 [vc] h (λv h'=> ∃p L K,v= .tup [.ptr p 0,aC 0]/\WM n O R G L K h' p/\Fr h h'):=by
 obtain⟨l,s,rfl,a0,a4⟩:=gc.shape
 refine cV rZ rfl ?_
 obtain⟨A,hA⟩:=exI h.next
 obtain⟨J,e1,n1,g1,o1,f1⟩:=dF hA [aC n,l,s]
 have bx:=bM h (v:= aC n) (u:=l) (w:=s) rfl a0 a4
 have rB:=aI g1
 obtain⟨L,hL⟩:=exI (cZ O R n 0 (bL n))
 obtain⟨E,ll⟩:=dM gc.dN gc.isc
 have g3:=jH gc
 rw[hL] at E ll
 have hG:=gc.dN
 have n7:=gc.n7
 have n0:=gc.n0
 simp(disch:=omega)only[go_sem,rZ,aD,bx,hA,e1,rB]
 refine (Wc _ n O R G J (gc.mono f1)).mono ?_
 rw[hL]
 rintro _ j ⟨vL,rfl,nw⟩
 obtain⟨wL,W,c7,c3,g4,W1⟩:=nw.ex
 have c9:=aM.length c3
 obtain⟨m,hm⟩:=exI L.length
 rw[hm] at c9
 have e3:=cY.lens c7 c9
 have f2:=nw.fr
 have f8:j.row A 0 3=some [aC n,l,s]:=aI (by rw[f2.get A om];exact g1)
 simp(disch:=omega)only[go_sem]
 refine aW (λhc=>(hc rfl).elim) (λ_=>?_)
 obtain⟨X,hX⟩:=exI j.next
 simp(disch:=omega)only[go_sem,f8,e3,hX,aaR (a:= aC n) (b:=l) (c:=s) (m:= .mp (X+3)) rfl a0 a4 rfl rfl,YK a0 a4]
 obtain⟨h3,Y⟩: ∃h3:H,h3=H.mk ((H.mk ((H.mk j.tr (X+3)).new (Ob.wmap Cy.str [])).tr (X+5)).new (Ob.cells false [aC n,l,s,.mp (X+3),.aE])).tr (X+7):=⟨_,rfl⟩
 rw[←Y]
 have n3:h3.next=X+7:=by rw[Y]
 have gB:h3.get (X+5)=aZ [aC n,l,s,.mp (X+3),.aE]:=by rw[Y];exact H.aL (H.mk _ (X+5)) _
 have gM:h3.get (X+3)=some (.wmap .str (Ie L 0)):=by
  rw[Y];exact (H.bG (H.mk _ (X+5)) (show X+3≠X+5 by omega) _).trans (H.aL (H.mk _ (X+3)) _)
 have f3:Fr j h3:=⟨om,λq hq=>by
  rw[Y]
  exact (H.bG (H.mk _ (X+5)) (show q≠X+5 by omega) _).trans (H.bG (H.mk _ (X+3)) (show q≠X+3 by omega) _)⟩
 clear Y
 have N: ∀i,i<m->(L.getD i []).length<=1000/\ ∀x∈L.getD i [],x<256:=λi hi=>by
  have P:=lY hG E (show i<L.length by omega);exact⟨by rw[P.len];omega,λx hx=>by have:=P.lt x hx;omega⟩
 obtain⟨d9,c4,e5,d2,d8⟩:=SV.shape c7.sv m om om
 have d3: ∀i,i<m-> ∃vx,(∀h',Fr j h'->h'.cell d9 (c4+i)=some vx)/\SI j vx (zi (L.getD i [])):=λi hi=>by
  obtain⟨v,J,e4⟩:=fW.at c3 (i:=i) om;exact⟨v,λh' f=>by rw[f.cell (d2 om),d8 i om,J],e4.si⟩
 have hK: ∀i,i<m->isKey .str (.str (L.getD i []))=true:=λi hi=>xY (N i hi).1 (N i hi).2
 refine bJ (λvs F=>(∃g:Nat->V,vs= [g 0,.ptr A 0,.nilp,aC 0,vL,g 5,.ptr (X+5) 0,g 7,g 8,g 9,g 10,g 11,g 12,g 13,g 14,g 15,g 16,g 17,g 18,g 19])/\F.get (X+3)=some (.wmap .str (Ie L m))/\Fx (· =X+3) h3 F) ?_ ?_
 ·refine aH (λk' vs F=> ∃(i:Nat),(∃g:Nat->V,vs= [g 0,.ptr A 0,.nilp,aC 0,vL,g 5,.ptr (X+5) 0,g 7,g 8,g 9,g 10,g 11,vL,aC m,aC i,g 15,g 16,g 17,g 18,g 19])/\i<=m/\F.get (X+3)=some (.wmap .str (Ie L i))/\Fx (· =X+3) h3 F/\k'=m-i) m
   ⟨0,aB rfl,iJ _,gM,Fx.refl _ h3,rfl⟩ ?_
  rintro k' b4 h4 ⟨i,⟨g,rfl⟩,hi,b2,F4,rfl⟩
  by_cases a5:(i:Int)<(m:Int)
  case neg=>
   have d4:=bH a5;obtain rfl:i=m:=om
   simp(disch:=omega)only[go_sem,d4];exact⟨aB rfl,b2,F4⟩
  have d4:=bP a5
  have y:i<m:=om
  have b1:Fr j h4:=⟨by have:=F4.next;omega,λq hq=>by rw[F4.get q om om];exact f3.get q hq⟩
  have b7:h4.get (X+5)=aZ [aC n,l,s,.mp (X+3),.aE]:=by rw[F4.get _ om om];exact gB
  obtain⟨vx,cx,sx⟩:=d3 i y
  have c8:h4.cell (X+5) 3=some (.mp (X+3)):=by rw[H.aF b7];rfl
  simp(disch:=omega)only[go_sem,d4,e5.ixa,cx h4 b1,c8]
  refine (Me vx (L.getD i []) _ (N i y).1 (N i y).2 (sx.mono (b1.trans ((Fr.refl h4).bA om)))).mono ?_
  rintro _ B ⟨rfl,f5⟩
  have a8:Fr h4 B:=((Fr.refl h4).bA om).trans f5
  have n4:=F4.next
  have b5:B.get (X+3)=some (.wmap .str (Ie L i)):=by rw[a8.get _ om];exact b2
  have d6:B.cell (X+5) 3=some (.mp (X+3)):=by rw[a8.cell om];exact c8
  have pt:=λF=>Xx E.nodup (show i<L.length by omega) (hK i y) F (X+3)
  simp(disch:=omega)only[go_sem,d6,b5,pt]
  rw[eJ i]
  refine⟨by simp [dE],m-(i+1),om,i+1,aB rfl,om,rfl,⟨by have:=a8.next;show h3.next<=B.next;omega,λq J j=>by rw[H.aG _ (λe=>j e),a8.get q om];exact F4.get q J j⟩,rfl⟩
 rintro b4 h4 ⟨⟨g,rfl⟩,b2,F4⟩
 have n4:=F4.next
 have b1:Fr j h4:=⟨om,λq hq=>by rw[F4.get q om om];exact f3.get q hq⟩
 have b7:h4.get (X+5)=aZ [aC n,l,s,.mp (X+3),.aE]:=by rw[F4.get _ om om];exact gB
 have b8:=f2.trans b1
 have rA:=aI (h:=h4) (id:=A) (ro:=false) (by rw[b8.get _ om];exact g1)
 simp(disch:=omega)only[go_sem,rA]
 refine (PY _ n O R G h4 (gc.mono (f1.trans b8)) L hL).mono ?_
 rintro _ B ⟨vl,K,ks,rfl,ik,sl,al,f5⟩
 have lk:=aM.length al
 have kl:K.length<=5040:=mT (List.Nodup.length_le_of_subset ik.nd (l₂:=List.range L.length) λx hx=>Gu.2 (ik.lt hx)) (by rw[NM];omega)
 have f4:bT vl=some (aC (K.length:Int)):=by unfold bT;rw[SV.len sl (n:=K.length) (by rw[sU,lk]) om];rfl
 have n5:=f5.next
 have b9:B.get (X+5)=aZ [aC n,l,s,.mp (X+3),.aE]:=by rw[f5.get _ om];exact b7
 obtain⟨a6,UY,d7,d1,b0⟩:=SV.shape sl K.length (by rw[sU,lk]) om
 have a9:=b8.trans f5
 obtain⟨nO,nR⟩:(∀k z,l≠ .int k z)/\ ∀k z,s≠ .int k z:=by
  obtain⟨_,_,_,_,ev,sO,_,_,sR,_,_⟩:=gc.cw;simp only[V.agg.injEq,List.cons.injEq,true_and,and_true] at ev;rw[←ev.1] at sO;rw[←ev.2] at sR;refine⟨λk z e=>?_,λk z e=>?_⟩
  ·rw[e] at sO
   rcases sO with ⟨h|⟨_,h⟩,_⟩|⟨_,_,_,_,_,_,h,_⟩<;>cases h
  ·rw[e] at sR
   rcases sR with ⟨h|⟨_,h⟩,_⟩|⟨_,_,_,_,_,_,h,_⟩<;>cases h
 simp(disch:=omega)only[go_sem,f4]
 refine aH (λk' vs F=> ∃(i:Nat) (vr:V) (wr:List V),(∃g:Nat->V,vs= [g 0,g 1,g 2,aC 0,g 4,g 5,.ptr (X+5) 0,g 7,g 8,g 9,g 10,g 11,g 12,g 13,g 14,g 15,vl,aC (K.length:Int),aC i,g 19])/\i<=K.length/\F.get (X+5)=aZ [aC n,l,s,.mp (X+3),vr]/\cY F vr 1 wr B.next/\aM (λv r=>SI B v (zi (L.getD r []))) wr (K.take i)/\Fx (· =X+5) B F/\k'=K.length-i) K.length
  ⟨0,.aE, [],aB rfl,iJ _,b9,cY.aE _ _ _,trivial,Fx.refl _ B,rfl⟩ ?_
 rintro k' b4 h6 ⟨i,vr,wr,⟨g,rfl⟩,hi,b3,ow,aw,F6,rfl⟩
 have n6:=F6.next
 by_cases a5:(i:Int)<(K.length:Int)
 case neg=>
  have d4:=bH a5;obtain rfl:i=K.length:=om
  have f0:Fr h h6:=⟨by have:=f1.next;have:=a9.next;omega,λq hq=>by rw[F6.get q (by have:=a9.next;omega) (by have:=f2.next;omega),a9.get q om];exact f1.get q hq⟩
  have e0: ∀q,q<B.next->q≠X+5->h6.get q=B.get q:=λq J j=>F6.get q J j
  simp(disch:=omega)only[go_sem,d4];rw[List.take_length] at aw;have b5:B.get (X+3)=some (.wmap .str (Ie L L.length)):=by rw[f5.get _ om,b2,hm]
  have Lp: ∀r∈K,zi (L.getD r [])≠ []:=λr hr e=>by
   have P:=lY hG E (ik.lt hr);have:=congrArg List.length e;rw[aQ,P.len] at this;exact absurd this (by show n≠0;omega)
  have e9:SP h6 vr (K.map λr=>L.getD r []):=by
   refine fW.KI (W:=λ_=>False) ow.sv (aM.mQ (by rw[jV];exact aM.length aw) λt J j=>?_);rw[jV] at j;rw[List.getElem_map];exact⟨SI.zC (aM.get aw t J j) (Lp _ (zG _)) b9 b3 (nO _) (nR _) (λ_ e=>(by cases e)) (λ_ e=>(by cases e)) F6,Bc _⟩
  have f9:GC (λ_=>False) h6 (.agg [aC n,l,s]) n O R G:=by
   refine (((gc.mono f1).lH (W':=λq=>q=X+5) λq hq h=>?_).mono a9).go (W':=λ_=>False) (h':=h6) F6 λq _ h=>h.elim
   have:=f2.next;omega
  exact⟨X+5,L,K,rfl,⟨⟨l,s,X+3,vr,b3,by rw[e0 _ om om];exact b5,f9,e9,om⟩,hL,ik,om⟩,f0⟩
 have d4:=bP a5
 have y:i<K.length:=om
 have b6:i<ks.length:=om
 have e6:a6≠X+5:=λe=>by
  obtain⟨_,c1,_⟩:=Ye b6;have Z:=b0 (i*3+1) (by rw[sU];omega);rw[c1,e,H.aF b9] at Z
  match ho:UY+(i*3+1),Z with
  |0,_=>omega
  |1,Z=>exact nO _ _ (Option.some.inj Z)
  |2,Z=>exact nR _ _ (Option.some.inj Z)
  |3,Z=>cases Z
  |4,Z=>cases Z
  |k+5,Z=>cases Z
 obtain⟨q1,q2,q3⟩:=Ye b6
 have r5:B.row a6 (UY+i*3) 3=some [ks[i].rep,aC (ks[i].ord:Int),aC (ks[i].size:Int)]:=by
  have ll:=sU ks;refine Ra ((b0 (i*3) om).trans q1) ?_ ?_
  ·have:=(b0 (i*3+1) om).trans q2
   rwa [←Nat.add_assoc] at this
  ·have:=(b0 (i*3+2) om).trans q3
   rwa [←Nat.add_assoc] at this
 have r6:h6.row a6 (UY+i*3) 3=some [ks[i].rep,aC (ks[i].ord:Int),aC (ks[i].size:Int)]:=by
  rw[←r5];unfold H.row;rw[F6.get a6 (d1 om) e6]
 have kr:=(aM.get al i b6 y).rep
 have Q:=ks[i].hrep
 generalize ks[i].rep=rp at r6 kr Q
 generalize ((ks[i].ord:Nat):Int)=a1 at r6
 generalize ((ks[i].size:Nat):Int)=a2 at r6
 obtain⟨D,hD⟩:=exI h6.next
 obtain⟨h7,e7,g0,g7,o7,f7⟩:=dF hD [.aE,aC 0,aC 0]
 obtain⟨U,e8,n8,g8,o8⟩:=pJ h7 D [rp,aC a1,aC a2]
 have f6:U.get (X+5)=aZ [aC n,l,s,.mp (X+3),vr]:=by rw[o8 _ om,o7 _ om];exact b3
 simp(disch:=omega)only[go_sem,d4,d7.ixa,r6,hD,e7,bW h7 D 0 (v:=rp) (u:= aC a1) (w:= aC a2) Q.2.1 rfl rfl,g7,cF,e8,H.aF f6,H.aF g8,cT (H.mk U.tr (U.next+7)) (z:= .aE) Q.1 Q.2.1]
 obtain⟨h9,a3⟩: ∃h9:H,h9=H.mk ((H.mk U.tr (U.next+7)).new (Ob.cells false [rp])).tr (U.next+12):=⟨_,rfl⟩
 rw[←a3]
 have g9:h9.get (U.next+7)=aZ [rp]:=by rw[a3];exact H.aL (H.mk U.tr (U.next+7)) _
 have n9:h9.next=U.next+12:=by rw[a3]
 have o9: ∀k,k≠U.next+7->h9.get k=U.get k:=λk hk=>by rw[a3];exact H.bG (H.mk U.tr (U.next+7)) hk _
 clear a3
 have c0: ∀k,k<h6.next->h9.get k=h6.get k:=λk hk=>by rw[o9 k om,o8 k om,o7 k om]
 have lw:=aM.length aw
 rw[Fj,Nat.min_eq_left om] at lw
 obtain⟨d0,d5,a7⟩:=(ow.mono (h':=h9) om λq o m c e _ J=>c0 q J).push (bytes:=24) (SV.one om g9 (.kn 1)) (n:=i) (m:=1) om rfl om om om
 have g2:=a7.next
 have c5: ∀k,k<B.next->dL vr k:=λk hk id o m c e e2=>by have:=(ow.in _ _ _ _ e).2.1;omega
 have c6:d0.get (X+5)=aZ [aC n,l,s,.mp (X+3),vr]:=by rw[a7.old _ om (c5 _ om),c0 _ om];exact b3
 have pt: ∀(F:H) (x:V),dX (aZ [aC n,l,s,.mp (X+3),vr]) F (X+5) 4 [x]=some (F.set (X+5) (aZ [aC n,l,s,.mp (X+3),x])):=λF x=>bN (by simp) F _ x
 simp(disch:=omega)only[go_sem,d5,c6,pt]
 rw[eJ i]
 refine⟨K.length-(i+1),om,i+1,_,_,aB rfl,om,rfl,(a7.own om rfl om).mono (fM _) λq o m c e _ J=>H.aG _ (by cases e;omega) _,?_,⟨by show B.next<=d0.next;omega,λq J j=>?_⟩,rfl⟩
 ·rw[fT 0 y]
  exact aM.append aw ⟨by rw[←rN (d:=0) y];exact kr,trivial⟩
 ·rw[H.aG _ j,a7.old q om (c5 q J),c0 q om]
  exact F6.get q J j
section
variable {a b c d:V}
structure Rk (L:LN)(Gd:List Nat->Prop)(r:List Nat):Prop where
 asc:r.Pairwise (· < ·)
 mem: ∀i,i∈r↔i<L.length/\Gd (L.getD i [])
theorem kL (h:H)(id off:Nat)(e:a.one=true)(i:b.one=true)(g:c.one=true)(f:d.one=true):Wj h 4 (.ptr id off) (.agg [a,b,c,d])=dX (h.get id) h id off [a,b,c,d]:=Cd h id off 4 _ rfl (by simp [e,i,g,f])
theorem jS {x y z t:V}(h:H)(id:Nat):dX (some (.cells false [x,y,z,t])) h id 0 [a,b,c,d]=some (h.set id (some (.cells false [a,b,c,d]))):=by
 simp [dX,putAt]
theorem gU {h:H}{id:Nat}{ro:Bool}(e:h.get id=some (.cells ro [a,b,c,d])):h.row id 0 4=some [a,b,c,d]:=by
 simp [H.row,e,sub]
theorem acC (e:a.one=true)(g:b.one=true)(f:c.one=true):rO [aC 0,.aE,.aE,.aE] [(0,3,.agg [a,b,c])]=some (.agg [a,b,c,.aE]):=by
 simp [rO,iS,putAt,e,g,f,show (V.agg [a,b,c]).cells= [a,b,c] from rfl]
theorem ahH {G m:List Nat->Prop}{L j:LN}(t:dW G L)(E:dW m j)(le: ∀x,m x->G x){f:List Int}(p:f.Perm (zi (j.map λx=>L.idxOf x)))(s:f.Pairwise (· <= ·)): ∃r,f=zi r/\Rk L m r:=by
 have g: ∀x∈j,x∈L:=λx l=>(t.mem x).2 (le x ((E.mem x).1 l))
 have e:zi (f.map Int.toNat)=f:=by
  unfold zi;rw[List.map_map];refine (Vy λz y=>?_).trans (List.map_id _);have:=p.mem_iff.1 y;unfold zi at this;obtain⟨k,_,rfl⟩:=uF.1 this
  rfl
 have nd:(j.map λx=>L.idxOf x).Nodup:=by
  refine List.pairwise_map.2 (List.Pairwise.imp_of_mem (λ{a b} v B ne e=>ne ?_) E.nodup);have A:=List.getElem_idxOf (List.idxOf_lt_length_of_mem (g a v));have u:=List.getElem_idxOf (List.idxOf_lt_length_of_mem (g b B));rw[←A,←u];congr 1
 have q:(f.map Int.toNat).Perm (j.map λx=>L.idxOf x):=by
  have:=p.map Int.toNat;refine this.trans (List.Perm.of_eq ?_);unfold zi;rw[List.map_map];exact (Vy λz _=>rfl).trans (List.map_id _)
 refine⟨_,e.symm,?_,λi=>?_⟩
 ·have n:=q.nodup_iff.2 nd
  have w:(f.map Int.toNat).Pairwise (· <= ·):=List.pairwise_map.2 (s.imp λh=>Int.toNat_le_toNat h);exact (List.pairwise_and_iff.2 ⟨w,n⟩).imp λh=>Nat.lt_of_le_of_ne h.1 h.2
 ·rw[q.mem_iff,uF]
  constructor
  ·rintro⟨x,l,rfl⟩
   have o:=List.idxOf_lt_length_of_mem (g x l);refine⟨o,?_⟩;rw[List.getD,dD o,Option.getD_some,List.getElem_idxOf o];exact (E.mem x).1 l
  ·rintro⟨hi,hg⟩
   refine⟨_,(E.mem _).2 hg,?_⟩;rw[List.getD,dD hi,Option.getD_some];exact t.nodup.idxOf_getElem i hi
theorem UC {W:Nat->Prop}(T0:Nat)(vd:V)(n:Nat)(O O':LN)(R R':jI)(G Gd:List Nat->Prop)(L:LN)(K:List Nat)(h:H)(zC:WM n O R G L K h T0)(gd:GC W h vd n O' R' Gd)(le: ∀x,Gd x->G x):
  Ev T 102 [.ptr T0 0,vd] h (λv h'=> ∃vO vR vr r,vd= .agg [aC n,vO,vR]/\v= .agg [aC n,vO,vR,vr]/\SI h' vr (zi r)/\Rk L Gd r/\Mq (λq=>q<h.next) vr/\Fr h h'):=by
 obtain⟨vO,vR,rfl,B,F⟩:=gd.shape
 obtain⟨lO,lR,M,lr,gT,gM,gc,_,nM⟩:=zC.ex
 refine cV sE rfl ?_
 obtain⟨E0,d9⟩:=dM gc.dN gc.isc
 rw[zC.hL] at E0
 obtain⟨E,ll⟩:=dM gd.dN gd.isc
 have e0:=jH gd
 have n7:=gd.n7
 obtain⟨J,b2⟩:=exI (cZ O' R' n 0 (bL n))
 rw[b2] at E ll
 have nT:=zC.nx
 obtain⟨A,hA⟩:=exI h.next
 obtain⟨h1,e1,n1,g1,o1,f1⟩:=dF hA [aC n,vO,vR]
 obtain⟨h2,e2,n2,g2,o2,f2⟩:=dF n1 [aC 0,.aE,.aE,.aE]
 have F2:=f1.trans f2
 have b4:h2.get A=some (.cells false [aC n,vO,vR]):=by rw[o2 A om];exact g1
 simp(disch:=omega)only[go_sem,sE,aD,bM h (v:= aC n) (u:=vO) (w:=vR) rfl B F,hA,e1,n1,e2,aI b4]
 refine (Wc _ n O' R' Gd h2 (gd.mono F2)).mono ?_
 rw[b2]
 rintro _ h3 ⟨vL,rfl,nw⟩
 obtain⟨wL,W,b3,b0,e3,W1⟩:=nw.ex
 have b6:=aM.length b0
 have d1:=cY.lens b3 b6
 have f3:=nw.fr
 have n3:=f3.next
 have d8:h3.get A=some (.cells false [aC n,vO,vR]):=by rw[f3.get A om];exact b4
 obtain⟨D,hD⟩:=exI h3.next
 obtain⟨h4,e4,n4,g4,o4,f4⟩:=dF hD [aC 0,.aE,.aE,.aE]
 obtain⟨Z,e5,n5,g5,o5⟩:=pJ h4 D [aC n,vO,vR,.aE]
 simp(disch:=omega)only[go_sem,aI d8,acC (a:= aC n) (b:=vO) (c:=vR) rfl B F,hD,e4,kL h4 D 0 (a:= aC n) (b:=vO) (c:=vR) (d:= .aE) rfl B F rfl,g4,jS,e5,d1]
 obtain⟨m,hm⟩:=exI J.length
 rw[hm] at b6
 have a4:Fr h3 Z:=⟨om,λq hq=>by rw[o5 q om,o4 q om]⟩
 obtain⟨c8,b1,d3,b9,c7⟩:=SV.shape b3.sv m om om
 have c1: ∀i,i<m-> ∃vx,(∀h',Fr h3 h'->h'.cell c8 (b1+i)=some vx)/\SI h3 vx (zi (J.getD i [])):=λi hi=>by
  obtain⟨v,h1,d2⟩:=fW.at b0 (i:=i) om;exact⟨v,λh' f=>by rw[f.cell (b9 om),c7 i om,h1],d2.si⟩
 have y: ∀i,i<m->(J.getD i []).length<=1000/\ ∀x∈J.getD i [],x<256:=λi hi=>by
  have P:=lY gd.dN E (show i<J.length by omega);exact⟨by rw[P.len];omega,λx hx=>by have:=P.lt x hx;omega⟩
 have c2: ∀x∈J,x∈L:=λx hx=>(E0.mem x).2 (le x ((E.mem x).1 hx))
 have a3:Fr h h3:=F2.trans f3
 obtain⟨Y,a1⟩: ∃Y:Nat->List Int,Y=λi=>zi ((J.take i).map λx=>L.idxOf x):=⟨_,rfl⟩
 have rl: ∀i,i<=m->(Y i).length=i:=λi hi=>by rw[a1];simp [aQ];omega
 refine bJ (λvs s=> ∃S,(∃g:Nat->V,vs= [g 0,g 1,g 2,.ptr (A+1) 0,g 4,.ptr D 0,g 6,g 7,g 8,g 9,g 10])/\s.get D=some (.cells false [aC n,vO,vR,.sl S 0 m (.un 1)])/\s.get S=some (.cells false (ints (Y m)))/\S<s.next/\Z.next<=S/\Fx (· =D) Z s) ?_ ?_
 ·refine aH (λk' vs s=> ∃(i:Nat) (vr:V),(∃g:Nat->V,vs= [.ptr T0 0,g 1,g 2,.ptr (A+1) 0,g 4,.ptr D 0,g 6,vL,aC m,aC i,g 10])/\i<=m/\s.get D=some (.cells false [aC n,vO,vR,vr])/\cY s vr 1 (ints (Y i)) Z.next/\(0<i-> ∃S,vr= .sl S 0 i (.un 1)/\s.get S=some (.cells false (ints (Y i)))/\S<s.next/\Z.next<=S)/\Fx (· =D) Z s/\k'=m-i) m
   ⟨0,.aE,by rw[hm];exact aB rfl,iJ _,g5,by rw[a1];exact cY.aE _ _ _,λh=>absurd h om,Fx.refl _ Z,rfl⟩ ?_
  rintro k' b5 l ⟨i,vr,⟨g,rfl⟩,hi,t,ow,hS,F6,rfl⟩
  have n6:=F6.next
  by_cases c0:(i:Int)<(m:Int)
  case neg=>
   have d4:=bH c0;obtain rfl:i=m:=om
   have mp:0<i:=by
    have:=HJ ((E.mem _).2 gd.dN.one);omega
   obtain⟨S,rfl,gS,s1,s2⟩:=hS mp;simp(disch:=omega)only[go_sem,d4];exact⟨S,aB rfl,t,gS,s1,s2,F6⟩
  have d4:=bP c0
  have U:i<m:=om
  have a2:Fr h3 l:=⟨om,λq hq=>by rw[F6.get q om om];exact a4.get q hq⟩
  have a6:Fr h l:=a3.trans a2
  obtain⟨vx,cx,sx⟩:=c1 i U
  have a8:l.get T0=some (.cells false [aC n,lO,lR,.mp M,lr]):=by rw[a6.get T0 nT];exact gT
  have c3:dE vr vr=true:=ow.sv.dE
  obtain⟨j,hj⟩:=exI (L.idxOf (J.getD i []))
  have xL:J.getD i []∈L:=c2 _ (bD om)
  have jl:j<L.length:=hj▸List.idxOf_lt_length_of_mem xL
  have lj:L.getD j []=J.getD i []:=by
   rw[List.getD,dD jl,Option.getD_some];subst hj;exact List.getElem_idxOf _
  have d0:isKey .str (.str (J.getD i []))=true:=xY (y i U).1 (y i U).2
  have lk:=λz=>Np E0.nodup jl (by rw[lj];exact d0) z
  rw[lj] at lk
  have fb:Fr l (H.mk l.tr (l.next+13)):=(Fr.refl l).bA om
  simp(disch:=omega)only[go_sem,d4,d3.ixa,cx l a2,H.aF t,H.aF a8]
  refine (Me vx (J.getD i []) _ (y i U).1 (y i U).2 (sx.mono (a2.trans fb))).mono ?_
  rintro _ p ⟨rfl,f7⟩
  have a0:=fb.trans f7
  have c9:l.next+13<=p.next:=f7.next
  have a7:p.get D=some (.cells false [aC n,vO,vR,vr]):=by rw[a0.get D om];exact t
  have d6:p.get T0=some (.cells false [aC n,lO,lR,.mp M,lr]):=by rw[a0.get T0 (by have:=a6.next;omega)];exact a8
  have d7:p.get M=some (.wmap .str (Ie L L.length)):=by rw[(a6.trans a0).get M nM];exact gM
  simp(disch:=omega)only[go_sem,H.aF a7,H.aF d6,c3,d7,lk,show dE (.mp M) (.mp M)=true from by simp [dE],cT (H.mk p.tr (l.next+9)) (z:= aC 0) (v:= aC j) rfl rfl]
  obtain⟨h8,N⟩: ∃h8:H,h8=H.mk ((H.mk p.tr (l.next+9)).new (Ob.cells false [aC j])).tr p.next:=⟨_,rfl⟩
  rw[←N]
  have g8:h8.get (l.next+9)=some (.cells false [aC j]):=by rw[N];exact H.aL (H.mk p.tr (l.next+9)) _
  have n8:h8.next=p.next:=by rw[N]
  have o8: ∀k,k≠l.next+9->h8.get k=p.get k:=λk hk=>by rw[N];exact H.bG (H.mk p.tr (l.next+9)) hk _
  clear N
  have a5: ∀k,k<l.next->h8.get k=l.get k:=λk hk=>by rw[o8 k om,a0.get k hk]
  have li:=rl i om
  obtain⟨h9,a9,p9⟩:=(ow.mono (h':=h8) om λq o m c e _ h1=>a5 q h1).push (bytes:=8) (SV.one om g8 (.kn 1)) (n:=i) (m:=1) (by rw[aP];omega) rfl om om om
  have n9:=p9.next
  have b7: ∀k,k<Z.next->dL vr k:=λk hk id o m c e e2=>by have:=(ow.in _ _ _ _ e).2.1;omega
  have c5:h9.get D=some (.cells false [aC n,vO,vR,vr]):=by rw[p9.old _ om (b7 _ om),a5 _ om];exact t
  have pt: ∀(s:H) (x:V),dX (some (.cells false [aC n,vO,vR,vr])) s D 3 [x]=some (s.set D (some (.cells false [aC n,vO,vR,x]))):=λs x=>bN (by simp) s _ x
  simp(disch:=omega)only[go_sem,a9,c5,pt]
  rw[eJ i]
  have er:ints (Y i)++ [aC j]=ints (Y (i+1)):=by
   rw[a1];simp only;rw[fT [] om,List.map_append,List.map_singleton,hj];simp [zi,ints]
  have pg:=p9.get
  have po:=p9.own (b:=Z.next) (by rw[aP];omega) rfl om
  rw[er] at pg po
  refine⟨m-(i+1),om,i+1,_,aB rfl,om,rfl,po.mono (fM _) λq o m c e _ h1=>H.aG _ (by cases e;omega) _,λ_=>⟨_,rfl,(H.aG _ om _).trans pg,by show h8.next<h9.next;omega,om⟩,⟨by show Z.next<=h9.next;omega,λq h1 h2=>?_⟩,rfl⟩
  rw[H.aG _ h2,p9.old q om (b7 q h1),a5 q om]
  exact F6.get q h1 h2
 rintro b5 l ⟨S,⟨g,rfl⟩,t,gS,s1,s2,F6⟩
 have n6:=F6.next
 simp(disch:=omega)only[go_sem,H.aF t]
 have b8:=rl m (fM _)
 refine Ev.mono (Q:=λ_ h'=> ∃l',h'.get S=some (.cells false (ints l'))/\l'.Perm (Y m)/\l'.Pairwise (· <= ·)/\Fx (· =S) l h') (by have:=Lm l S (Y m) (.un 1) om gS s1;rwa [b8] at this) ?_
 rintro _ p ⟨l',d5,pm,so,F7⟩
 have a7:p.get D=some (.cells false [aC n,vO,vR,.sl S 0 m (.un 1)]):=by rw[F7.get D om om];exact t
 obtain⟨r,rfl,rk⟩:=ahH E0 E le (by rw[a1] at pm;simp only[←hm,List.take_length] at pm;exact pm) so
 have c6:(zi r).length=m:=by rw[pm.length_eq,b8]
 have c9:=F7.next
 have c4:p.get (A+1)=some (.cells false [aC 0,.aE,.aE,.aE]):=by rw[F7.get _ om om,F6.get _ om om,a4.get _ om,f3.get _ om];exact g2
 obtain⟨h8,e8,n8,g8,o8⟩:=pJ p (A+1) [aC n,vO,vR,.sl S 0 m (.un 1)]
 simp(disch:=omega)only[go_sem,gU a7,kL p (A+1) 0 (a:= aC n) (b:=vO) (c:=vR) (d:= .sl S 0 m (.un 1)) rfl B F rfl,c4,jS,e8,gU g8]
 refine⟨vO,vR,_,r,rfl,rfl,SV.all (by rw[aP,c6,uW]) om (by rw[o8 S om];exact d5) _,rk,λ(e:S<A)=>by have:=a3.next;omega,⟨om,λq hq=>?_⟩⟩
 rw[o8 q om,F7.get q om om,F6.get q om om,a4.get q om]
 exact a3.get q hq
end
set_option maxRecDepth 100000
theorem dbl {n:Nat}{G K:List Nat->Prop}{L M:LN}(d:iX n G)(j:iX n K)(E:dW G L)(F:dW K M)(h: ∀y,G y->K y){x:List Nat}(i:K x)(nx: ¬G x):2*L.length<=M.length:=by
 have X:=j.cU i
 have nd:(L++L.map (aX x)).Nodup:=by
  refine List.nodup_append.2 ⟨E.nodup,?_,λa f b g e=>?_⟩
  ·refine List.pairwise_map.2 (List.Pairwise.imp_of_mem (λ{a b} f g ne e=>ne ?_) E.nodup)
   exact zN (d.cU ((E.mem a).1 f)) (d.cU ((E.mem b).1 g)) X e
  ·obtain⟨y,c,rfl⟩:=uF.1 g
   have Y:=(E.mem y).1 c;have A:=(E.mem a).1 f;rw[e] at A;have:=d.mul A (d.inv Y);rw[aV X (d.cU Y) (d.cU Y).inv,fC (d.cU Y),bZ X] at this;exact nx this
 have:=List.Nodup.length_le_of_subset nd (l₂:=M) λy c=>(F.mem y).2 (by
  rcases pH.1 c with c|c
  ·exact h y ((E.mem y).1 c)
  ·obtain⟨z,k,rfl⟩:=uF.1 c
   exact j.mul i (h z ((E.mem z).1 k)))
 rw[jZ,jV] at this;omega
def Lb (n:Nat)(G K:List Nat->Prop)(x:List Nat):List Nat->Prop:=NC n (λa=>K a∨a=x) G
def RG (L:LN)(r:List Nat)(x:List Nat):Prop:= ∃i,i∈r/\L.getD i []=x
section
variable {n:Nat} {G K K':List Nat->Prop} {O O':LN} {R R':jI} {x y:List Nat} {L:LN} {r r':List Nat}
theorem Lb.dN (c:iX n G)(le: ∀x,K x->G x)(d:G x):iX n (Lb n G K x):=
 NC.dN (λa h=>c.cU (h.elim (le a) λe=>by rw[e];exact d)) λb h=>c.cU h
theorem Lb.le (c:iX n G)(le: ∀x,K x->G x)(g:G x)(h:Lb n G K x y):G y:=
 NC.le h c (λa h=>h.elim (le a) λe=>by rw[e];exact g) λy b f d=>c.mul (c.mul (c.inv d) f) d
theorem abT (i:iX n G)(c:bC n G O R)(m:iX n K)(d:bC n K O' R')(le: ∀x,K x->G x)(l:G x)(y:List Nat):NC n (· ∈bQ R'++ [x]) (· ∈bQ R) y↔Lb n G K x y:=by
 have p: ∀a,a∈bQ R'++ [x]->bE n a:=λa j=>(pH.1 j).elim (λh=>m.cU (bV d h)) λh=>by rw[List.mem_singleton.1 h];exact i.cU l
 have o: ∀b,b∈bQ R->bE n b:=λb h=>i.cU (bV c h)
 constructor
 ·intro h
  exact NC.le h (Lb.dN i le l) (λa j=>(pH.1 j).elim (λh=>NC.of (.inl (bV d h))) λh=>NC.of (.inr (List.mem_singleton.1 h))) λy b e f=>NC.cj e (bV c f)
 ·intro h
  have k:=NC.dN p o;refine NC.le h k ?_ λy b e f=>Xw k o (λy b e f=>NC.cj e f) (nJ i c f) y e
  rintro a (h|rfl)
  ·exact bX.le k (λg q=>NC.of (pH.2 (.inl q))) (nJ m d h)
  ·exact NC.of (pH.2 (.inr (List.mem_singleton.2 rfl)))
theorem Lb.iff (e: ∀x,K x↔K' x)(y:List Nat):Lb n G K x y↔Lb n G K' x y:=by
 have:K=K':=funext λx=>propext (e x)
 rw[this]
theorem Rk.uniq (a:Rk L K r)(b:Rk L K r'):r=r':=oQ a.asc b.asc λi=>(a.mem i).trans (b.mem i).symm
theorem Rk.iff (E:dW G L)(le: ∀x,K x->G x)(a:Rk L K r)(x:List Nat):K x↔RG L r x:=by
 constructor
 ·intro h
  obtain⟨i,hi,rfl⟩:=zF.1 ((E.mem x).2 (le x h));have e:L.getD i []=L[i]:=by rw[List.getD,dD hi];rfl
  exact⟨i,(a.mem i).2 ⟨hi,by rw[e];exact h⟩,e⟩
 ·rintro⟨i,hi,rfl⟩
  exact ((a.mem i).1 hi).2
theorem Rk.self (a:Rk L K r)(E:dW G L):Rk L (RG L r) r:=⟨a.asc,λi=>⟨λh=>⟨((a.mem i).1 h).1,i,h,rfl⟩,λ⟨hi,j,hj,e⟩=>by
 have b:=((a.mem j).1 hj).1;rw[List.getD,dD b,List.getD,dD hi] at e;have:j=i:=(List.getElem_inj E.nodup).1 e
 rw[←this];exact hj⟩⟩
theorem Rk.len (g:iX n K)(d:bC n K O' R')(E:dW G L)(le: ∀x,K x->G x)(a:Rk L K r):r.length=kI O' n 0:=by
 obtain⟨F,e⟩:=dM g d;rw[←e]
 have p:(r.map λi=>L.getD i []).Perm (cZ O' R' n 0 (bL n)):=by
  refine (List.perm_ext_iff_of_nodup ?_ F.nodup).2 λx=>?_
  ·refine List.pairwise_map.2 (List.Pairwise.imp_of_mem (λ{i j} hi b (ne:i<j) e=>?_) a.asc)
   have f:=((a.mem i).1 hi).1;have c:=((a.mem j).1 b).1;rw[List.getD,dD f,List.getD,dD c] at e;have:=(List.getElem_inj E.nodup).1 e;omega
  ·rw[F.mem,a.iff E le,uF]
   rfl
 have:=p.length_eq;rwa [jV] at this
end
open Classical in
noncomputable def Pz (L:LN)(K:List Nat->Prop):List Nat:=(List.range L.length).filter λi=>decide (K (L.getD i []))
open Classical in
theorem Dy (L:LN)(K:List Nat->Prop):Rk L K (Pz L K):=⟨List.pairwise_lt_range.filter _,λi=>by
 unfold Pz
 rw[CH,Gu,Qf]⟩
noncomputable def Aw (n:Nat)(G:List Nat->Prop)(L:LN)(r:List Nat)(i:Nat):List Nat:=Pz L (Lb n G (RG L r) (L.getD i []))
def tF (l:LN)(a:List Nat):LN:=if a∈l then l else l++ [a]
noncomputable def XC (n:Nat)(G:List Nat->Prop)(L:LN)(r:List Nat)(K:List Nat):LN:=K.foldl (λl i=>if i∈r then l else tF l (Aw n G L r i)) []
def Yc (l:LN)(a:List Nat):Bool:=l.any λb=>decide (b.length<a.length)&&b.all λi=>decide (i∈a)
def IN (l:LN):LN:=l.filter λa=>!Yc l a
def kP:List Nat->List Nat->Bool
 | [], []=>false
 | [],_::_=>true
 |_::_, []=>false
 |a::l,b::m=>if a=b then kP l m else decide (a<b)
def NH:LN->List Nat
 | []=> []
 |a::l=>l.foldl (λm x=>if kP x m then x else m) a
noncomputable def Pw (n:Nat)(G:List Nat->Prop)(L:LN)(K:List Nat)(r:List Nat):List Nat:=NH (IN (XC n G L r K))
theorem wF {l:LN}{a x:List Nat}:x∈tF l a↔x∈l∨x=a:=by
 unfold tF;split
 ·rename_i h
  exact⟨.inl,λk=>k.elim id λe=>by rw[e];exact h⟩
 ·simp
theorem Ft {n:Nat}{G:List Nat->Prop}{L:LN}{r K:List Nat}{x:List Nat}:x∈XC n G L r K↔ ∃i,i∈K/\i∉r/\x=Aw n G L r i:=by
 have d: ∀(K:List Nat) (l:LN),x∈K.foldl (λl i=>if i∈r then l else tF l (Aw n G L r i)) l↔x∈l∨ ∃i,i∈K/\i∉r/\x=Aw n G L r i:=by
  intro K
  induction K with
  |nil=>intro l;simp
  |cons k K ih=>
   intro l;rw[List.foldl_cons,ih];split
   ·rename_i h
    refine or_congr_right ⟨λ⟨i,a,c,b⟩=>⟨i,Cu _ a,c,b⟩,λ⟨i,a,c,b⟩=>?_⟩;rcases zH.1 a with rfl|a
    ·exact absurd h c
    ·exact⟨i,a,c,b⟩
   ·rename_i h
    rw[wF,or_assoc];refine or_congr_right ⟨?_,λ⟨i,a,c,b⟩=>?_⟩
    ·rintro (e|⟨i,a,c,b⟩)
     ·exact⟨k,Ab,h,e⟩
     ·exact⟨i,Cu _ a,c,b⟩
    ·rcases zH.1 a with rfl|a
     ·exact .inl b
     ·exact .inr ⟨i,a,c,b⟩
 exact (d K []).trans (by simp)
theorem aaS: ∀{l:LN},l≠ []->NH l∈l
 |a::l,_=>by
  have c: ∀(l:LN) (a:List Nat),l.foldl (λm x=>if kP x m then x else m) a=a∨l.foldl (λm x=>if kP x m then x else m) a∈l:=by
   intro l
   induction l with
   |nil=>exact λa=> .inl rfl
   |cons b l ih=>
    intro a;rw[List.foldl_cons];split
    ·exact .inr ((ih b).elim (λe=>by rw[e];exact Ab) (Cu _))
    ·exact (ih a).imp id (Cu _)
  show l.foldl _ a∈_;exact (c l a).elim (λe=>by rw[e];exact Ab) (Cu _)
theorem TM {l:LN}(h:l≠ []):IN l≠ []:=by
 have d: ∀(k:Nat) (a:List Nat),a∈l->a.length<=k->IN l≠ []:=by
  intro k
  induction k with
  |zero=>
   intro a c i e
   have:a∈IN l:=CH.2 ⟨c,by
    rw[Bool.not_eq_true'];refine List.any_eq_false.2 λb f=>?_
    simp;omega⟩
   rw[e] at this;cases this
  |succ k ih=>
   intro a c i
   by_cases h:Yc l a=true
   ·obtain⟨b,f,g⟩:=List.any_eq_true.1 h
    simp only[vN,Qf] at g;exact ih b f om
   ·intro e
    have:a∈IN l:=CH.2 ⟨c,by simp [h]⟩;rw[e] at this;cases this
 cases l with
 |nil=>exact absurd rfl h
 |cons a l=>exact d _ a Ab (fM _)
theorem QQ {W:Nat->Prop}(vc x:V)(n:Nat)(O:LN)(R:jI)(G:List Nat->Prop)(l:LN)(h:H)(c:GC W h vc n O R G)(hl:l.length<=4096)(sl:SP h x l)(hP: ∀g∈l,bE n g):
  Ev T 107 [vc,x] h (λv h'=> ∃vr O2 R2,v= .tup [vr,aC 0]/\GC (λq=>q<h.next) h' vr n O2 R2 (NC n (· ∈l) (· ∈bQ R))/\Fr h h'):=by
 obtain⟨U,Y,rfl,oO,oR⟩:=c.shape
 refine cV uU rfl ?_
 have n0:=c.n0
 have s:=c.n7
 have hG:=c.dN
 obtain⟨B,hB⟩:=exI h.next
 obtain⟨h1,e1,n1,g1,o1,f1⟩:=dF hB [aC n,U,Y]
 obtain⟨m,e2,n2,g2,o2,f2⟩:=dF n1 [aC 0,.aE,.aE]
 have F2:=f1.trans f2
 have r: ∀d,Fr m d->d.get B=aZ [aC n,U,Y]:=λd f=>by rw[f.get B om,o2 B om];exact g1
 have gA: ∀d,Fr m d->d.get (B+1)=aZ [aC 0,.aE,.aE]:=λd f=>by rw[f.get _ om];exact g2
 simp(disch:=omega)only[go_sem,uU,aD,bM h (v:= aC n) (u:=U) (w:=Y) rfl oO oR,hB,e1,n1,e2,aI (r m (Fr.refl _))]
 refine ((c.mono F2).check).mono ?_
 rintro _ h3 ⟨rfl,P⟩
 simp(disch:=omega)only[go_sem]
 refine aW (λK=>(K rfl).elim) (λ_=>?_)
 simp(disch:=omega)only[go_sem,H.aF (r h3 P)]
 refine (Lo x n l h3 n0 s hl (sl.mono (F2.trans P)) hP).mono ?_
 rintro _ h4 ⟨vm,Om,Rm,rfl,gm,f4⟩
 obtain⟨mO,mR,rfl,F,J⟩:=gm.shape
 obtain⟨M,hM⟩:=exI h4.next
 obtain⟨h5,e5,n5,g5,o5,f5⟩:=dF hM [aC 0,.aE,.aE]
 obtain⟨i,e6,n6,g6,o6⟩:=pJ h5 M [aC n,mO,mR]
 simp(disch:=omega)only[go_sem,hM,e5,bW h5 M 0 (v:= aC n) (u:=mO) (w:=mR) rfl F J,g5,cF,e6]
 refine aW (λK=>(K rfl).elim) (λ_=>?_)
 have N:Fr h4 i:=⟨om,λq hq=>by rw[o6 q om,o5 q om]⟩
 have b:=P.trans (f4.trans N)
 have fb: ∀k,i.next<=k->Fr i (H.mk i.tr k):=λk hk=>(Fr.refl i).bA hk
 simp(disch:=omega)only[go_sem,H.aF (r i b),aI (r i b)]
 refine (xV _ n O R G h _ c (F2.trans (b.trans (fb _ om)))).mono ?_
 rintro va t ⟨wA,A,pA,f7⟩
 have z:=(fb _ om).trans f7
 have a:=b.trans z
 have cB:okV (t.cell B 0) (aC n)=true:=by rw[H.aF (r t a)];simp [okV,dE]
 simp(disch:=omega)only[go_sem]
 refine⟨cB,?_⟩
 have sA:=qV hG c.isc
 have nn:n*n<=7*7:=Nat.mul_le_mul s s
 have L:SP t va (bQ R):=fW.KI (W:=λ_=>False) A.sv (aM.mono (λ_ _ p=>⟨p.si.mono (F2.trans a),Bc _⟩) pA)
 refine (Qx x va n l (bQ R) t n0 s hP (λg hg=>hG.cU (bV c.isc hg)) om om (sl.mono (F2.trans a)) L).mono ?_
 rintro _ Z ⟨D,rfl,hD,bd,f8⟩
 obtain⟨xO,xR,O2,R2,gD,j⟩:=bd.ex
 obtain⟨_,y,Q⟩:=j.one
 have o:=a.trans f8
 obtain⟨h9,e9,n9,g9,o9⟩:=pJ Z (B+1) [aC n,xO,xR]
 simp(disch:=omega)only[go_sem,aI gD,bW Z (B+1) 0 (v:= aC n) (u:=xO) (w:=xR) rfl y Q,gA Z o,cF,e9,aI g9]
 have q2:=a.next
 have q8:=f8.next
 refine⟨_,O2,R2,rfl,?_,⟨om,λq hq=>by rw[o9 q om,o.get q om];exact F2.get q hq⟩⟩
 exact j.go ⟨om,λq h1 m=>o9 q λe=>m (.inl om)⟩ λq _ h=> .inl om
structure Nm (W:Nat->Prop)(n:Nat)(L:LN)(h:H)(p:V×V×V)(r:List Nat):Prop where
 ch: ∃O R,GC W h (.agg [aC n,p.1,p.2.1]) n O R (RG L r)
 si:SI h p.2.2 (zi r)
 off:Mq W p.2.2
 rk:Rk L (RG L r) r
abbrev Zw (n:Nat)(p:V×V×V):V:= .agg [aC n,p.1,p.2.1,p.2.2]
section
variable {W W':Nat->Prop} {n:Nat} {L:LN} {h h':H} {p:V×V×V} {r:List Nat}
theorem Nm.go (m:Nm W n L h p r)(f:Fx W h h')(a: ∀q,q<h.next->W' q->W q):Nm W' n L h' p r:=by
 obtain⟨O,R,g⟩:=m.ch;exact⟨⟨O,R,g.go f a⟩,SV.fx m.si m.off f,Mq.lH m.off m.si a,m.rk⟩
theorem Nm.mono (m:Nm W n L h p r)(f:Fr h h'):Nm W n L h' p r:=m.go (Fx.of f) λ_ _ h=>h
theorem Nm.one (m:Nm W n L h p r):p.1.one=true/\p.2.1.one=true/\p.2.2.one=true:=by
 obtain⟨O,R,g⟩:=m.ch;exact⟨g.one.2.1,g.one.2.2,(SV.cK m.si).2.1⟩
theorem Nm.eq (m:Nm W n L h p r):dE p.1 p.1=true/\dE p.2.1 p.2.1=true/\dE p.2.2 p.2.2=true:=by
 obtain⟨O,R,g⟩:=m.ch;obtain⟨_,_,_,_,e,b,_,_,a,_,_⟩:=g.cw;simp only[V.agg.injEq,List.cons.injEq,and_true,true_and] at e;rw[e.1,e.2];exact⟨SV.dE b,SV.dE a,SV.dE m.si⟩
theorem DL {h h':H}(f:Fr h h'){id off k:Nat}(a:id<h.next):h'.row id off k=h.row id off k:=by
 unfold H.row;rw[f.get id a]
theorem Rk.short (m:Rk L (RG L r) r):r.length<=L.length:=by
 have:=List.Nodup.length_le_of_subset (l₂:=List.range L.length) (m.asc.imp λh=>Nat.ne_of_lt h) λi hi=>Gu.2 ((m.mem i).1 hi).1
 rwa [NM] at this
end
theorem WM.few {n:Nat}{O:LN}{R:jI}{G:List Nat->Prop}{L:LN}{K:List Nat}{h:H}{p:Nat}(l:WM n O R G L K h p):L.length<=5040/\dW G L/\iX n G/\bC n G O R/\1<=n/\n<=7:=by
 obtain⟨i,b,M,f,g,d,a,sp,c⟩:=l.ex;obtain⟨E,e⟩:=dM a.dN a.isc;rw[l.hL] at E e;exact⟨by rw[e];exact jH a,E,a.dN,a.isc,a.n0,a.n7⟩
theorem fZ (h:H){a b c d:V}(e:a.one=true)(i:b.one=true)(g:c.one=true)(f:d.one=true):Cv h (.agg [a,b,c,d])=some (.ptr h.next 0,h.new (.cells false [a,b,c,d])):=tL h _ (by simp [e,i,g,f])
theorem GQ {W:Nat->Prop}(f:Nat)(p:V×V×V)(y:V)(n:Nat)(O:LN)(R:jI)(G:List Nat->Prop)(L:LN)(K r:List Nat)(i:Nat)(h:H)(zC:WM n O R G L K h f)(g:Nm W n L h p r)(hi:i<L.length)(s:SI h y (zi (L.getD i []))):
  Ev T 48 [.ptr f 0,Zw n p,y] h (λv h'=>v= .bool (decide (i∈r))/\Fr h h'):=by
 obtain⟨o1,o2,o3⟩:=g.one
 obtain⟨ll,E,hG,a0,n0,n7⟩:=zC.few
 obtain⟨Y,F,M,U,gT,gM,gc,_,nM⟩:=zC.ex
 have nT:=zC.nx
 have rl:=g.rk.short
 refine cV qT rfl ?_
 obtain⟨B,N⟩:=exI h.next
 obtain⟨o,e1,n1,A,q1,j⟩:=dF N [aC n,p.1,p.2.1,p.2.2]
 have P:=lY hG E hi
 have J:(L.getD i []).length<=1000:=by rw[P.len];omega
 have Q: ∀x∈L.getD i [],x<256:=λx s=>by have:=P.lt x s;omega
 have l:o.get f=some (.cells false [aC n,Y,F,.mp M,U]):=by rw[j.get f nT];exact gT
 simp(disch:=omega)only[go_sem,qT,aD,fZ h (a:= aC n) (b:=p.1) (c:=p.2.1) (d:=p.2.2) rfl o1 o2 o3,N,e1,H.aF A,H.aF l]
 refine (Me y (L.getD i []) _ J Q (s.mono (j.trans ((Fr.refl o).bA om)))).mono ?_
 rintro _ m ⟨rfl,Z⟩
 have e:=((Fr.refl o).bA (n:=o.next+15) om).trans Z
 have w:m.get B=some (.cells false [aC n,p.1,p.2.1,p.2.2]):=by rw[e.get B om];exact A
 have u:m.get f=some (.cells false [aC n,Y,F,.mp M,U]):=by rw[e.get f om];exact l
 have q:m.get M=some (.wmap .str (Ie L L.length)):=by rw[(j.trans e).get M nM];exact gM
 have lk:=λz=>Np E.nodup hi (xY J Q) z
 have t:dE p.2.2 p.2.2=true:=SV.dE g.si
 simp(disch:=omega)only[go_sem,H.aF w,H.aF u,q,lk,t,show dE (.mp M) (.mp M)=true from by simp [dE]]
 refine (Es p.2.2 r i m om g.rk.asc (g.si.mono (j.trans e))).mono ?_
 rintro _ h3 ⟨k,b,rfl,hb,_,f3⟩
 simp(disch:=omega)only[go_sem]
 refine⟨?_,j.trans (e.trans f3)⟩
 congr 1
 exact Py.2 (hb.trans Qf.symm)
theorem EU (s:Nat)(n:Nat)(O:LN)(R:jI)(G:List Nat->Prop)(L:LN)(K:List Nat)(h:H)(zC:WM n O R G L K h s):
  Ev T 47 [.ptr s 0] h (λv h'=> ∃p,v=Zw n p/\Nm (λq=>q<h.next) n L h' p (Pz L λx=>x=bL n)/\Fr h h'):=by
 obtain⟨ll,E,hG,a3,n0,n7⟩:=zC.few
 obtain⟨lO,lR,M,lr,gT,gM,gc,_,nM⟩:=zC.ex
 have nT:=zC.nx
 refine cV nV rfl ?_
 obtain⟨B,hB⟩:=exI h.next
 obtain⟨k,z,n1,g1,q1,f1⟩:=dF hB [aC 0,.aE,.aE,.aE]
 have a1:k.get s=some (.cells false [aC n,lO,lR,.mp M,lr]):=by rw[f1.get s nT];exact gT
 simp(disch:=omega)only[go_sem,nV,aD,hB,z,H.aF a1]
 refine (Lo .aE n [] k n0 n7 (by show 0<=4096;omega) ⟨[],SV.aE k 1,trivial⟩ (λg Z=>by cases Z)).mono ?_
 rintro _ J ⟨vm,Om,Rm,rfl,U,l⟩
 obtain⟨m,j,rfl,o,t⟩:=U.shape
 obtain⟨A,hA⟩:=exI J.next
 obtain⟨h3,e3,n3,g3,o3,f3⟩:=dF hA [aC 0,.aE,.aE]
 obtain⟨h4,e4,n4,g4,o4⟩:=pJ h3 A [aC n,m,j]
 have f:Fr J h4:=⟨om,λq hq=>by rw[o4 q om,o3 q om]⟩
 simp(disch:=omega)only[go_sem,hA,e3,bW h3 A 0 (v:= aC n) (u:=m) (w:=j) rfl o t,g3,cF,e4,aI g4]
 have z: ∀x,bX n (· ∈([]:LN)) x↔x=bL n:=λx=>⟨λh=>by
  have e: ∀g,g∈([]:LN)->g=bL n:=λg Z=>by cases Z
  have r:=bX.le (Vu n) e h
  exact r,λh=>by rw[h];exact .one⟩
 have F:=f1.trans (l.trans f)
 refine (UC s _ n O Om R Rm G _ L K h4 (zC.mono F) (((U.lH (W':=λ_=>False) λ_ _ h=>h.elim).mono f).congr z) (λx Y=>by rw[Y];exact hG.one)).mono ?_
 rintro _ y ⟨vO,vR,vr,r,e5,rfl,sr,Q,a0,N⟩
 obtain⟨rfl,rfl⟩:m=vO/\j=vR:=by simpa using e5
 obtain rfl:=Q.uniq (Dy _ _)
 have oR:=(SV.cK sr).2.1
 have gB:y.get B=some (.cells false [aC 0,.aE,.aE,.aE]):=by rw[N.get B (by have:=l.next;omega),f.get B (by have:=l.next;omega),l.get B om];exact g1
 obtain⟨h6,e6,n6,g6,o6⟩:=pJ y B [aC n,m,j,vr]
 simp(disch:=omega)only[go_sem,kL y B 0 (a:= aC n) (b:=m) (c:=j) (d:=vr) rfl o t oR,gB,jS,e6,gU g6]
 have a4:=l.next
 have a2:=N.next
 have Fb:Fx (· =B) y h6:=⟨om,λq k J=>o6 q J⟩
 have P:=((((U.mono f).mono N).go (Fx.wide Fb λq (e:q=B)=>(by omega:q<k.next)) (W':=λq=>q<B) λq _ h=>(by have:q<B:=h;omega:q<k.next)).congr z).congr (Q.iff E λx Y=>by rw[Y];exact hG.one)
 have i:=Mq.lH (W':=λq=>q<B∨q=B) a0 sr λq _ h=>(by have:q<B∨q=B:=h;omega:q<h4.next)
 refine⟨(m,j,vr),rfl,⟨⟨Om,Rm,P⟩,SV.fx sr i (Fx.wide Fb λq h=> .inr h),Mq.lH i sr λq _ h=> .inl h,Q.self E⟩,⟨om,λq hq=>by rw[o6 q om,N.get q om,f.get q om,l.get q om];exact f1.get q hq⟩⟩
theorem Xn {W:Nat->Prop}(T0:Nat)(p:V×V×V)(vx:V)(n:Nat)(O:LN)(R:jI)(G:List Nat->Prop)(L:LN)(K r:List Nat)(i:Nat)(h:H)(zC:WM n O R G L K h T0)(nm:Nm W n L h p r)(hi:i<L.length)(F:SI h vx (zi (L.getD i []))):
  Ev T 50 [.ptr T0 0,Zw n p,vx] h (λv h'=> ∃q,v=Zw n q/\Nm (λq=>q<h.next) n L h' q (Aw n G L r i)/\Fr h h'):=by
 obtain⟨o1,o2,o3⟩:=nm.one
 obtain⟨ll,E,hG,b1,n0,n7⟩:=zC.few
 obtain⟨lO,lR,M,lr,gT,gM,gc,_,nM⟩:=zC.ex
 obtain⟨_,oO,oR⟩:=gc.one
 have nT:=zC.nx
 obtain⟨Op,Rp,Q⟩:=nm.ch
 refine cV pX rfl ?_
 obtain⟨B,hB⟩:=exI h.next
 obtain⟨h1,e1,n1,g1,q1,f1⟩:=dF hB [aC n,p.1,p.2.1,p.2.2]
 obtain⟨l,e2,n2,g2,q2,f2⟩:=dF n1 [aC 0,.aE,.aE,.aE]
 have F2:=f1.trans f2
 have gB: ∀j,Fr l j->j.get B=some (.cells false [aC n,p.1,p.2.1,p.2.2]):=λj f=>by rw[f.get B om,q2 B om];exact g1
 have gA: ∀j,Fr l j->j.get (B+1)=some (.cells false [aC 0,.aE,.aE,.aE]):=λj f=>by rw[f.get _ om];exact g2
 have a8: ∀j,Fr l j->j.get T0=some (.cells false [aC n,lO,lR,.mp M,lr]):=λj f=>by rw[f.get _ om,F2.get T0 nT];exact gT
 have b4: ∀{j:H} {id:Nat} {a b c d:V},j.get id=some (.cells false [a,b,c,d])->j.row id 0 3=some [a,b,c]:=λhg=>by simp [H.row,hg,sub]
 have a4: ∀{j:H} {id:Nat} {a b c d e:V},j.get id=some (.cells false [a,b,c,d,e])->j.row id 0 3=some [a,b,c]:=λhg=>by simp [H.row,hg,sub]
 simp(disch:=omega)only[go_sem,pX,aD,fZ h (a:= aC n) (b:=p.1) (c:=p.2.1) (d:=p.2.2) rfl o1 o2 o3,hB,e1,n1,e2,b4 (gB l (Fr.refl _))]
 refine (Qy _ n Op Rp _ l (Q.mono F2)).mono ?_
 rintro _ k ⟨vs,rfl,nl⟩
 have f3:=nl.fr
 obtain⟨ws,W1,ow,pv,bk,lW⟩:=nl.ex
 have lw:=aM.length pv
 have sl:=qV Q.dN Q.isc
 have nn:n*n<=7*7:=Nat.mul_le_mul n7 n7
 have wx:=SV.cK F
 obtain⟨C,hC⟩:=exI k.next
 simp(disch:=omega)only[go_sem,a4 (a8 k f3),cT (H.mk k.tr (k.next+6)) (z:= .aE) wx.1 wx.2.1]
 obtain⟨h4,e4,n4,g4,o4⟩:=LF k (k.next+6) (k.next+15) [vx]
 rw[e4]
 have a6:Fr k h4:=⟨om,λq P=>o4 q om⟩
 obtain⟨A,a5,p5⟩:=((ow.fr a6).le (iJ _)).push (bytes:=24) (SV.one om g4 (.kn 1)) (n:=(bQ Rp).length) (m:=1) om rfl om om om
 have n5:=p5.next
 have c0:=f3.next
 have vb: ∀id s m c,vs= .sl id s m c->l.next<=id:=λid s m c e=>(ow.in _ _ _ _ e).2.1
 have t:Fr l A:=⟨om,λq P=>by rw[p5.old q om (λid s m c e e2=>by have:=vb _ _ _ _ e;omega),o4 q om,f3.get q P]⟩
 have ec:dE lO lO=true/\dE lR lR=true:=by
  obtain⟨_,_,_,_,e,sO,_,_,sR,_,_⟩:=gc.cw;cases e;exact⟨SV.dE sO,SV.dE sR⟩
 simp(disch:=omega)only[go_sem,a5,a4 (a8 A t),ec.1,ec.2]
 have a1:Fx W1 h4 A:=p5.fx λid s m c e=>bk _ _ _ _ e
 have sw:SP A (.sl h4.next 0 ((bQ Rp).length+1) (.un 1)) (bQ Rp++ [L.getD i []]):=fW.KI (W:=λ_=>False) (p5.own om rfl (iJ _)).sv (aM.append (aM.mono (λ_ _ p=>⟨SV.fx (p.si.mono a6) (W:=W1) p.off a1,Bc _⟩) pv) ⟨⟨F.mono (F2.trans t),Bc _⟩,trivial⟩)
 have le: ∀x,RG L r x->G x:=λx F=>by
  obtain⟨i,hi,rfl⟩:=F;exact (E.mem _).1 (bD ((nm.rk.mem i).1 hi).1)
 have o:G (L.getD i []):=(E.mem _).1 (bD hi)
 refine (QQ _ _ n O R G (bQ Rp++ [L.getD i []]) A (gc.mono (F2.trans t)) (by rw[jZ];show _+1<=4096;omega) sw (λg hg=>(pH.1 hg).elim (λh=>Q.dN.cU (bV Q.isc h)) λh=>by rw[List.mem_singleton.1 h];exact hG.cU o)).mono ?_
 rintro _ h6 ⟨vr,O2,R2,rfl,J,f6⟩
 obtain⟨U,Y,rfl,Z,a3⟩:=J.shape
 have n6:=f6.next
 obtain⟨h7,e7,b9,g7,o7⟩:=LF h6 (k.next+12) h6.next [aC 0,.aE,.aE]
 obtain⟨h8,e8,n8,g8,o8⟩:=pJ h7 (k.next+12) [aC n,U,Y]
 simp(disch:=omega)only[go_sem,e7,bW h7 (k.next+12) 0 (v:= aC n) (u:=U) (w:=Y) rfl Z a3,g7,cF,e8,aI g8]
 have a2:Fr l h8:=⟨om,λq P=>by rw[o8 q om,o7 q om,f6.get q om,t.get q P]⟩
 have y:Fx (· =k.next+12) h6 h8:=⟨om,λq h1 l=>by rw[o8 q l,o7 q l]⟩
 have eN:=abT hG b1 Q.dN Q.isc le o
 refine (UC T0 _ n O O2 R R2 G _ L K h8 (zC.mono (F2.trans a2)) ((J.go (Fx.wide y λq (e:q=k.next+12)=>(by omega:q<A.next)) (W':=λ_=>False) λ_ _ h=>h.elim).congr eN) (λx F=>Lb.le hG le o F)).mono ?_
 rintro _ h9 ⟨vO,vR,vr,r',e9,rfl,sr,rk,b0,f9⟩
 obtain⟨rfl,rfl⟩:U=vO/\Y=vR:=by simpa using e9
 obtain rfl:=rk.uniq (Dy _ _)
 have b2:=(SV.cK sr).2.1
 have N:=a2.trans f9
 obtain⟨b3,b5,c1,b6,a7⟩:=pJ h9 (B+1) [aC n,U,Y,vr]
 simp(disch:=omega)only[go_sem,kL h9 (B+1) 0 (a:= aC n) (b:=U) (c:=Y) (d:=vr) rfl Z a3 b2,gA h9 N,jS,b5,gU b6]
 have b7:=N.next
 have b8:=f9.next
 have Fb:Fx (· =B+1) h9 b3:=⟨om,λq h1 l=>a7 q l⟩
 have a9: ∀x,Lb n G (RG L r) (L.getD i []) x->G x:=λx F=>Lb.le hG le o F
 have hw: ∀q,(q<B∨q=B+1)->q<h8.next:=λq P=>om
 have gq:=((((J.go (Fx.wide y λq (e:q=k.next+12)=>(by omega:q<A.next)) (W':=λq=>q<B∨q=B+1) λq _ h=>(by have:q<B∨q=B+1:=h;omega:q<A.next)).mono f9).go (Fx.wide Fb λq h=> .inr h) (W':=λq=>q<B) λq _ h=> .inl h).congr eN).congr (rk.iff E a9)
 have a0:=Mq.lH (W':=λq=>q<B∨q=B+1) b0 sr λq _ h=>hw q h
 refine⟨(U,Y,vr),rfl,⟨⟨O2,R2,gq⟩,SV.fx sr a0 (Fx.wide Fb λq h=> .inr h),Mq.lH a0 sr λq _ h=> .inl h,rk.self E⟩,⟨om,λq P=>by rw[a7 q om,N.get q om];exact F2.get q P⟩⟩
section
variable {α:Type} {f:α->List V} {k:Nat}
theorem sM (b: ∀x,(f x).length=k): ∀ls:List α,(ls.flatMap f).length=ls.length*k
 | []=>by simp
 |a::l=>by rw[List.flatMap_cons,jZ,b,sM b l,List.length_cons,Nat.succ_mul];omega
theorem CD (b: ∀x,(f x).length=k): ∀(ls:List α) (i:Nat) (hi:i<ls.length),((ls.flatMap f).drop (i*k)).take k=f ls[i]
 |a::l,0,_=>by rw[List.flatMap_cons,Nat.zero_mul,List.drop_zero,←b a,List.take_left];rfl
 |a::l,i+1,hi=>by
  have:=CD b l i (by simpa using hi);rw[List.flatMap_cons,show (i+1)*k=(f a).length+i*k from by rw[b,Nat.succ_mul];omega,List.drop_append,List.drop_eq_nil_of_le om,List.nil_append,Nat.add_sub_cancel_left];exact this
theorem SV.rec {h:H}{v:V}(g:0<k)(m: ∀x,(f x).length=k){ls:List α}(s:SV h v k (ls.flatMap f)){i:Nat}(hi:i<ls.length): ∃id off,Sl v k ls.length id off/\h.row id (off+i*k) k=some (f ls[i])/\id<h.next:=by
 have c:=sM m ls;obtain⟨id,off,l,_,_⟩:=s.shape ls.length c g;refine⟨id,off,l,?_⟩;have p:(i+1)*k<=ls.length*k:=Nat.mul_le_mul_right k om;rw[Nat.succ_mul] at p;rcases s with ⟨_,s⟩|⟨d,b,len,q,w,y,rfl,j,n,o,u,r⟩
 ·rw[s] at c
  have:0=ls.length*k:=c;omega
 ·have e:=l.ixa .i64 0 om om
  obtain⟨rfl,rfl⟩:d=id/\b=off:=by
   have a:len=ls.length:=Nat.eq_of_mul_eq_mul_right g (j.symm.trans c);have t:0<len:=om
   simpa [Dz,t] using e
  have a:len=ls.length:=Nat.eq_of_mul_eq_mul_right g (j.symm.trans c);subst a;refine⟨?_,n⟩;unfold H.row;rw[o];simp only[sub];rw[bF om,←CD m ls i hi,←r,List.drop_take,List.take_take,Nat.min_eq_left om,List.drop_drop]
end
abbrev Bt (n:Nat)(p:V×V×V):List V:= [aC n,p.1,p.2.1,p.2.2]
def zB (n:Nat)(ps:List (V×V×V)):List V:=ps.flatMap (Bt n)
theorem mH (n:Nat)(ps:List (V×V×V)):(zB n ps).length=ps.length*4:=sM (k:=4) (f:=Bt n) (λ_=>rfl) ps
theorem Wh (n:Nat)(a b:List (V×V×V)):zB n (a++b)=zB n a++zB n b:=by unfold zB;rw[List.flatMap_append]
theorem Lu {h:H}{v:V}{n:Nat}{ps:List (V×V×V)}(s:SV h v 4 (zB n ps)){i:Nat}(hi:i<ps.length): ∃id off,Sl v 4 ps.length id off/\h.row id (off+i*4) 4=some [aC n,ps[i].1,ps[i].2.1,ps[i].2.2]/\id<h.next:=SV.rec (k:=4) (f:=Bt n) om (λ_=>rfl) s hi
theorem zP {h:H}{v:V}{n:Nat}{ps:List (V×V×V)}(s:SV h v 4 (zB n ps)):bT v=some (aC (ps.length:Int)):=by
 unfold bT;rw[SV.len s (n:=ps.length) (mH n ps) om];rfl
theorem FD (m:V)(F:Nat)(l:List V)(n:Nat)(ps:List (V×V×V))(P:Nat->Bool)(h:H)(sv:SV h m 4 (zB n ps))(y:ps.length<1000000)(w: ∀i (hi:i<ps.length) hh,Fr h hh->Ev T F (Zw n ps[i]::l) hh (λv h'=>v= .bool (P i)/\Fr hh h')):
  Ev T 108 [m,.fn F [] l] h (λv h'=> ∃k:Int,v= aC k/\((k= -1/\ ∀i,i<ps.length->P i=false)∨ ∃i,i<ps.length/\k=(i:Int)/\P i=true/\ ∀j,j<i->P j=false)/\Fr h h'):=by
 refine cV eM rfl ?_
 have t:=zP sv
 simp(disch:=omega)only[go_sem,eM,aD,t]
 refine aH (λp a hh=> ∃(i:Nat),(∃g:Nat->V,a= [m,.fn F [] l,g 2,g 3,aC (ps.length:Int),aC i,g 6,g 7])/\i<=ps.length/\(∀j,j<i->P j=false)/\Fr h hh/\p=ps.length-i) ps.length
  ⟨0,aB rfl,iJ _,λj r=>om,Fr.refl h,rfl⟩ ?_
 rintro p a hh ⟨i,⟨g,rfl⟩,hi,d,f,rfl⟩
 by_cases c:(i:Int)<(ps.length:Int)
 case neg=>
  have o:=bH c;simp(disch:=omega)only[go_sem,o];exact⟨_,rfl,.inl ⟨rfl,λj r=>d j om⟩,f⟩
 have o:=bP c
 have b:i<ps.length:=om
 obtain⟨id,u,s,row,_⟩:=Lu (sv.mono f) b
 simp(disch:=omega)only[go_sem,o,s.ixa,row]
 refine (w i b hh f).mono ?_
 rintro _ x ⟨rfl,q⟩
 cases hP:P i with
 |true=>
  simp(disch:=omega)only[go_sem];exact⟨_,rfl,.inr ⟨i,b,rfl,hP,d⟩,f.trans q⟩
 |false=>
  simp(disch:=omega)only[go_sem];rw[eJ i]
  exact⟨ps.length-(i+1),om,i+1,aB rfl,om,λj r=>by
   by_cases e:j=i
   ·rw[e];exact hP
   ·exact d j om,f.trans q,rfl⟩
theorem FW (c:V)(F:Nat)(a:List V)(n:Nat)(ps:List (V×V×V))(P:Nat->Bool)(h:H)(sv:SV h c 4 (zB n ps))(g:ps.length<1000000)(j: ∀i (hi:i<ps.length) hh,Fr h hh->Ev T F (Zw n ps[i]::a) hh (λv h'=>v= .bool (P i)/\Fr hh h')):
  Ev T 54 [c,.fn F [] a] h (λv h'=>(∃b,v= .bool b/\(b=true↔ ∃i,i<ps.length/\P i=true))/\Fr h h'):=by
 refine cV dY rfl ?_
 simp(disch:=omega)only[go_sem,dY,aD]
 refine (FD c F a n ps P h sv g j).mono ?_
 rintro _ o ⟨k,rfl,m,f⟩
 simp(disch:=omega)only[go_sem]
 refine⟨⟨_,rfl,?_⟩,f⟩
 rcases m with ⟨rfl,l⟩|⟨i,hi,rfl,d,_⟩
 ·refine⟨λh=>by simp at h,λ⟨i,hi,e⟩=>by rw[l i hi] at e;cases e⟩
 ·exact⟨λ_=>⟨i,hi,d⟩,λ_=>bP om⟩
theorem agP {a b:List Nat}:(zi a=zi b)=(a=b):=propext ⟨Vl,λh=>by rw[h]⟩
theorem WD (h:H){a b c d:V}(g:a.one=true)(f:b.one=true)(j:c.one=true)(i:d.one=true):lQ h 4 [aC 0,.aE,.aE,.aE] 1 [(0,4,.agg [a,b,c,d])]=some (.sl h.next 0 1 (.kn 1),h.new (.cells false [a,b,c,d])):=by
 have e:cX [aC 0,.aE,.aE,.aE] (1*4)= [aC 0,.aE,.aE,.aE]:=rfl;simp [lQ,iS,e,putAt,V.cells,g,f,j,i]
structure NmL (W:Nat->Prop)(n:Nat)(L:LN)(b:Nat)(h:H)(v:V)(rs:LN):Prop where
 ex: ∃ps,cY h v 4 (zB n ps) b/\aM (Nm (λq=>W q∨dO v q) n L h) ps rs/\ ∀id off m c,v= .sl id off m c->h.get id=some (.cells false (zB n ps))
theorem NmL.mono {W:Nat->Prop}{n:Nat}{L:LN}{b:Nat}{h h':H}{v:V}{rs:LN}(m:NmL W n L b h v rs)(f:Fr h h'):NmL W n L b h' v rs:=by
 obtain⟨g,o,a,e⟩:=m.ex;exact⟨g,o.fr f,aM.mono (λ_ _ x=>Nm.mono x f) a,λid i m c d=>by rw[f.get id (o.in _ _ _ _ d).1];exact e _ _ _ _ d⟩
theorem FQ {W:Nat->Prop}(n:Nat)(L:LN)(b Q:Nat)(j:V)(rs:LN)(p:V×V×V)(r:List Nat)(h:H)(m:NmL W n L b h j rs)(hb:b<=h.next)(P:Nm (λq=>W q∨dO j q) n L h p r)(hQ:h.get Q=some (.cells false [j]))(J:Q<h.next)(a0: ¬dO j Q)(a7:W Q)(hL:L.length<=5040)(hl:rs.length<1000000):
  Ev T 49 [.ptr Q 0,Zw n p] h (λv h'=>v= .tup []/\ ∃vl',h'.get Q=some (.cells false [vl'])/\NmL W n L b h' vl' (tF rs r)/\Fx (λq=>q=Q∨dO j q) h h'/\ ∀q,dO vl' q->dO j q∨h.next<=q):=by
 obtain⟨l,Z,al,_⟩:=m.ex
 obtain⟨o1,o2,o3⟩:=P.one
 have lp:=aM.length al
 refine cV uS rfl ?_
 obtain⟨B,hB⟩:=exI h.next
 obtain⟨A,e1,n1,g1,q1,K⟩:=dF hB [aC n,p.1,p.2.1,p.2.2]
 have a8:A.get Q=some (.cells false [j]):=by rw[K.get Q J];exact hQ
 simp(disch:=omega)only[go_sem,uS,aD,fZ h (a:= aC n) (b:=p.1) (c:=p.2.1) (d:=p.2.2) rfl o1 o2 o3,hB,e1,H.aF a8]
 have rl:=P.rk.short
 refine (FW j 104 [.ptr B 0] n l (λi=>decide (rs.getD i []=r)) A (Z.sv.mono K) om λi hi s f=>?_).mono ?_
 ·have mi:=aM.get al i hi om
  obtain⟨a1,a2,a3⟩:=mi.one
  have ri:=mi.rk.short
  have gB:s.get B=some (.cells false [aC n,p.1,p.2.1,p.2.2]):=by rw[f.get B om];exact g1
  refine cV sG rfl ?_
  obtain⟨C,hC⟩:=exI s.next
  obtain⟨g,N,n2,g2,q2,y⟩:=dF hC [aC n,l[i].1,l[i].2.1,l[i].2.2]
  have a5:g.get B=some (.cells false [aC n,p.1,p.2.1,p.2.2]):=by rw[y.get B (by have:=f.next;omega)];exact gB
  simp(disch:=omega)only[go_sem,sG,aD,fZ s (a:= aC n) (b:=l[i].1) (c:=l[i].2.1) (d:=l[i].2.2) rfl a1 a2 a3,hC,N,H.aF g2,H.aF a5]
  refine (Wr _ _ (zi rs[i]) (zi r) g (mi.si.mono (K.trans (f.trans y))) (P.si.mono (K.trans (f.trans y))) (by rw[aQ];omega) (by rw[aQ];omega)).mono ?_
  rintro _ O ⟨rfl,f3⟩
  simp(disch:=omega)only[go_sem]
  refine⟨?_,y.trans f3⟩
  congr 1
  rw[decide_eq_decide,agP,List.getD,dD om]
  rfl
 rintro _ g ⟨⟨c,rfl,hc⟩,y⟩
 have F2:=K.trans y
 have F:c=true↔r∈rs:=by
  rw[hc];constructor
  ·rintro⟨i,hi,e⟩
   rw[←of_decide_eq_true e];exact bD om
  ·intro hr
   obtain⟨i,hi,rfl⟩:=zF.1 hr;exact⟨i,om,bP (by rw[List.getD,dD hi];rfl)⟩
 have z:g.get Q=some (.cells false [j]):=by rw[F2.get Q J];exact hQ
 cases c with
 |true=>
  simp(disch:=omega)only[go_sem];refine⟨rfl,j,z,?_,Fx.of F2,λq h=> .inl h⟩;unfold tF;rw[bF (F.1 rfl)];exact m.mono F2
 |false=>
  have hn:r∉rs:=λh=>by have:=F.2 h;cases this
  have r4:g.row B 0 4=some [aC n,p.1,p.2.1,p.2.2]:=gU (by rw[y.get B om];exact g1);obtain⟨O,e3,n3,g3,q3⟩:=LF g (g.next+6) (g.next+11) [aC n,p.1,p.2.1,p.2.2]
  have a9:Fr g O:=⟨om,λq hq=>q3 q om⟩
  obtain⟨U,a4,G⟩:=((Z.fr (F2.trans a9)).le (iJ _)).push (bytes:=80) (SV.all (sz:=4) (len:=1) (vs:=Bt n p) rfl om g3 (.kn 1)) (n:=l.length) (m:=1) (mH n l) rfl om om om;have n4:=G.next;have b0:=F2.next;have vb: ∀id k m c,j= .sl id k m c->b<=id/\id<h.next:=λid k m c e=>by have:=Z.in _ _ _ _ e;omega
  have Y:dL j Q:=λid k m c e N=>a0 (by rw[e,N];exact⟨_,_,_,rfl⟩)
  have a6:U.get Q=some (.cells false [j]):=by rw[G.old Q om Y,q3 Q om];exact z
  have pt: ∀(s:H) (u w:V),dX (some (.cells false [u])) s Q 0 [w]=some (s.set Q (some (.cells false [w]))):=λs u w=>bN (by simp) s _ _
  simp(disch:=omega)only[go_sem,H.aF z,r4,WD (H.mk g.tr (g.next+6)) (a:= aC n) (b:=p.1) (c:=p.2.1) (d:=p.2.2) rfl o1 o2 o3,e3,a4,a6,pt];obtain⟨R,t⟩:=exI (U.set Q (some (Ob.cells false [V.sl O.next 0 (l.length+1) (lI.un 4)])));rw[t];have n5:R.next=U.next:=by rw[←t];rfl
  have o5: ∀q,q≠Q->R.get q=U.get q:=λq hq=>by rw[←t];exact H.aG _ hq _
  have fx:Fx (λq=>q=Q∨dO j q) h R:=⟨om,λq A g=>by
   rw[o5 q λe=>g (.inl e),G.old q om (λid k m c e N=>g (.inr (by rw[e,N];exact⟨_,_,_,rfl⟩))),q3 q om,F2.get q A]⟩
  have fw:Fx (λq=>W q∨dO j q) h R:=Fx.wide fx λq h=>h.imp (λe=>by rw[e];exact a7) id
  have wk: ∀q,q<h.next->(W q∨dO (V.sl O.next 0 (l.length+1) (lI.un 4)) q)->(W q∨dO j q):=λq A g=>g.elim .inl λ⟨k,m,c,e⟩=>by cases e;omega
  refine⟨rfl,_,rfl,?_,fx,λq ⟨k,m,c,e⟩=> .inr (by cases e;omega)⟩;unfold tF;rw[bI hn];refine⟨l++ [p],?_,aM.append (aM.mono (λ_ _ x=>Nm.go x fw wk) al) ⟨P.go fw wk,trivial⟩,λid k m c e=>?_⟩
  rotate_left
  ·cases e
   rw[o5 _ om,Wh];exact G.get
  rw[Wh];exact (G.own (mH n l) rfl om).mono om λq o m c e _ A=>o5 q (by cases e;omega)
theorem KG (u:V)(ws:List V)(m:Nat)(h:H)(a:ws.length=m*4)(y:0<m)(g:m<1000000)(d:SV h u 4 ws):
  Ev T 52 [u] h (λv h'=> ∃id cap rest,v= .sl id 0 m cap/\(cap= .un 4∨cap= .kn m/\rest= [])/\h.next<=id/\id<h'.next/\h'.get id=some (.cells false (ws++rest))/\Fr h h'):=by
 refine cV fO rfl ?_
 have l:Hg false u=some (.bool false):=by
  rcases d with ⟨_,rfl⟩|⟨id,r,len,cap,w,x,rfl,i⟩
  ·simp at a;omega
  ·rfl
 have b:Fr h (h.new (.cells false [])):=(Fr.refl h).new _
 have s:cY (h.new (.cells false [])) (.sl h.next 0 0 (.kn 0)) 4 [] h.next:=cY.new h 4 0 _ [] rfl (fM _)
 obtain⟨z,i,o,A⟩:=s.app (bytes:=80) (by rw[H.aU];omega) (d.mono b) (n:=0) (m:=m) rfl a om om
 have j:lQ h 4 [aC 0,.aE,.aE,.aE] 0 []=some (.sl h.next 0 0 (.kn 0),h.new (.cells false [])):=rfl
 simp(disch:=omega)only[go_sem,fO,aD,l,j,o]
 have fr:=A.fr _ b (fM _)
 rcases A.own with ⟨_,e⟩|⟨id,k,cap,rest,rfl,f,q,p,t,c⟩
 ·rw[List.nil_append] at e
  rw[e] at a
  simp at a;omega
 ·rw[List.nil_append] at f c
  obtain rfl:k=m:=Nat.eq_of_mul_eq_mul_right (by omega:0<4) (f.symm.trans a)
  exact⟨id,cap,rest,rfl,q,p,t,c,fr⟩
def nY {α:Type}(P:Nat->Bool)(l:List α):List α:=l.zipIdx.filterMap λx=>if P x.2 then none else some x.1
section
variable {α β:Type} {P:Nat->Bool}
theorem IE (l:List α)(a:α):nY P (l++ [a])=nY P l++if P l.length then [] else [a]:=by
 unfold nY;rw[List.zipIdx_append,List.filterMap_append];congr 1;simp only[List.zipIdx_singleton,Nat.zero_add,List.filterMap_cons,List.filterMap_nil];split
 ·rename_i h
  split at h
  ·rename_i c;rw[bF c]
  ·cases h
 ·rename_i b h
  split at h
  ·cases h
  ·rename_i c
   cases h;rw[bI c]
theorem qJ {l:List α}{i:Nat}(hi:i<l.length):nY P (l.take (i+1))=nY P (l.take i)++if P i then [] else [l[i]]:=by
 rw[List.take_succ_eq_append_getElem hi,IE,Fj,Nat.min_eq_left om]
theorem Jk {l:List α}: ∀{i:Nat},i<=l.length->(∀j,j<i->P j=false)->nY P (l.take i)=l.take i
 |0,_,_=>rfl
 |i+1,hi,h=>by
  rw[qJ om,Jk om λj a=>h j om,bI (by rw[h i om];exact Bool.false_ne_true),List.take_succ_eq_append_getElem om]
theorem BD {R:α->β->Prop}{l:List α}{m:List β}(a:aM R l m):aM R (nY P l) (nY P m):=by
 have c:=aM.length a
 have b: ∀i,i<=l.length->aM R (nY P (l.take i)) (nY P (m.take i)):=by
  intro i
  induction i with
  |zero=>exact λ_=>trivial
  |succ i ih=>
   intro hi;rw[qJ om,qJ om];refine aM.append (ih om) ?_;split
   ·trivial
   ·exact⟨aM.get a i om om,trivial⟩
 have:=b l.length (fM _);rwa [List.take_length,c,List.take_length] at this
end
section
variable {rest:List V} {k:Nat}
def VU (h:H)(sz:Nat)(zero:List V):V->Option (V×H)
 | .aE=>some (V.undef,h)
 | .emp _=>some (V.undef,h)
 | .sl id off len _=>if len=0 then some (V.undef,h) else
   if zero.length=sz/\zero.all V.one=true then (h.put id off (cX zero (len*sz))).map (λh'=>(V.undef,h')) else none
 |_=>none
theorem HG (ρ:X->V)(h:H)(sz:Nat)(zero:List V)(x:X):cI ρ h (.clr sz zero x)=VU h sz zero (ρ x):=by
 simp only[cI,VU]
 rfl
section
variable {α:Type} {f:α->List V} {s:Nat} (hf: ∀x,(f x).length=s)
include hf
theorem GI {ps:List α}{i:Nat}(hi:i<ps.length):sub (ps.flatMap f++rest) (i*s) s=some (f ps[i]):=by
 have e:=CD hf ps i hi;have l:=sM hf ps;have a:(i+1)*s<=ps.length*s:=Nat.mul_le_mul_right s om;rw[Nat.succ_mul] at a;unfold sub;rw[bF (by rw[jZ];omega),List.drop_append,List.take_append_of_le_length (by rw[AQ];omega)];exact congrArg some e
theorem GN {ps:List α}(d:k<ps.length)(p:α):putAt (ps.flatMap f++rest) (k*s) (f p)=some ((ps.set k p).flatMap f++rest):=by
 have l:=sM hf ps;have h:(k+1)*s<=ps.length*s:=Nat.mul_le_mul_right s om;rw[Nat.succ_mul] at h;have e:ps.take k++ [ps[k]]++ps.drop (k+1)=ps:=by rw[←List.take_succ_eq_append_getElem d,List.take_append_drop]
 have i:ps.set k p=ps.take k++ [p]++ps.drop (k+1):=by rw[List.set_eq_take_append_cons_drop,bF d,Ll];rfl
 have c:=sM hf (ps.take k);rw[Fj,Nat.min_eq_left om] at c;have a:=sM hf (ps.take k++ [ps[k]]);rw[jZ,Fj,Nat.min_eq_left om] at a;have a:((ps.take k++ [ps[k]]).flatMap f).length=(k+1)*s:=a;rw[Nat.succ_mul] at a;have b:ps.flatMap f++rest=(ps.take k++ [ps[k]]).flatMap f++((ps.drop (k+1)).flatMap f++rest):=by rw[←Ll,←List.flatMap_append,e]
 unfold putAt;rw[bF (by rw[jZ,l,hf];omega)];refine congrArg some ?_
 have g:(ps.flatMap f++rest).take (k*s)=(ps.take k).flatMap f:=by
  rw[b,List.flatMap_append,Ll,←c,List.take_left]
 have j:(ps.flatMap f++rest).drop (k*s+(f p).length)=(ps.drop (k+1)).flatMap f++rest:=by
  rw[b,hf,←a,List.drop_left]
 rw[g,j,i,List.flatMap_append,List.flatMap_append,Ll,Ll,Ll];simp
end
section
variable {n:Nat}
theorem YB {ps:List (V×V×V)}{i:Nat}(hi:i<ps.length):sub (zB n ps++rest) (i*4) 4=some (Bt n ps[i]):=GI (s:=4) (f:=Bt n) (λ_=>rfl) hi
theorem XD {ps:List (V×V×V)}(a:k<ps.length)(p:V×V×V):putAt (zB n ps++rest) (k*4) (Bt n p)=some (zB n (ps.set k p)++rest):=GN (s:=4) (f:=Bt n) (λ_=>rfl) a p
theorem aaA {id m:Nat}{a:lI}(d:a= .un 4∨a= .kn m/\rest= [])(b:k<=m): ∃off cap',xT 4 (.sl id 0 m a) (some (aC k)) none none=some (.sl id off (m-k) cap')/\(k<m->off=k*4):=by
 rcases d with rfl|⟨rfl,_⟩
 ·by_cases h:k<m
  ·exact⟨k*4,_,by simp [xT,oG,b,h];rfl,λ_=>rfl⟩
  ·exact⟨0,.un 4,by simp [xT,oG,b,h];omega,λc=>absurd c h⟩
 ·by_cases h:m=k
  ·exact⟨0,_,by simp [xT,oG,b,h];rfl,λc=>om⟩
  ·exact⟨k*4,_,by simp [xT,oG,b,h];rfl,λ_=>rfl⟩
theorem WU {id m:Nat}{a:lI}(c:a= .un 4∨a= .kn m/\rest= [])(b:k<=m)(d:0<m): ∃cap',xT 4 (.sl id 0 m a) none (some (aC k)) none=some (.sl id 0 k cap'):=by
 rcases c with rfl|⟨rfl,_⟩
 ·exact⟨_,by simp [xT,oG,b,d];rfl⟩
 ·exact⟨_,by simp [xT,oG,b,show m≠0 by omega];rfl⟩
end
theorem abI (id m:Nat)(r:lI)(rest:List V)(F:Nat)(cs:List V)(n:Nat)(ps:List (V×V×V))(P:Nat->Bool)(h:H)(K:id<h.next)(hg:h.get id=some (.cells false (zB n ps++rest)))(hc:r= .un 4∨r= .kn m/\rest= [])(hm:ps.length=m)(h0:0<m)(y:m<1000000)(one: ∀p∈ps,p.1.one=true/\p.2.1.one=true/\p.2.2.one=true)(hf: ∀i (hi:i<ps.length) hh,Fx (· =id) h hh->Ev T F (Zw n ps[i]::cs) hh (λv h'=>v= .bool (P i)/\Fr hh h')):
  Ev T 51 [.sl id 0 m r,.fn F [] cs] h (λv h'=>SV h' v 4 (zB n (nY P ps))/\Fx (· =id) h h'):=by
 refine cV eD rfl ?_
 have sv:SV h (.sl id 0 m r) 4 (zB n ps):= .inr ⟨id,0,m,r,false,_,rfl,by rw[mH,hm],K,hg,by rw[jZ,mH];omega,by rw[List.drop_zero,List.take_append_of_le_length (by rw[mH];omega),←hm,←mH n ps,List.take_length]⟩
 simp(disch:=omega)only[go_sem,eD,aD]
 refine (FD _ F cs n ps P h sv om λi hi hh f=>hf i hi hh (Fx.of f)).mono ?_
 rintro _ t ⟨k,rfl,G,R⟩
 rcases G with ⟨rfl,hn⟩|⟨U,a4,rfl,W,hn⟩
 ·simp(disch:=omega)only[go_sem,eq_self,decide_true]
  have e:nY P ps=ps:=by
   have:=Jk (P:=P) (l:=ps) (fM _) hn;rwa [List.take_length] at this
  rw[e]
  exact⟨sv.mono R,Fx.of R⟩
 have d0:decide ((U:Int)= -1)=false:=bH om
 simp(disch:=omega)only[go_sem,d0]
 rw[eJ U]
 refine aH (λk' w hh=> ∃(i k:Nat) (o:List (V×V×V)),(∃g:Nat->V,w= [.sl id 0 m r,.fn F [] cs,g 2,aC k,aC i,g 5,g 6,g 7,g 8])/\i<=m/\o.length=m/\k<=i/\o.take k=nY P (ps.take i)/\o.drop i=ps.drop i/\hh.get id=some (.cells false (zB n o++rest))/\Fx (· =id) h hh/\k'=m-i) (m-(U+1))
  ⟨U+1,U,ps,aB rfl,om,hm,om,?_,rfl,by rw[R.get id K];exact hg,Fx.of R,rfl⟩ ?_
 ·rw[qJ a4,Jk om hn,bF W,vF]
 clear hn W d0 R
 rintro k' w hh ⟨i,k,o,⟨g,rfl⟩,hi,lc,ki,G,hd,gc,F2,rfl⟩
 by_cases Y:(i:Int)<(m:Int)
 case neg=>
  have d1:=bH Y;obtain rfl:i=m:=om
  obtain⟨a1,cp,s1,s2⟩:=aaA (id:=id) hc ki;obtain⟨Q,s3⟩:=WU (id:=id) hc ki h0;rw[←hm,List.take_length] at G;have n2:=F2.next;have l4:=mH n o
  have O: ∀z u,z.next=hh.next->z.get id=some (.cells false u)->u.take (k*4)=zB n (o.take k)->k*4<=u.length->SV z (.sl id 0 k Q) 4 (zB n (nY P ps)):=λz u e1 e2 e3 e4=>by
   rw[←G];exact .inr ⟨id,0,k,Q,false,u,rfl,by rw[mH,Fj];rw[Nat.min_eq_left om],om,e2,om,by rw[List.drop_zero];exact e3⟩
  have t4:(zB n o++rest).take (k*4)=zB n (o.take k):=by
   have e:zB n o=zB n (o.take k)++zB n (o.drop k):=by rw[←Wh,List.take_append_drop]
   have l1:=mH n (o.take k);rw[Fj,Nat.min_eq_left om] at l1;rw[e,Ll,List.take_append_of_le_length om,←l1,List.take_length]
  by_cases e:k=i
  ·have cz:VU hh 4 [aC 0,.aE,.aE,.aE] (.sl id a1 (i-k) cp)=some (V.undef,hh):=by simp [VU,e]
   simp(disch:=omega)only[go_sem,d1,s1,HG,cz,s3];exact⟨O hh _ rfl gc t4 (by rw[jZ];omega),F2⟩
  ·obtain rfl:=s2 om
   have zl:(cX [aC 0,.aE,.aE,.aE] ((i-k)*4)).length=(i-k)*4:=by simp [cX]
   obtain⟨u,A⟩:=exI ((zB n o++rest).take (k*4)++cX [aC 0,.aE,.aE,.aE] ((i-k)*4)++(zB n o++rest).drop (k*4+(i-k)*4));have ik:k*4+(i-k)*4=i*4:=by rw[←Nat.add_mul];congr 1;omega
   have pa:putAt (zB n o++rest) (k*4) (cX [aC 0,.aE,.aE,.aE] ((i-k)*4))=some u:=by
    unfold putAt;rw[zl,bF (by rw[jZ];omega),A]
   have a0:((zB n o++rest).take (k*4)).length=k*4:=by rw[Fj,Nat.min_eq_left (by rw[jZ];omega)]
   have tv:u.take (k*4)=zB n (o.take k):=by rw[←A,Ll,List.take_append_of_le_length om,Tn om,t4]
   have cz:VU hh 4 [aC 0,.aE,.aE,.aE] (.sl id (k*4) (i-k) cp)=some (V.undef,hh.set id (some (.cells false u))):=by
    show (if i-k=0 then _ else if _ then _ else none)=_;rw[bI om,bF ⟨rfl,rfl⟩];unfold H.put;rw[gc];simp only[pa,Option.map_some]
   simp(disch:=omega)only[go_sem,d1,s1,HG,cz,s3];exact⟨O _ u rfl (H.aS _ _ _) tv (by rw[←A,jZ,jZ,a0];omega),⟨n2,λq y t=>by rw[H.aG _ t];exact F2.get q y t⟩⟩
 have d1:=bP Y
 have a3:i<m:=om
 have ix: ∀j:Nat,j<m->Dz 4 (.sl id 0 m r) (aC j)=some (.ptr id (j*4)):=λj hj=>by simp [Dz,hj]
 have lP:i<ps.length:=om
 have ci:o[i]'om=ps[i]:=by
  have:=congrArg (λl=>l[0]?) hd;simp only[List.getElem?_drop,Nat.add_zero] at this;rw[dD om,dD lP] at this;exact Option.some.inj this
 have Z:hh.row id (i*4) 4=some (Bt n ps[i]):=by
  rw[←ci];unfold H.row;rw[gc];exact YB om
 obtain⟨o1,o2,o3⟩:=one _ (zG lP)
 have fi:=hf i lP
 have L:nY P (ps.take (i+1))=nY P (ps.take i)++if P i then [] else [ps[i]]:=qJ lP
 generalize ps[i]=p at Z o1 o2 o3 fi L ci
 obtain⟨B,hB⟩:=exI hh.next
 obtain⟨z,e3,n3,g3,q3,f3⟩:=dF hB [aC 0,.aE,.aE,.aE]
 obtain⟨h4,e4,n4,g4,q4⟩:=pJ z B (Bt n p)
 have n2:=F2.next
 have N:Fr hh h4:=⟨om,λq hq=>by rw[q4 q om,q3 q om]⟩
 have F4:Fx (· =id) h h4:=⟨om,λq y t=>by rw[N.get q om];exact F2.get q y t⟩
 simp(disch:=omega)only[go_sem,d1,ix i a3,Z,hB,e3,kL z B 0 (a:= aC n) (b:=p.1) (c:=p.2.1) (d:=p.2.2) rfl o1 o2 o3,g3,jS,e4,gU g4]
 refine (fi h4 F4).mono ?_
 rintro _ J ⟨rfl,f5⟩
 have F5:Fx (· =id) h J:=⟨by have:=f5.next;omega,λq y t=>by rw[f5.get q om];exact F4.get q y t⟩
 have g5:J.get id=some (.cells false (zB n o++rest)):=by rw[f5.get id om,N.get id om];exact gc
 have a2:J.get B=some (.cells false (Bt n p)):=by rw[f5.get B om];exact g4
 cases W:P i with
 |true=>
  rw[W,bF rfl,vF] at L;simp(disch:=omega)only[go_sem];rw[eJ i];exact⟨m-(i+1),om,i+1,k,o,aB rfl,om,lc,om,by rw[G,L],by rw[←List.drop_drop,hd,List.drop_drop],g5,F5,rfl⟩
 |false=>
  rw[W,bI (by simp)] at L
  have pt:dX (some (.cells false (zB n o++rest))) J id (k*4) (Bt n p)=some (J.set id (some (.cells false (zB n (o.set k p)++rest)))):=by
   have:=XD (n:=n) (ps:=o) (rest:=rest) (k:=k) om p;simp only[dX,this,Option.map_some]
  simp(disch:=omega)only[go_sem,gU a2,ix k om,kL J id (k*4) (a:= aC n) (b:=p.1) (c:=p.2.1) (d:=p.2.2) rfl o1 o2 o3,g5,pt];rw[show (i:Int)+1=((i+1:Nat):Int) from om,show (k:Int)+1=((k+1:Nat):Int) from om];have lk:k<o.length:=om
  refine⟨m-(i+1),om,i+1,k+1,o.set k p,aB rfl,om,by rw[List.length_set];exact lc,om,?_,?_,rfl,⟨by have:=F5.next;simp only[H.bY];omega,λq y t=>by rw[H.aG _ t];exact F5.get q y t⟩,rfl⟩
  ·rw[List.take_succ_eq_append_getElem (by rw[List.length_set];exact lk),List.getElem_set_self,List.take_set_of_le (fM _),G,L]
  ·rw[List.drop_set_of_lt om,←List.drop_drop,hd,List.drop_drop]
end
def Hx:List Nat->List Nat->Int
 | [], []=>0
 | [],_::_=> -1
 |_::_, []=>1
 |a::l,b::m=>if a=b then Hx l m else Cls.rQ a b
theorem Uq: ∀(a b:List Nat),Hx a b<0↔kP a b=true
 | [], []=>by simp [Hx,kP]
 | [],_::_=>by simp [Hx,kP]
 |_::_, []=>by simp [Hx,kP]
 |a::l,b::m=>by
  unfold Hx kP;split
  ·exact Uq l m
  ·unfold Cls.rQ
   rw[Qf];split
   ·omega
   ·split<;>omega
theorem XV (x B:V)(a b:List Nat)(h:H)(J:SI h x (zi a))(P:SI h B (zi b))(R:a.length<1000000)(U:b.length<1000000):
  Ev T 109 [x,B] h (λv h'=>v= aC (Hx a b)/\Fr h h'):=by
 refine cV mX rfl ?_
 have w:=J.lens
 have lb:=P.lens
 rw[aQ] at w lb
 obtain⟨id,G,y,o,O⟩:=J.open
 obtain⟨z,r,u,l,q⟩:=P.open
 rw[aQ] at y o O u l q
 simp(disch:=omega)only[go_sem,mX,aD,w,lb]
 refine aH (λL k p=> ∃(i:Nat),(∃g:Nat->V,k= [x,B,g 2,g 3,g 4,g 5,g 6,x,aC (a.length:Int),aC i,g 10,g 11,g 12,g 13])/\i<=a.length/\i<=b.length/\Hx a b=Hx (a.drop i) (b.drop i)/\Fr h p/\L=a.length-i) a.length
  ⟨0,aB rfl,iJ _,iJ _,rfl,Fr.refl h,rfl⟩ ?_
 rintro L k p ⟨i,⟨g,rfl⟩,hi,W,c,f,rfl⟩
 by_cases s:(i:Int)<(a.length:Int)
 case neg=>
  have t:=bH s;rw[List.drop_eq_nil_of_le om] at c
  by_cases n:(a.length:Int)<(b.length:Int)
  ·have m:=bP n
   rw[AR (show i<b.length by omega)] at c;simp(disch:=omega)only[go_sem,t,w,lb,m];exact⟨by rw[c];rfl,f⟩
  ·have m:=bH n
   rw[List.drop_eq_nil_of_le om] at c;simp(disch:=omega)only[go_sem,t,w,lb,m];exact⟨by rw[c];rfl,f⟩
 have t:=bP s
 have j:i<a.length:=om
 have F:p.cell id (G+i)=some (aC (a.getD i 0:Nat)):=by rw[f.cell (o om),O i j];congr 2;simp [zi,j]
 rw[AR j] at c
 have Q:a.getD i 0=a[i]:=by rw[List.getD,dD j];rfl
 by_cases n:(b.length:Int)<=(i:Int)
 ·have m:=bP n
  rw[show b.drop i= [] from List.drop_eq_nil_of_le om] at c
  simp(disch:=omega)only[go_sem,t,y.ixa,F,lb,m]
  exact⟨by rw[c];rfl,f⟩
 have m:=bH n
 have d:i<b.length:=om
 have K:p.cell z (r+i)=some (aC (b.getD i 0:Nat)):=by rw[f.cell (l om),q i d];congr 2;simp [zi,d]
 rw[AR d] at c
 have Y:b.getD i 0=b[i]:=by rw[List.getD,dD d];rfl
 rw[Q] at F
 rw[Y] at K
 simp(disch:=omega)only[go_sem,t,y.ixa,F,lb,m,u.ixa,K]
 refine (Cls.yD _ _ p).mono ?_
 rintro _ Z ⟨rfl,N⟩
 rw[show Hx (a[i]::a.drop (i+1)) (b[i]::b.drop (i+1))=if a[i]=b[i] then Hx (a.drop (i+1)) (b.drop (i+1)) else Cls.rQ a[i] b[i] from rfl] at c
 by_cases e:a[i]=b[i]
 ·rw[bF e] at c
  have A:decide (Cls.rQ (a[i]:Int) (b[i]:Int)≠0)=false:=bH (by rw[e];unfold Cls.rQ;rw[bI om,bI om];omega)
  simp(disch:=omega)only[go_sem,A]
  rw[eJ i]
  exact⟨a.length-(i+1),om,i+1,aB rfl,om,om,c,f.trans N,rfl⟩
 ·rw[bI e] at c
  have A:decide (Cls.rQ (a[i]:Int) (b[i]:Int)≠0)=true:=bP (by unfold Cls.rQ;split;omega;split<;>omega)
  simp(disch:=omega)only[go_sem,A]
  exact⟨by rw[c],f.trans N⟩
section
variable {W W':Nat->Prop} {L:LN} {h:H} {p q:V×V×V} {a b:List Nat}
theorem ET (n:Nat)(N:L.length<=5040)(j:Nm W n L h p a)(i:Nm W' n L h q b):
  Ev T 58 [Zw n p,Zw n q] h (λv h'=>v= aC (Hx a b)/\Fr h h'):=by
 obtain⟨F,y,w⟩:=j.one
 obtain⟨o,u,x⟩:=i.one
 have Q:=j.rk.short
 have lb:=i.rk.short
 refine cV yR rfl ?_
 obtain⟨B,m⟩:=exI h.next
 obtain⟨z,G,l,r,O,f⟩:=dF m [aC n,p.1,p.2.1,p.2.2]
 obtain⟨k,A,P,s,J,g⟩:=dF l [aC n,q.1,q.2.1,q.2.2]
 have e:k.get B=some (.cells false (Bt n p)):=by rw[J B om];exact r
 simp(disch:=omega)only[go_sem,yR,aD,fZ h (a:= aC n) (b:=p.1) (c:=p.2.1) (d:=p.2.2) rfl F y w,m,G,fZ z (a:= aC n) (b:=q.1) (c:=q.2.1) (d:=q.2.2) rfl o u x,l,A,H.aF e,H.aF s]
 refine (XV _ _ a b k (j.si.mono (f.trans g)) (i.si.mono (f.trans g)) om om).mono ?_
 rintro _ K ⟨rfl,t⟩
 simp(disch:=omega)only[go_sem]
 exact f.trans (g.trans t)
theorem aaV (n:Nat)(hL:L.length<=5040)(y:Nm W n L h p a)(w:Nm W' n L h q b):
  Ev T 56 [Zw n p,Zw n q] h (λv h'=>v= .bool (a.all λi=>decide (i∈b))/\Fr h h'):=by
 obtain⟨o1,o2,o3⟩:=y.one
 obtain⟨u1,u2,u3⟩:=w.one
 have la:=y.rk.short
 have lb:=w.rk.short
 refine cV yW rfl ?_
 obtain⟨B,J⟩:=exI h.next
 obtain⟨h1,e1,O,Z,q1,f1⟩:=dF J [aC n,p.1,p.2.1,p.2.2]
 obtain⟨A,e2,n2,g2,q2,f2⟩:=dF O [aC n,q.1,q.2.1,q.2.2]
 have z:A.get B=some (.cells false (Bt n p)):=by rw[q2 B om];exact Z
 have F2:=f1.trans f2
 have N:=y.si.lens
 rw[aQ] at N
 obtain⟨id,G,K,m,U⟩:=y.si.open
 rw[aQ] at K m U
 simp(disch:=omega)only[go_sem,yW,aD,fZ h (a:= aC n) (b:=p.1) (c:=p.2.1) (d:=p.2.2) rfl o1 o2 o3,J,e1,fZ h1 (a:= aC n) (b:=q.1) (c:=q.2.1) (d:=q.2.2) rfl u1 u2 u3,O,e2,H.aF z,N]
 refine aH (λP l o=> ∃(i:Nat),(∃g:Nat->V,l= [g 0,g 1,g 2,.ptr (B+1) 0,.bool false,g 5,g 6,p.2.2,aC (a.length:Int),aC i,g 10,g 11])/\i<=a.length/\(∀j (u:j<i) (Y:j<a.length),a[j]∈b)/\Fr A o/\P=a.length-i) a.length
  ⟨0,aB rfl,iJ _,λj u=>om,Fr.refl A,rfl⟩ ?_
 rintro P l o ⟨i,⟨g,rfl⟩,hi,R,f,rfl⟩
 by_cases s:(i:Int)<(a.length:Int)
 case neg=>
  have F:=bH s;simp(disch:=omega)only[go_sem,F];refine⟨?_,F2.trans f⟩;congr 1;refine (Kv.2 λx hx=>?_).symm;obtain⟨j,u,rfl⟩:=zF.1 hx;exact bP (R j om u)
 have F:=bP s
 have r:i<a.length:=om
 have c1:o.cell id (G+i)=some (aC (a[i]:Nat)):=by rw[(F2.trans f).cell (m om),U i r];congr 2;simp [zi,r]
 have gq:o.get (B+1)=some (.cells false (Bt n q)):=by rw[f.get _ om];exact g2
 simp(disch:=omega)only[go_sem,F,K.ixa,c1,H.aF gq]
 refine (Es q.2.2 b a[i] o om w.rk.asc (w.si.mono (F2.trans f))).mono ?_
 rintro _ h3 ⟨k,c,rfl,t,_,Q⟩
 cases c with
 |true=>
  simp(disch:=omega)only[go_sem,Bool.not_true];rw[eJ i]
  exact⟨a.length-(i+1),om,i+1,aB rfl,om,λj u Y=>by
   by_cases e:j=i
   ·subst e;exact t.1 rfl
   ·exact R j om Y,f.trans Q,rfl⟩
 |false=>
  simp(disch:=omega)only[go_sem,Bool.not_false];refine⟨?_,F2.trans (f.trans Q)⟩;congr 1;refine (List.all_eq_false.2 ⟨a[i],zG _,?_⟩).symm;rw[Qf];exact λh=>by have:=t.2 h;cases this
theorem abG (n B:Nat)(F:L.length<=5040)(k:Nm W n L h p a)(j:Nm W' n L h q b)(J:h.get B=some (.cells false (Bt n q)))(Q:B<h.next):
  Ev T 55 [Zw n p,.ptr B 0] h (λv h'=>v= .bool (decide (a.length<b.length)&&a.all λi=>decide (i∈b))/\Fr h h'):=by
 obtain⟨y,x,w⟩:=k.one
 obtain⟨N,R,Y⟩:=j.one
 have U:=k.rk.short
 have lb:=j.rk.short
 refine cV nH rfl ?_
 obtain⟨C,o⟩:=exI h.next
 obtain⟨K,z,P,m,G,g⟩:=dF o [aC n,p.1,p.2.1,p.2.2]
 have s:B≠C:=om
 have e:K.get B=some (.cells false (Bt n q)):=by rw[G B s];exact J
 have u:=k.si.lens
 rw[aQ] at u
 have l:=j.si.lens
 rw[aQ] at l
 by_cases f:(a.length:Int)<(b.length:Int)
 case neg=>
  have t:=bH f;have r:decide (a.length<b.length)=false:=bH om;simp(disch:=omega)only[go_sem,nH,aD,fZ h (a:= aC n) (b:=p.1) (c:=p.2.1) (d:=p.2.2) rfl y x w,o,z,H.aF e,H.aF m,u,l,t,r,Bool.false_and];exact g
 ·have t:=bP f
  have r:decide (a.length<b.length)=true:=bP om
  simp(disch:=omega)only[go_sem,nH,aD,fZ h (a:= aC n) (b:=p.1) (c:=p.2.1) (d:=p.2.2) rfl y x w,o,z,H.aF e,H.aF m,u,l,t,gU e,gU m]
  refine (aaV n F (k.mono g) (j.mono g)).mono ?_
  rintro _ O ⟨rfl,A⟩
  simp(disch:=omega)only[go_sem,r,Bool.true_and]
  exact g.trans A
end
section
variable {W W':Nat->Prop} {L:LN} {h:H}
theorem adF {p:V×V×V}{r:List Nat}(n k Q:Nat)(j:V)(ps:List (V×V×V))(rs:LN)(y:L.length<=5040)(hl:rs.length<1000000)(G:h.get k=some (.cells false [.ptr Q 0]))(n8:k<h.next)(A:h.get Q=some (.cells false [j]))(U:Q<h.next)(sv:SV h j 4 (zB n ps))(al:aM (Nm W n L h) ps rs)(m:Nm W' n L h p r):
  Ev T 53 [Zw n p,.ptr k 0] h (λv h'=>v= .bool (Yc rs r)/\Fr h h'):=by
 obtain⟨N,J,F⟩:=m.one
 have Y:=aM.length al
 refine cV xC rfl ?_
 obtain⟨B,t⟩:=exI h.next
 obtain⟨q,O,R,u,s,g⟩:=dF t [aC n,p.1,p.2.1,p.2.2]
 have l:q.get k=some (.cells false [.ptr Q 0]):=by rw[s _ om];exact G
 have o:q.get Q=some (.cells false [j]):=by rw[s _ om];exact A
 simp(disch:=omega)only[go_sem,xC,aD,fZ h (a:= aC n) (b:=p.1) (c:=p.2.1) (d:=p.2.2) rfl N J F,t,O,H.aF l,H.aF o]
 refine (FW j 55 [.ptr B 0] n ps (λi=>decide ((rs.getD i []).length<r.length)&&(rs.getD i []).all λi=>decide (i∈r)) q (sv.mono g) om λi hi Z f=>?_).mono ?_
 ·have w:=(aM.get al i hi om).mono (g.trans f)
  rw[List.getD,dD om,Option.getD_some]
  exact abG n B y w (m.mono (g.trans f)) (by rw[f.get B om];exact u) (by have:=f.next;omega)
 rintro _ P ⟨⟨b,rfl,K⟩,z⟩
 simp(disch:=omega)only[go_sem]
 refine⟨?_,g.trans z⟩
 congr 1
 refine Py.2 (K.trans ?_)
 unfold Yc
 rw[List.any_eq_true]
 constructor
 ·rintro⟨i,hi,e⟩
  exact⟨_,bD om,e⟩
 ·rintro⟨x,hx,e⟩
  obtain⟨i,hi,rfl⟩:=zF.1 hx
  exact⟨i,om,by rw[List.getD,dD hi];exact e⟩
theorem OB {rs:LN}{i:Nat}(c:1<=i)(hi:i<rs.length):NH (rs.take (i+1))=if kP rs[i] (NH (rs.take i)) then rs[i] else NH (rs.take i):=by
 cases rs with
 |nil=>simp at hi
 |cons a l=>
  obtain⟨k,rfl⟩: ∃k,i=k+1:=⟨i- 1,om⟩
  have b:k<l.length:=by simpa using hi
  show (l.take (k+1)).foldl _ a=_;rw[List.take_succ_eq_append_getElem b,List.foldl_append]
  rfl
theorem aaF (n:Nat)(vl:V)(ps:List (V×V×V))(rs:LN)(hL:L.length<=5040)(hl:rs.length<1000000)(h0:0<rs.length)(sv:SV h vl 4 (zB n ps))(al:aM (Nm W n L h) ps rs):
  Ev T 57 [vl,.fn 58 [] []] h (λv h'=>(∃i,∃hi:i<ps.length,v=Zw n ps[i]/\rs.getD i []=NH rs)/\Fr h h'):=by
 have lp:=aM.length al
 have P:=zP sv
 have R:0<ps.length:=om
 have one: ∀j (r:j<ps.length),ps[j].1.one=true/\ps[j].2.1.one=true/\ps[j].2.2.one=true:=λj r=>(aM.get al j r om).one
 have d0:decide ((ps.length:Int)<1)=false:=bH om
 refine cV eX rfl ?_
 obtain⟨B,hB⟩:=exI h.next
 obtain⟨h1,e1,n1,g1,q1,t⟩:=dF hB [aC 0,.aE,.aE,.aE]
 have w:=(Lu (sv.mono t) R)
 obtain⟨id,a4,sh,row,_⟩:=w
 obtain⟨h2,e2,n2,g2,q2,f2⟩:=dF n1 [aC 0,.aE,.aE,.aE]
 obtain⟨h3,e3,n3,g3,q3⟩:=pJ h2 (B+1) (Bt n ps[0])
 obtain⟨o1,o2,o3⟩:=one 0 R
 have ix:=sh.ixa .i64 0 om om
 simp only[Int.toNat_zero] at ix
 simp(disch:=omega)only[go_sem,eX,aD,hB,e1,P,d0,ix,row,n1,e2,kL h2 (B+1) 0 (a:= aC n) (b:=ps[0].1) (c:=ps[0].2.1) (d:=ps[0].2.2) rfl o1 o2 o3,g2,jS,e3]
 have A:Fr h1 h3:=⟨om,λq J=>by rw[q3 q om,q2 q om]⟩
 have F3:=t.trans A
 refine aH (λk' p m=> ∃(i j:Nat),(∃g:Nat->V,p= [vl,.fn 58 [] [],.ptr B 0,.ptr (B+1) 0,aC i,g 5,g 6,g 7])/\1<=i/\i<=ps.length/\(∃r:j<ps.length,m.get (B+1)=some (.cells false (Bt n ps[j])))/\rs.getD j []=NH (rs.take i)/\B+1<m.next/\Fr h1 m/\k'=ps.length-i) (ps.length- 1)
  ⟨1,0,aB rfl,om,om,⟨R,g3⟩,?_,om,A,rfl⟩ ?_
 ·cases rs with
  |nil=>simp at h0
  |cons a l=>rfl
 rintro k' p m ⟨i,j,⟨g,rfl⟩,a0,hi,⟨r,gj⟩,K,nB,f,rfl⟩
 have gB:m.get B=some (.cells false [aC 0,.aE,.aE,.aE]):=by rw[f.get B om];exact g1
 obtain⟨w1,w2,w3⟩:=one j r
 by_cases G:(i:Int)<(ps.length:Int)
 case neg=>
  have Z:=bH G;obtain rfl:i=ps.length:=om
  obtain⟨y,e4,n4,g4,q4⟩:=pJ m B (Bt n ps[j]);rw[lp,List.take_length] at K;simp(disch:=omega)only[go_sem,P,Z,gU gj,kL m B 0 (a:= aC n) (b:=ps[j].1) (c:=ps[j].2.1) (d:=ps[j].2.2) rfl w1 w2 w3,gB,jS,e4,gU g4];exact⟨⟨j,r,rfl,K⟩,⟨by have:=(t.trans f).next;omega,λq J=>by rw[q4 q om,(t.trans f).get q J]⟩⟩
 have Z:=bP G
 have o:i<ps.length:=om
 obtain⟨Y,F,z,s,Q⟩:=Lu (sv.mono (t.trans f)) o
 have mi:=aM.get al i o om
 have mj:=aM.get al j r om
 have U: ∀k,m.next<=k->Fr m (H.mk m.tr k):=λk hk=>(Fr.refl m).bA hk
 simp(disch:=omega)only[go_sem,P,Z,z.ixa,s,gU gj]
 refine (ET n hL (mi.mono ((t.trans f).trans (U _ om))) (mj.mono ((t.trans f).trans (U _ om)))).mono ?_
 rintro _ y ⟨rfl,f4⟩
 have e:=(U _ om).trans f4
 have u:y.get (B+1)=some (.cells false (Bt n ps[j])):=by rw[e.get _ nB];exact gj
 have r4:y.row Y (F+i*4) 4=some (Bt n ps[i]):=by rw[DL e Q];exact s
 have ei:=mi.eq
 have ej:=mj.eq
 simp(disch:=omega)only[go_sem,gU u,r4,ei.1,ei.2.1,ei.2.2,ej.1,ej.2.1,ej.2.2]
 have N:=OB (rs:=rs) a0 om
 have lx:=Uq rs[i] rs[j]
 have x:rs[j]=NH (rs.take i):=by rw[←K,List.getD,dD om];rfl
 have n4:=e.next
 by_cases O:Hx rs[i] rs[j]<0
 ·have d2:=bP O
  rw[bF (by rw[←x];exact lx.1 O)] at N
  obtain⟨a1,a2,a3⟩:=one i o
  obtain⟨h5,e5,n5,g5,q5⟩:=pJ y (B+1) (Bt n ps[i])
  simp(disch:=omega)only[go_sem,d2,z.ixa,r4,kL y (B+1) 0 (a:= aC n) (b:=ps[i].1) (c:=ps[i].2.1) (d:=ps[i].2.2) rfl a1 a2 a3,u,jS,e5]
  rw[eJ i]
  exact⟨ps.length-(i+1),om,i+1,i,aB rfl,om,om,⟨o,g5⟩,by rw[N,List.getD,dD om];rfl,om,⟨by have:=f.next;omega,λq J=>by rw[q5 q om,e.get q (by have:=f.next;omega),f.get q J]⟩,rfl⟩
 ·have d2:=bH O
  rw[bI (by rw[←x];exact λh=>O (lx.2 h))] at N
  simp(disch:=omega)only[go_sem,d2]
  rw[eJ i]
  exact⟨ps.length-(i+1),om,i+1,j,aB rfl,om,om,⟨r,u⟩,by rw[N];exact K,om,f.trans e,rfl⟩
end
structure xJ (n:Nat)(G:List Nat->Prop)(L:LN)(r:List Nat):Prop where
 rk:Rk L (RG L r) r
 dN:iX n (RG L r)
 nm: ∀y g,RG L r y->G g->RG L r (cW y g)
 le: ∀x,RG L r x->G x
section
variable {n:Nat} {G:List Nat->Prop} {L:LN} {K r:List Nat} {i:Nat} (hG:iX n G) (E:dW G L)
include hG E
omit hG in
theorem xJ.Pz {N:List Nat->Prop}(b:iX n N)(le: ∀x,N x->G x)(a: ∀y g,N y->G g->N (cW y g)):xJ n G L (Pz L N):=by
 have k:=Dy L N;have e:N=RG L (Go.Proofs.YtcdbmkidaecdiaaGreat.Pz L N):=funext λx=>propext (k.iff E le x)
 exact⟨k.self E,by rw[←e];exact b,by rw[←e];exact a,by rw[←e];exact le⟩
theorem WA:xJ n G L (Pz L λx=>x=bL n):=
 xJ.Pz E (Vu n) (λx h=>by rw[h];exact hG.one) λy g a b=>by rw[a];exact Ro (hG.cU b)
theorem Rj (k:xJ n G L r)(hi:i<L.length):xJ n G L (Aw n G L r i):=by
 have a:=oS E hi;exact xJ.Pz E (Lb.dN hG k.le a) (λx h=>Lb.le hG k.le a h) λy g b c=>NC.cj b c
omit hG E in
theorem Bj (j:Nat):j∈Aw n G L r i↔j<L.length/\Lb n G (RG L r) (L.getD i []) (L.getD j []):=(Dy L _).mem j
omit hG E in
theorem Gw (k:xJ n G L r)(hi:i<L.length)(d:i∉r):(∀x∈r,x∈Aw n G L r i)/\i∈Aw n G L r i/\r.length<(Aw n G L r i).length:=by
 have a: ∀x∈r,x∈Aw n G L r i:=λx c=>(Bj x).2 ⟨((k.rk.mem x).1 c).1,NC.of (.inl ⟨x,c,rfl⟩)⟩
 have b:i∈Aw n G L r i:=(Bj i).2 ⟨hi,NC.of (.inr rfl)⟩;refine⟨a,b,?_⟩;have nd:(i::r).Nodup:=List.nodup_cons.2 ⟨d,k.rk.asc.imp λh=>Nat.ne_of_lt h⟩
 have:=List.Nodup.length_le_of_subset (l₂:=Aw n G L r i) nd λx c=>by
  rcases zH.1 c with rfl|c
  ·exact b
  ·exact a x c
 rw[List.length_cons] at this;omega
theorem adC (k:xJ n G L r)(m:Cm n G L K)(q:r.length<L.length):XC n G L r K≠ []:=by
 intro e
 have all: ∀i,i∈K->i∈r:=λi hi=>Jg λl=>by
  have:Aw n G L r i∈XC n G L r K:=Ft.2 ⟨i,hi,l,rfl⟩;rw[e] at this;cases this
 have: ∀j,j<L.length->j∈r:=λj a=>by
  obtain⟨s,p,d,g,f,e⟩:=Vo hG E a;have h:s∈K:=m.perm.mem_iff.2 (kV.2 ⟨om,d⟩);obtain⟨t,b,o⟩:=k.nm _ _ ⟨s,all s h,rfl⟩ f;have:t=j:=yK E.nodup ((k.rk.mem t).1 b).1 a (o.trans e);rw[←this];exact b
 have:=List.Nodup.length_le_of_subset (l₁:=List.range L.length) (l₂:=r) List.nodup_range λx c=>this x (Gu.1 c)
 rw[NM] at this;omega
theorem Fv (k:xJ n G L r)(l:Cm n G L K)(u:r.length<L.length):(∃i,i∈K/\i∉r/\Pw n G L K r=Aw n G L r i)/\xJ n G L (Pw n G L K r)/\r.length<(Pw n G L K r).length/\
  ∀j,j∈K->j∉r->(∀x∈Aw n G L r j,x∈Pw n G L K r)->Aw n G L r j=Pw n G L K r:=by
 have p:=aaS (TM (adC hG E k l u))
 have e:NH (IN (XC n G L r K))=Pw n G L K r:=rfl
 rw[e] at p
 obtain⟨v,s⟩:=CH.1 p
 obtain⟨i,hi,c,e⟩:=Ft.1 v
 have a:=l.lt hi
 refine⟨⟨i,hi,c,e⟩,by rw[e];exact Rj hG E k a,by rw[e];exact (Gw k a c).2.2,λj o f b=>?_⟩
 have q:=(Rj hG E k (l.lt o)).rk
 have t:Rk L (RG L (Pw n G L K r)) (Pw n G L K r):=by rw[e];exact (Rj hG E k a).rk
 have m:=q.asc.imp λh=>Nat.ne_of_lt h
 have w:=List.Nodup.length_le_of_subset m b
 have z:(Pw n G L K r).length<=(Aw n G L r j).length:=by
  refine Nat.le_of_not_lt λh=>?_
  rw[Bool.not_eq_true'] at s;have:=List.any_eq_false.1 s _ (Ft.2 ⟨j,o,f,rfl⟩);rw[vN,Qf,Kv] at this;exact this ⟨h,λx d=>bP (b x d)⟩
 refine oQ q.asc t.asc λx=>⟨b x,λd=>Jg λc=>?_⟩
 have:=List.Nodup.length_le_of_subset (List.nodup_cons.2 ⟨c,m⟩) (l₂:=Pw n G L K r) λy g=>by
  rcases zH.1 g with rfl|g
  ·exact d
  ·exact b y g
 rw[List.length_cons] at this
 omega
end
structure Ql (n:Nat)(G:List Nat->Prop)(L:LN)(K:List Nat)(rs:LN)(r:List Nat):Prop where
 hd:rs[0]? =some (Pz L λx=>x=bL n)
 st: ∀k a b,rs[k]? =some a->rs[k+1]? =some b->a.length<L.length/\b=Pw n G L K a
 la:rs[rs.length- 1]? =some r
 all: ∀a∈rs,xJ n G L a
 len:rs.length<=r.length
structure Ky (n:Nat)(G:List Nat->Prop)(L:LN)(K:List Nat)(rs:LN):Prop where
 ex: ∃r,Ql n G L K rs r/\r.length=L.length
section
variable {n:Nat} {G:List Nat->Prop} {L:LN} {K r:List Nat} {rs:LN} (hG:iX n G) (E:dW G L)
include hG E
theorem Ql.start:Ql n G L K [Pz L λx=>x=bL n] (Pz L λx=>x=bL n):=by
 refine⟨rfl,λk a b f c=>by simp at c,rfl,λa d=>by rw[List.mem_singleton.1 d];exact WA hG E,?_⟩;obtain⟨i,hi,e⟩:=zF.1 ((E.mem _).2 hG.one);have:i∈Pz L λx=>x=bL n:=((Dy L _).mem i).2 ⟨hi,by rw[List.getD,dD hi];exact e⟩
 exact HJ this
theorem Ql.push (c:Ql n G L K rs r)(p:Cm n G L K)(j:r.length<L.length):Ql n G L K (rs++ [Pw n G L K r]) (Pw n G L K r):=by
 have t:0<rs.length:=by
  have:=(Ax.1 c.hd).1;exact this
 have o:xJ n G L r:=c.all r (AW c.la);obtain⟨_,q,u,_⟩:=Fv hG E o p j;refine⟨by rw[Dv t];exact c.hd,λk a b f d=>?_,by rw[jZ];show (rs++_)[rs.length+1- 1]? =_;rw[Nat.add_sub_cancel,Kk (fM _),Nat.sub_self];rfl,λa m=>?_,by rw[jZ];show rs.length+1<=_;have:=c.len;omega⟩
 ·by_cases e:k+1<rs.length
  ·rw[Dv om] at f
   rw[Dv e] at d;exact c.st k a b f d
  ·have g:=(Ax.1 d).1
   rw[jZ] at g;have g:k+1<rs.length+1:=g;have s:k+1=rs.length:=om
   rw[Dv om] at f;rw[Kk om,s,Nat.sub_self] at d;have l:=c.la;rw[show rs.length- 1=k by omega] at l;rw[l] at f;cases f;cases d;exact⟨j,rfl⟩
 ·rcases pH.1 m with h|h
  ·exact c.all a h
  ·rw[List.mem_singleton.1 h];exact q
end
def AV (W:Nat->Prop)(n:Nat)(L:LN)(h:H)(p:V×V)(r:List Nat):Prop:= ∃O R,GC W h (.agg [aC n,p.1,p.2]) n O R (RG L r)
theorem AV.go {W W':Nat->Prop}{n:Nat}{L:LN}{h h':H}{p:V×V}{r:List Nat}(g:AV W n L h p r)(f:Fx W h h')(a: ∀q,q<h.next->W' q->W q):AV W' n L h' p r:=by
 obtain⟨O,R,g⟩:=g;exact⟨O,R,g.go f a⟩
structure WkJ (n:Nat)(L:LN)(Q:Nat)(h0 hh:H)(fd:LN):Prop where
 g8:hh.get (Q+1)=aZ [.ptr Q 0]
 ex: ∃vf,hh.get Q=aZ [vf]/\NmL (λq=>q<Q+2) n L (Q+2) hh vf fd
 fr:Fr h0 hh
 nx:Q+2<=hh.next
 len:fd.length<=6000
theorem VV {n:Nat}{G:List Nat->Prop}{L:LN}{r:List Nat}: ∀(K:List Nat) (l:LN),(K.foldl (λl i=>if i∈r then l else tF l (Aw n G L r i)) l).length<=l.length+K.length
 | [],l=>fM _
 |k::K,l=>by
  rw[List.foldl_cons,List.length_cons];refine mT (VV K _) ?_;split
  ·omega
  ·unfold tF
   split
   ·omega
   ·rw[jZ];show l.length+1+_<=_;omega
theorem Vv {α:Type}[Inhabited α](l:List (List α))(f:List α->Bool):nY (λi=>f (l.getD i [])) l=l.filter λa=>!f a:=by
 have b: ∀i,i<=l.length->nY (λi=>f (l.getD i [])) (l.take i)=(l.take i).filter λa=>!f a:=by
  intro i
  induction i with
  |zero=>exact λ_=>rfl
  |succ i ih=>
   intro hi;rw[qJ om,ih om,List.take_succ_eq_append_getElem om,List.filter_append,List.getD,dD om,Option.getD_some];cases h:f l[i]<;>simp [h]
 have:=b l.length (fM _);rwa [List.take_length] at this
def Xa (h:H):V->Option (V×H)
 | .nilm=>some (aC 0,h)
 | .mp id=>match h.get id with|some (.map es)=>some (aC es.length,h)|some (.wmap _ es)=>some (aC es.length,h)|_=>none
 |_=>none
theorem Xi (ρ:X->V)(h:H)(x:X):cI ρ h (.lenm x)=Xa h (ρ x):=by
 simp only[cI,Xa]
 rfl
theorem NW {h:H}{M:Nat}{L:LN}(g:h.get M=some (.wmap .str (Ie L L.length))):Xa h (.mp M)=some (aC (L.length:Int),h):=by
 show (match h.get M with|some (.map es)=>some (aC es.length,h)|some (.wmap _ es)=>some (aC es.length,h)|_=>none)=_;rw[g];simp [Ie]
theorem Ph {W0:Nat->Prop}(vc:V)(n:Nat)(O:LN)(R:jI)(G:List Nat->Prop)(h:H)(gc:GC W0 h vc n O R G):
  Ev T 12 [vc] h (λv h'=> ∃vl ls L K rs,v= .tup [vl,aC 0]/\cZ O R n 0 (bL n)=L/\Cm n G L K/\Ky n G L K rs/\SV h' vl 3 (Kr n ls)/\aM (AV (λ_=>False) n L h') ls rs/\Fr h h'):=by
 obtain⟨vO,vR,rfl,d9,e0⟩:=gc.shape
 refine cV Ak rfl ?_
 obtain⟨A,hA⟩:=exI h.next
 obtain⟨h1,e1,n1,g1,q1,f1⟩:=dF hA [aC n,vO,vR]
 simp(disch:=omega)only[go_sem,Ak,aD,bM h (v:= aC n) (u:=vO) (w:=vR) rfl d9 e0,hA,e1,aI g1]
 refine (FX _ n O R G h1 (gc.mono f1)).mono ?_
 rintro _ J ⟨T0,L,K,rfl,zC,f2⟩
 obtain⟨ll,E,hG,m4,n0,n7⟩:=zC.few
 have ik:=zC.isK
 have eL:=zC.hL
 have F2:=f1.trans f2
 simp(disch:=omega)only[go_sem]
 refine aW (λhc=>(hc rfl).elim) (λ_=>?_)
 simp(disch:=omega)only[go_sem]
 refine (EU T0 n O R G L K J zC).mono ?_
 rintro _ h3 ⟨p0,rfl,c8,f3⟩
 obtain⟨o1,o2,o3⟩:=c8.one
 obtain⟨y,e8⟩:=exI h3.next
 obtain⟨h4,e4,n4,g4,q4,f4⟩:=dF e8 [aC 0,.aE,.aE,.aE]
 obtain⟨h5,e5,n5,g5,q5⟩:=pJ h4 y (Bt n p0)
 obtain⟨h6,e6,n6,g6,q6,f6⟩:=dF (h:=h5) (n5.trans n4) [aC n,p0.1,p0.2.1]
 have i1: ∀{t:H} {id:Nat} {a b c d:V},t.get id=aZ [a,b,c,d]->t.row id 0 3=some [a,b,c]:=λhg=>by simp [H.row,hg,sub]
 simp(disch:=omega)only[go_sem,e8,e4,kL h4 y 0 (a:= aC n) (b:=p0.1) (c:=p0.2.1) (d:=p0.2.2) rfl o1 o2 o3,g4,jS,e5,i1 g5,Vj h5 (d:=(n:Int)) o1 o2,n5,n4,e6]
 have m1:=f3.next
 have k4:Fr J h6:=⟨om,λq hq=>by rw[q6 q om,q5 q om,q4 q om,f3.get q hq]⟩
 have f5:h6.get y=aZ (Bt n p0):=by rw[q6 _ om];exact g5
 have k2:Fr h3 h6:=⟨om,λq hq=>by rw[q6 q om,q5 q om,q4 q om]⟩
 have w0: ∀q,q<h3.next->(q=y∨dO (.sl (y+1) 0 1 (.kn 1)) q)->q<J.next:=λq h1 J=>by
  rcases J with e|⟨_,_,_,e⟩
  ·omega
  ·cases e;omega
 have c2:Nm (λq=>q=y∨dO (.sl (y+1) 0 1 (.kn 1)) q) n L h6 p0 (Pz L λx=>x=bL n):=(c8.go (Fx.refl _ _) w0).mono k2
 obtain⟨K',m8⟩: ∃x,K=x:=⟨_,rfl⟩
 refine aH (λk' N t=> ∃(r:List Nat) (p:V×V×V) (vl:V) (ls:List (V×V)) (rs:LN),(∃g:Nat->V,N= [g 0,g 1,g 2,g 3,.ptr T0 0,g 5,.ptr y 0,vl,g 8,g 9,g 10,g 11,g 12,g 13,g 14,g 15,g 16,g 17])/\t.get y=aZ (Bt n p)/\Nm (λq=>q=y∨dO vl q) n L t p r/\cY t vl 3 (Kr n ls) (y+1)/\aM (AV (λq=>q=y∨dO vl q) n L t) ls rs/\Ql n G L K rs r/\Fr J t/\y<t.next/\k'=L.length-r.length) (L.length-(Pz L λx=>x=bL n).length)
  ⟨_,p0,_, [(p0.1,p0.2.1)], [Pz L λx=>x=bL n],aB rfl,f5,c2,.inr ⟨y+1,1,_, [],rfl,rfl,.inr ⟨rfl,rfl⟩,om,om,g6⟩,⟨c2.ch,trivial⟩,Ql.start hG E,k4,om,rfl⟩ ?_
 clear c2 w0 f5 g6 q6 q5 g5 g4 q4 c8
 rintro k' N t ⟨r,p,vl,ls,rs,⟨g,rfl⟩,g6,nm,ow,al,cb,F,k3,rfl⟩
 have kr:xJ n G L r:=cb.all r (AW cb.la)
 obtain⟨lO,lR,M,lr,gT,gM,_,d8,nM⟩:=(zC.mono F).ex
 have lv:=nm.si.lens
 rw[aQ] at lv
 have lm: ∀k,Xa (H.mk t.tr k) (.mp M)=some (aC (L.length:Int),H.mk t.tr k):=λk=>NW gM
 by_cases i3:(r.length:Int)<(L.length:Int)
 case neg=>
  have d1:=bH i3;simp(disch:=omega)only[go_sem,H.aF g6,H.aF gT,lv,Xi,lm,d1];have fb:Fr t (H.mk t.tr (t.next+9)):=(Fr.refl t).bA om;exact⟨vl,ls,L,K,rs,rfl,eL,ik,⟨r,cb,by have:=kr.rk.short;omega⟩,ow.sv.mono fb,aM.mono (λ_ _ x=>AV.go x (Fx.of fb) λ_ _ h=>h.elim) al,F2.trans (F.trans fb)⟩
 have d1:=bP i3
 have hr:r.length<L.length:=om
 obtain⟨hx,a2⟩: ∃x,H.mk t.tr (t.next+9)=x:=⟨_,rfl⟩
 have fx:Fr t hx:=by rw[←a2];exact (Fr.refl t).bA om
 have nx:hx.next=t.next+9:=by rw[←a2]
 obtain⟨Q,hQ⟩:=exI hx.next
 obtain⟨ha,ea,na,ga,qa,fa⟩:=dF hQ [.aE]
 obtain⟨hb,eb,nb,gb,qb,fb⟩:=dF na [.nilp]
 obtain⟨hI,eI,nI,gI,qI⟩:=pJ hb (Q+1) [.ptr Q 0]
 have bx:Cv hx (.agg [.aE])=some (.ptr Q 0,ha):=by rw[←ea,←hQ];rfl
 have pt: ∀(t:H) (id:Nat) (u w:V),dX (aZ [u]) t id 0 [w]=some (t.set id (aZ [w])):=λt id u w=>bN (by simp) t _ _
 have fI:Fr t hI:=⟨om,λq hq=>by rw[qI q om,qb q om,qa q om,fx.get q hq]⟩
 have FI:=F.trans fI
 have j3:=(zC.mono F).nx
 have g2: ∀h',Fr t h'->h'.get T0=aZ [aC n,lO,lR,.mp M,lr]:=λh' f=>by rw[f.get T0 j3];exact gT
 have a9: ∀h',Fr t h'->h'.get y=aZ (Bt n p):=λh' f=>by rw[f.get y k3];exact g6
 have kl:K.length<=L.length:=by
  have:=List.Nodup.length_le_of_subset (l₂:=List.range L.length) ik.nd λx hx=>Gu.2 (ik.lt hx)
  rwa [NM] at this
 have i0:=d8.lens
 simp only[jV] at i0
 have j5:Xa hx (.mp M)=some (aC (L.length:Int),hx):=by rw[←a2];exact lm _
 simp(disch:=omega)only[go_sem,a2,H.aF (a9 hx fx),H.aF (g2 hx fx),lv,Xi,j5,d1,show rO [.aE] []=some (.agg [.aE]) from rfl,a2,bx,na,eb,lG (show (V.ptr Q 0).cells= [V.ptr Q 0] from rfl) rfl,gb,pt,eI,H.aF (g2 hI fI),i0]
 obtain⟨fs,a0⟩: ∃f:LN->Nat->LN,(λl i=>if i∈r then l else tF l (Aw n G L r i))=f:=⟨_,rfl⟩
 have i6: ∀i,i<=K.length->((K.take i).foldl fs []).length<=i:=λi hi=>by
  have:=VV (n:=n) (G:=G) (L:=L) (r:=r) (K.take i) [];rw[a0,Fj,Nat.min_eq_left hi] at this;simpa using this
 refine bJ (λvs h'=>(∃g:Nat->V,vs= [g 0,g 1,g 2,g 3,.ptr T0 0,g 5,.ptr y 0,vl,.ptr (Q+1) 0,g 9,g 10,g 11,g 12,g 13,g 14,g 15,g 16,g 17])/\WkJ n L Q t h' (XC n G L r K)) ?_ ?_
 ·refine aH (λk' N h'=> ∃(i:Nat),(∃g:Nat->V,N= [g 0,g 1,g 2,g 3,.ptr T0 0,g 5,.ptr y 0,vl,.ptr (Q+1) 0,g 9,g 10,g 11,g 12,lr,aC (K.length:Int),aC i,g 16,g 17])/\i<=K.length/\WkJ n L Q t h' ((K.take i).foldl fs [])/\k'=K.length-i) K.length
   ⟨0,aB rfl,iJ _,⟨gI,⟨.aE,by rw[qI _ om,qb _ om];exact ga, [],cY.aE _ _ _,trivial,λ_ _ _ _ e=>by cases e⟩,fI,om,by show 0<=6000;omega⟩,rfl⟩ ?_
  rintro k' N h7 ⟨i,⟨g,rfl⟩,hi,W,rfl⟩
  by_cases d7:(i:Int)<(K.length:Int)
  case neg=>
   have d2:=bH d7;obtain rfl:i=K.length:=om
   rw[List.take_length,←a0] at W;simp(disch:=omega)only[go_sem,d2];exact⟨aB rfl,W⟩
  have d2:=bP d7
  have a5:i<K.length:=om
  have F7:=W.fr
  obtain⟨id,z,ws,sh,e3,i9,hc,f0⟩:=d8.open
  simp only[jV] at sh e3 i9 hc
  have ci:h7.cell id (z+i)=some (ws.getD i .undef):=by rw[F7.cell (e3 om),hc i a5]
  have s0:=(Ml f0 (i:=i) (by rw[jV];exact a5)).mono F7
  have eK:(K.map λr=>L.getD r []).getD i []=L.getD K[i] []:=by rw[List.getD,Ol,dD a5];rfl
  rw[eK] at s0
  have c5:=ik.lt (zG a5)
  generalize ws.getD i .undef=vx at ci s0
  have step:(K.take (i+1)).foldl fs []=fs ((K.take i).foldl fs []) K[i]:=by rw[List.take_succ_eq_append_getElem a5,List.foldl_append,List.foldl_cons,List.foldl_nil]
  have a3:=i6 (i+1) om
  rw[step] at a3
  obtain⟨B,a7⟩:=exI ((K.take i).foldl fs [])
  rw[a7] at W step a3
  obtain⟨k,hk⟩:=exI (K[i])
  rw[hk] at s0 c5 step a3
  simp(disch:=omega)only[go_sem,d2,sh.ixa,ci,gU (a9 h7 F7)]
  refine (GQ T0 p vx n O R G L K r k h7 (zC.mono (F.trans F7)) (nm.mono F7) c5 s0).mono ?_
  rintro _ h8 ⟨rfl,Z⟩
  have W8:WkJ n L Q t h8 B:=by
   obtain⟨vf,gQ,ml⟩:=W.ex;have:=W.nx;have:=Z.next;exact⟨by rw[Z.get _ om];exact W.g8,⟨vf,by rw[Z.get _ om];exact gQ,ml.mono Z⟩,F7.trans Z,om,W.len⟩
  by_cases b2:k∈r
  ·have d3:=bP b2
   rw[←a0] at step
   simp only[bF b2] at step
   simp(disch:=omega)only[go_sem,d3,Bool.not_true]
   rw[eJ i]
   exact⟨K.length-(i+1),om,i+1,aB rfl,om,by rw[←a0,step];exact W8,rfl⟩
  ·have d3:=bH b2
   rw[←a0] at step a3
   simp only[bI b2] at step a3
   have F8:=W8.fr
   have b5: ∀m,h8.next<=m->Fr h8 (H.mk h8.tr m):=λm hm=>(Fr.refl h8).bA hm
   simp(disch:=omega)only[go_sem,d3,Bool.not_false,H.aF W8.g8,gU (a9 h8 F8)]
   refine (Xn T0 p vx n O R G L K r k _ (zC.mono (F.trans (F8.trans (b5 _ om)))) (nm.mono (F8.trans (b5 _ om))) c5 (s0.mono (Z.trans (b5 _ om)))).mono ?_
   rintro _ h9 ⟨q,rfl,nq,f9⟩
   have a6:=(b5 _ om).trans f9
   have F9:=F8.trans a6
   obtain⟨vf,j2,ml⟩:=W8.ex
   have n8:=W8.nx
   have n9:=a6.next
   have i5:h9.get (Q+1)=aZ [.ptr Q 0]:=by rw[a6.get _ om];exact W8.g8
   have j7:h9.get Q=aZ [vf]:=by rw[a6.get _ om];exact j2
   have d0: ∀s,dO vf s->s<h8.next:=λs ⟨z,m,c,e⟩=>by
    obtain⟨ps,o,_⟩:=ml.ex;exact (o.in _ _ _ _ e).1
   have j9:Nm (λq=>q<Q+2∨dO vf q) n L h9 q (Aw n G L r k):=nq.go (Fx.refl _ _) λs _ h=>by
    rcases h with h|h
    ·show s<h8.next+6
     omega
    ·have:=d0 s h
     show s<h8.next+6;omega
   have eQ:dE (.ptr Q 0) (.ptr Q 0)=true:=by simp [dE]
   have g0: ∀s,dO vf s->Q+2<=s:=λs ⟨z,m,c,e⟩=>by
    obtain⟨ps,o,_⟩:=ml.ex;exact (o.in _ _ _ _ e).2.1
   simp(disch:=omega)only[go_sem,H.aF i5,eQ]
   refine (FQ n L (Q+2) Q vf B q _ h9 (ml.mono a6) om j9 j7 om (λh=>by have:=g0 Q h;omega) (by show Q<Q+2;omega) ll (by have:=W8.len;omega)).mono ?_
   rintro _ U ⟨rfl,l0,k0,i7,c0,_⟩
   have k9:=c0.next
   have nh:=F9.next
   simp(disch:=omega)only[go_sem]
   rw[eJ i]
   have g9: ∀s,s≠Q->s<Q+2->U.get s=h9.get s:=λs h1 J=>c0.get s om λh=>h.elim (λh=>h1 h) λh=>by have:=g0 _ h;omega
   have l2:WkJ n L Q t U (tF B (Aw n G L r k)):=⟨by rw[g9 _ om om];exact i5,⟨l0,k0,i7⟩,⟨om,λs hq=>by rw[g9 s om om];exact F9.get s hq⟩,om,om⟩
   exact⟨K.length-(i+1),om,i+1,aB rfl,om,by rw[←a0,step];exact l2,rfl⟩
 rintro N h7 ⟨⟨g,rfl⟩,W⟩
 obtain⟨vf,d5,ml⟩:=W.ex
 obtain⟨ps,c1,c9,_⟩:=ml.ex
 have F7:=W.fr
 have m6:=W.nx
 have d4:=adC hG E kr ik hr
 obtain⟨B,a7⟩:=exI (XC n G L r K)
 rw[a7] at W ml c9 d4
 have m3:=aM.length c9
 have l7:0<B.length:=List.length_pos_iff.2 d4
 have fl:=W.len
 simp(disch:=omega)only[go_sem,H.aF W.g8,H.aF d5]
 refine (KG vf (zB n ps) ps.length h7 (mH n ps) om om c1.sv).mono ?_
 rintro _ h8 ⟨a8,j6,e9,rfl,i2,l5,i4,j4,Z⟩
 simp(disch:=omega)only[go_sem]
 have d0: ∀s,dO vf s->s<h7.next:=λs ⟨z,m,c,e⟩=>(c1.in _ _ _ _ e).1
 have c4:aM (Nm (λq=>q<Q+2∨q=a8) n L h8) ps B:=aM.mono (λ_ _ x=>Nm.go x (Fx.of Z) λs h1 J=>J.imp id λe=>om) c9
 refine (abI a8 ps.length j6 e9 53 [.ptr (Q+1) 0] n ps (λi=>Yc B (B.getD i [])) h8 i4 j4 i2 rfl om om (λs hq=>?_) λi hi h' a1=>?_).mono ?_
 ·obtain⟨i,hi,rfl⟩:=zF.1 hq
  exact (aM.get c4 i hi om).one
 ·have n8:=Z.next
  have n':=a1.next
  have h0:aM (Nm (λq=>q<Q+2) n L h') ps B:=aM.mono (λ_ _ x=>Nm.go x (Fx.wide a1 λs h=> .inr h) λs _ h=> .inl h) c4
  have mi:=aM.get h0 i hi om
  rw[List.getD,dD om,Option.getD_some]
  refine adF n (Q+1) Q vf ps B ll om ?_ om ?_ om (SV.fx (c1.sv.mono Z) (W:=λq=>q=a8) ?_ a1) h0 mi
  ·rw[a1.get _ om om,Z.get _ om];exact W.g8
  ·rw[a1.get _ om om,Z.get _ om];exact d5
  ·cases vf with
   |sl q z m c=>exact λ(e:q=a8)=>by have:=d0 q ⟨z,m,c,rfl⟩;omega
   |_=>trivial
 rintro vk h9 ⟨d6,c6⟩
 have n8:=Z.next
 have n9:=c6.next
 have Y:=BD (P:=λi=>Yc B (B.getD i [])) (aM.mono (λ_ _ x=>Nm.go (W':=λq=>q<Q+2) x (Fx.wide c6 λs h=> .inr h) λs _ h=> .inl h) c4)
 have ek:nY (λi=>Yc B (B.getD i [])) B=IN B:=Vv B _
 rw[ek] at Y
 have i8:=List.length_pos_iff.2 (TM d4)
 have m5:(IN B).length<=B.length:=List.length_filter_le _ _
 obtain⟨pk,k6⟩:=exI (nY (λi=>Yc B (B.getD i [])) ps)
 rw[k6] at d6 Y
 simp(disch:=omega)only[go_sem]
 refine (aaF n vk pk (IN B) ll om i8 d6 Y).mono ?_
 rintro _ U ⟨⟨j,hj,rfl,k5⟩,c7⟩
 have k9:=c7.next
 have Fm:Fr t U:=⟨by have:=F7.next;omega,λs hq=>by
  have:=F7.next;rw[c7.get s om,c6.get s om om,Z.get s om]
  exact F7.get s hq⟩
 have k1:NH (IN B)=Pw n G L K r:=by rw[←a7];rfl
 have mj:=(aM.get Y j hj (by have:=aM.length Y;omega)).mono c7
 have ej:(IN B)[j]'(by have:=aM.length Y;omega)=Pw n G L K r:=by rw[←k1,←k5,List.getD,dD (by have:=aM.length Y;omega)];rfl
 rw[ej] at mj
 generalize pk[j]=pn at mj
 obtain⟨o1,o2,o3⟩:=mj.one
 have e7:=a9 U Fm
 obtain⟨b6,k7,n2,g3,c3⟩:=pJ U y (Bt n pn)
 obtain⟨C,hC⟩:=exI b6.next
 obtain⟨b3,k8,m2,l1,a4,o0⟩:=dF hC [aC n,pn.1,pn.2.1]
 have n3:=Fm.next
 have b0: ∀s,dO vl s->y+1<=s/\s<t.next:=λs ⟨z,m,c,e⟩=>by
  have:=ow.in _ _ _ _ e;omega
 have l3: ∀s,dO vl s->s≠y:=λs hb=>by have:=b0 s hb;omega
 have l8:=aM.length al
 have o4:=cb.len
 have m9:=kr.rk.short
 have j8: ∀s,s<b6.next->b3.get s=b6.get s:=λs h=>a4 s om
 have l6:Fx (· =y) U b3:=⟨om,λs h1 J=>by rw[a4 s om,c3 s J]⟩
 have g7:cY b3 vl 3 (Kr n ls) (y+1):=ow.zA om λid z m c e h=>by
  have:=b0 id ⟨z,m,c,e⟩;rw[a4 _ om,c3 _ om];exact Fm.get id h
 obtain⟨b4,l4,b1⟩:=(g7.le (iJ _)).push (bytes:=56) (SV.all (sz:=3) (len:=1) (vs:= [aC n,pn.1,pn.2.1]) rfl om l1 (.kn 1)) (n:=ls.length) (m:=1) (lC n ls) rfl om om om
 have m0:=b1.next
 simp(disch:=omega)only[go_sem,kL U y 0 (a:= aC n) (b:=pn.1) (c:=pn.2.1) (d:=pn.2.2) rfl o1 o2 o3,e7,jS,k7,i1 g3,Vj b6 (d:=(n:Int)) o1 o2,hC,k8,l4]
 have nF:=F.next
 have ap: ∀s,¬dO vl s->dL vl s:=λs h id z m c e e2=>h (by rw[e,e2];exact⟨_,_,_,rfl⟩)
 have b9:Fx (λq=>q=y∨dO vl q) U b4:=⟨om,λs h1 J=>by rw[b1.old s om (ap s λh=>J (.inr h)),a4 s om,c3 s λh=>J (.inl h)]⟩
 have b7:Fx (λq=>q=y∨dO vl q) t b4:=⟨om,λs h1 J=>by rw[b9.get s om J];exact Fm.get s h1⟩
 have j1:Fr J b4:=⟨om,λs hq=>by rw[b7.get s om λh=>h.elim (λh=>om) λh=>by have:=b0 s h;omega];exact F.get s hq⟩
 have b8:Nm (λq=>q=y∨dO (.sl b3.next 0 (ls.length+1) (.un 3)) q) n L b4 pn (Pw n G L K r):=mj.go (Fx.wide b9 λs h=>h.elim (λh=>(by omega:s<Q+2)) λh=>(by have:=b0 s h;omega:s<Q+2)) λs h1 J=>J.elim (λh=>(by omega:s<Q+2)) λ⟨z,m,c,e⟩=>by cases e;omega
 obtain⟨st1,j0,l9,_⟩:=Fv hG E kr ik hr
 have m7:=j0.rk.short
 have f7:=b1.own (b:=y+1) (lC n ls) rfl om
 refine⟨L.length-(Pw n G L K r).length,om,Pw n G L K r,pn,_,ls++ [(pn.1,pn.2.1)],rs++ [Pw n G L K r],aB rfl,?_,b8,by rw[Tt];exact f7,aM.append (aM.mono (λ_ _ x=>AV.go x b7 λs h1 J=>J.imp id λ⟨z,m,c,e⟩=>by cases e;omega) al) ⟨b8.ch,trivial⟩,cb.push hG E ik hr,j1,om,rfl⟩
 rw[b1.old y om (ap y λh=>l3 y h rfl),a4 y om]
 exact g3
def vT (n:Nat):List Nat:=if n>9 then vT (n/10)++ [48+n%10] else [48+n]
theorem Yf (n:Nat):(vT n).length<=n+1:=by
 induction n using Nat.strongRecOn with
 |_ n ih=>
  unfold vT;split
  ·have:=ih (n/10) om
   rw[jZ];show _+1<=_;omega
  ·show 1<=_
   omega
def aeZ (h:H):V->Option (V×H)
 | .int _ n=>if 0<=n/\n<128 then some (.str [n.toNat],h) else none
 |_=>none
theorem GA (ρ:X->V)(h:H)(x:X):cI ρ h (.cir x)=aeZ h (ρ x):=by
 simp only[cI,aeZ]
 rfl
def ZX (h:H)(x y:V):Option (V×H):=match x,y with
 | .str a,.str b=>if a.length+b.length<2^62 then some (.str (a++b),h) else none
 |_,_=>none
theorem GF (ρ:X->V)(h:H)(x y:X):cI ρ h (.sad x y)=ZX h (ρ x) (ρ y):=by
 simp only[cI,ZX]
 rfl
theorem HF {k:Nat}(a:k<10)(h:H):aeZ h (.int .i32 (IntKind.i32.wrap ((48+k:Nat):Int)))=some (.str [48+k],h):=by
 have: ∀k,k<10->IntKind.i32.wrap ((48+k:Nat):Int)=((48+k:Nat):Int):=by decide
 rw[this k a];show (if _ then _ else none)=_;rw[bF ⟨om,om⟩,NK]
theorem SZ (h:H){a b:List Nat}(c:a.length+b.length<10000000):ZX h (.str a) (.str b)=some (.str (a++b),h):=by
 show (if _ then _ else none)=_;rw[bF om]
theorem WZ (n:Nat): ∀(h:H),n<1000000->Ev T 66 [aC n] h (λv h'=>v= .str (vT n)/\Fr h h'):=by
 induction n using Nat.strongRecOn with
 |_ n ih=>
  intro h m;refine cV pZ rfl ?_
  by_cases f:(9:Int)<(n:Int)
  ·have d:=bP f
   have k:Int.tdiv (n:Int) 10=((n/10:Nat):Int):=rfl;have j:Int.tmod (n:Int) 10=((n%10:Nat):Int):=rfl;simp(disch:=omega)only[go_sem,pZ,aD,d,k];refine (ih (n/10) om h om).mono ?_;rintro _ g ⟨rfl,i⟩;have c:(48:Int)+((n%10:Nat):Int)=((48+n%10:Nat):Int):=om
   have l:=Yf (n/10)
   have e:vT n=vT (n/10)++ [48+n%10]:=by
                               conv=>lhs;unfold vT
                               rw[bF om]
   simp(disch:=omega)only[go_sem,j,c,GA,HF (Nat.mod_lt n (by omega:10>0)),GF,SZ g (a:=vT (n/10)) (b:= [48+n%10]) (by show _+1<_;omega),e];exact i
  ·have d:=bH f
   have c:(48:Int)+(n:Int)=((48+n:Nat):Int):=om
   have e:vT n= [48+n]:=by unfold vT;rw[bI om]
   simp(disch:=omega)only[go_sem,pZ,aD,d,c,GA,HF (show n<10 by omega),e];exact Fr.refl _
abbrev Jj (x:Nat×List Nat):List V:= [aC (x.1:Int),.str x.2]
def Cr (l:List (Nat×List Nat)):List V:=l.flatMap Jj
theorem Hl (l:List (Nat×List Nat)):(Cr l).length=l.length*2:=sM (k:=2) (f:=Jj) (λ_=>rfl) l
theorem ZW (a b:List (Nat×List Nat)):Cr (a++b)=Cr a++Cr b:=by unfold Cr;rw[List.flatMap_append]
theorem Ul {h:H}{v:V}{l:List (Nat×List Nat)}(s:SV h v 2 (Cr l)){i:Nat}(hi:i<l.length): ∃id off,Sl v 2 l.length id off/\h.row id (off+i*2) 2=some (Jj l[i])/\id<h.next:=SV.rec (k:=2) (f:=Jj) om (λ_=>rfl) s hi
theorem Yx {h:H}{v:V}{l:List (Nat×List Nat)}(s:SV h v 2 (Cr l)):bT v=some (aC (l.length:Int)):=by
 unfold bT;rw[SV.len s (n:=l.length) (Hl l) om];rfl
theorem wW (h:H){a b:V}(c:a.one=true)(d:b.one=true):Cv h (.agg [a,b])=some (.ptr h.next 0,h.new (.cells false [a,b])):=tL h _ (by simp [c,d])
def Eh:List (Nat×List Nat):= [(60, [65,53]),(168, [76,50,40,55,41]),(360, [65,54]),(504, [76,50,40,56,41]),(660, [76,50,40,49,49,41]),(1092, [76,50,40,49,51,41]),(2448, [76,50,40,49,55,41]),(2520, [65,55]),(3420, [76,50,40,49,57,41]),(4080, [76,50,40,49,54,41])]
theorem DM (z:Int)(s:List Nat):rO [aC 0,.str []] [(0,1,aC z),(1,1,.str s)]=some (.agg [aC z,.str s]):=rfl
theorem RA (h:H):Ev T 67 [] h (λv h'=>SV h' v 2 (Cr Eh)/\Fr h h'):=by
 refine cV Aa rfl ?_;have e:lQ h 2 [aC 0,.str []] 10 [(0,2,.agg [aC 60,.str [65,53]]),(2,2,.agg [aC 168,.str [76,50,40,55,41]]),(4,2,.agg [aC 360,.str [65,54]]),(6,2,.agg [aC 504,.str [76,50,40,56,41]]),(8,2,.agg [aC 660,.str [76,50,40,49,49,41]]),(10,2,.agg [aC 1092,.str [76,50,40,49,51,41]]),(12,2,.agg [aC 2448,.str [76,50,40,49,55,41]]),(14,2,.agg [aC 2520,.str [65,55]]),(16,2,.agg [aC 3420,.str [76,50,40,49,57,41]]),(18,2,.agg [aC 4080,.str [76,50,40,49,54,41]])]=some (.sl h.next 0 10 (.kn 10),h.new (.cells false (Cr Eh))):=rfl;simp(disch:=omega)only[go_sem,Aa,aD,DM,e];exact⟨SV.all rfl (by rw[H.aU];omega) (H.aL _ _) _,(Fr.refl h).new _⟩
theorem GO (x:Nat×List Nat)(n:Nat)(h:H)(f:x.1<1000000)(h2:n<1000000):Ev T 69 [.agg (Jj x),aC n] h (λv h'=>v= aC ((x.1:Int)-n)/\Fr h h'):=by
 refine cV tV rfl ?_;obtain⟨B,c⟩:=exI h.next;obtain⟨f,g,i,d,j,e⟩:=dF c (Jj x);simp(disch:=omega)only[go_sem,tV,aD,wW h (a:= aC (x.1:Int)) (b:= .str x.2) rfl rfl,c,g,H.aF d];exact e
theorem YC (x y:Nat×List Nat)(h:H)(e:x.1<1000000)(h2:y.1<1000000):Ev T 71 [.agg (Jj x),.agg (Jj y)] h (λv h'=>v= aC ((x.1:Int)-y.1)/\Fr h h'):=by
 refine cV tE rfl ?_;obtain⟨B,f⟩:=exI h.next;obtain⟨e,m,d,g,p,j⟩:=dF f (Jj x);obtain⟨h2,k,o,i,n,l⟩:=dF d (Jj y);have c:h2.get B=aZ (Jj x):=by rw[n B om];exact g
 simp(disch:=omega)only[go_sem,tE,aD,wW h (a:= aC (x.1:Int)) (b:= .str x.2) rfl rfl,f,m,wW e (a:= aC (y.1:Int)) (b:= .str y.2) rfl rfl,d,k,H.aF c,H.aF i];exact j.trans l
theorem TF (u:V)(a:List (Nat×List Nat))(p:Nat)(h:H)(hn:a.length<1000000)(Y:p<1000000)(W: ∀x∈a,x.1<1000000)(U:a.Pairwise λx y=>x.1<y.1)(Q:SV h u 2 (Cr a)):
  Ev T 68 [u,aC p,.fn 69 [] []] h (λv h'=> ∃(k:Nat) (f:Bool),v= .tup [aC k,.bool f]/\(f=true-> ∃hk:k<a.length,a[k].1=p)/\(f=false-> ∀x∈a,x.1≠p)/\Fr h h'):=by
 refine cV dH rfl ?_
 have lv:=Yx Q
 simp(disch:=omega)only[go_sem,dH,aD,lv]
 have mono: ∀i j (hi:i<a.length) (G:j<a.length),i<j->a[i].1<a[j].1:=λi j hi G h=>JX.1 U i j hi G h
 refine aH (λZ l J=> ∃(i j:Nat),(∃g:Nat->V,l= [u,aC p,.fn 69 [] [],g 3,g 4,aC (a.length:Int),aC i,aC j,g 8,g 9,g 10])/\i<=j/\j<=a.length/\(∀m (c:m<a.length),m<i->a[m].1<p)/\(∀m (c:m<a.length),j<=m->p<=a[m].1)/\Fr h J/\Z=j-i) a.length
  ⟨0,a.length,aB rfl,om,om,λm c h=>om,λm h1 h2=>om,Fr.refl h,rfl⟩ ?_
 rintro Z l J ⟨i,j,⟨g,rfl⟩,a0,G,o,t,F,rfl⟩
 by_cases B:(i:Int)<(j:Int)
 ·have K:=bP B
  have ea:(i:Int)+(j:Int)=((i+j:Nat):Int):=om
  obtain⟨m,c⟩:=exI ((i+j)/2)
  have sr:=FC (x:=i+j)
  rw[c] at sr
  have d:m<a.length:=om
  obtain⟨id,R,O,s,_⟩:=Ul (Q.mono F) d
  have sm:=W _ (zG d)
  simp(disch:=omega)only[go_sem,K,ea,Gs,zY,dK (n:=((i+j:Nat):Int)) om om,sr,O.ixa,s]
  refine (GO a[m] p J sm Y).mono ?_
  rintro _ h3 ⟨rfl,A⟩
  by_cases hl:((a[m].1:Nat):Int)-(p:Int)<0
  ·have r:=bP hl
   simp(disch:=omega)only[go_sem,r]
   rw[eJ m]
   refine⟨j-(m+1),om,m+1,j,aB rfl,om,G,λq P h=>?_,t,F.trans A,rfl⟩
   by_cases e:q=m
   ·subst e;omega
   ·have:=mono q m P d om;omega
  ·have r:=bH hl
   simp(disch:=omega)only[go_sem,r]
   refine⟨m-i,om,i,m,aB rfl,om,om,o,λq P h=>?_,F.trans A,rfl⟩
   by_cases e:q=m
   ·subst e;omega
   ·have:=mono m q d P om;omega
 have K:=bH B
 obtain rfl:i=j:=om
 by_cases w:(i:Int)<(a.length:Int)
 ·have r:=bP w
  have b:i<a.length:=om
  obtain⟨id,R,O,s,_⟩:=Ul (Q.mono F) b
  simp(disch:=omega)only[go_sem,K,r,O.ixa,s]
  refine (GO a[i] p J (W _ (zG b)) Y).mono ?_
  rintro _ h3 ⟨rfl,A⟩
  by_cases z:((a[i].1:Nat):Int)-(p:Int)=0
  ·have N:=bP z
   simp(disch:=omega)only[go_sem,N]
   exact⟨i,true,rfl,λ_=>⟨b,om⟩,λh=>(by cases h),F.trans A⟩
  ·have N:=bH z
   simp(disch:=omega)only[go_sem,N]
   refine⟨i,false,rfl,λh=>(by cases h),λ_ x L e=>?_,F.trans A⟩
   obtain⟨m,c,rfl⟩:=zF.1 L
   rcases Nat.lt_trichotomy m i with h|h|h
   ·have:=o m c h;omega
   ·subst h;omega
   ·have h1:=mono i m b c h
    have h2:=t i b (fM _)
    omega
 ·have r:=bH w
  simp(disch:=omega)only[go_sem,K,r]
  refine⟨i,false,rfl,λh=>(by cases h),λ_ x L e=>?_,F⟩
  obtain⟨m,c,rfl⟩:=zF.1 L
  have:=o m c om
  omega
section
variable {x:Nat×List Nat} {l:List (Nat×List Nat)}
def Ep (x:Nat×List Nat):List (Nat×List Nat)->List (Nat×List Nat)
 | []=> [x]
 |y::r=>if y.1<=x.1 then y::Ep x r else x::y::r
def Lr (l:List (Nat×List Nat)):List (Nat×List Nat):=l.foldl (λa x=>Ep x a) []
def aeN (l:List (Nat×List Nat)):Prop:=l.Pairwise λx y=>x.1<=y.1
theorem Pe {x:Nat×List Nat}: ∀{A B:List (Nat×List Nat)},(∀y∈A,y.1<=x.1)->(∀y∈B,x.1<y.1)->Ep x (A++B)=A++x::B
 | [], [],_,_=>rfl
 | [],y::r,_,h=>by
  show (if y.1<=x.1 then _ else _)=_;rw[bI (by have:=h y Ab;omega)];rfl
 |y::A,B,h,h2=>by
  show (if y.1<=x.1 then _ else _)=_;rw[bF (h y Ab)];have:=Pe (λz a=>h z (Cu _ a)) h2;rw[List.cons_append,←this]
  rfl
theorem Xj (x:Nat×List Nat): ∀l,(Ep x l).length=l.length+1
 | []=>rfl
 |y::r=>by
  unfold Ep;split
  ·rw[List.length_cons,Xj x r];rfl
  ·rfl
theorem Ny {x z:Nat×List Nat}: ∀{l},z∈Ep x l↔z=x∨z∈l
 | []=>by simp [Ep]
 |y::r=>by
  unfold Ep;split
  ·rw[zH,Ny,zH]
   constructor
   ·rintro (h|h|h)<;>simp [h]
   ·rintro (h|h|h)<;>simp [h]
  ·rw[zH]
theorem Zh {x:Nat×List Nat}: ∀{l},aeN l->aeN (Ep x l)
 | [],_=>List.pairwise_singleton _ _
 |y::r,h=>by
  obtain⟨b,d⟩:=List.pairwise_cons.1 h;unfold Ep;split
  ·rename_i c
   refine List.pairwise_cons.2 ⟨λz a=>?_,Zh d⟩;rcases Ny.1 a with rfl|a
   ·exact c
   ·exact b z a
  ·rename_i c
   refine List.pairwise_cons.2 ⟨λz a=>?_,h⟩;rcases zH.1 a with rfl|a
   ·omega
   ·have:=b z a;omega
theorem Yq {i:Nat}(hi:i<l.length):Lr (l.take (i+1))=Ep l[i] (Lr (l.take i)):=by
 unfold Lr;rw[List.take_succ_eq_append_getElem hi,List.foldl_append]
 rfl
theorem OJ (l:List (Nat×List Nat)): ∀i,i<=l.length->aeN (Lr (l.take i))/\(Lr (l.take i)).length=i/\ ∀x∈Lr (l.take i),x∈l:=by
 intro i
 induction i with
 |zero=>exact λ_=>⟨List.Pairwise.nil,rfl,λx a=>by cases a⟩
 |succ i ih=>
  intro hi;obtain⟨d,c,b⟩:=ih om;rw[Yq om];refine⟨Zh d,by rw[Xj,c],λx a=>?_⟩;rcases Ny.1 a with rfl|a
  ·exact zG _
  ·exact b x a
theorem FR {i:Nat}(hi:i<l.length):sub (Cr l) (i*2) 2=some (Jj l[i]):=by
 have:=GI (s:=2) (f:=Jj) (λ_=>rfl) (ps:=l) (rest:= []) hi;rwa [vF] at this
theorem FJ {k:Nat}(a:k<l.length)(x:Nat×List Nat):putAt (Cr l) (k*2) (Jj x)=some (Cr (l.set k x)):=by
 have:=GN (s:=2) (f:=Jj) (λ_=>rfl) (ps:=l) (rest:= []) a x;rwa [vF,vF] at this
theorem Gv (h:H)(id off:Nat){a b:V}(c:a.one=true)(d:b.one=true):Wj h 2 (.ptr id off) (.agg [a,b])=dX (h.get id) h id off [a,b]:=Cd h id off 2 _ rfl (by simp [c,d])
theorem abQ (S N:Nat)(v:V)(l:List (Nat×List Nat))(h:H)(hl:l.length=N)(hN:N<1000000)(ix: ∀j:Nat,j<N->Dz 2 v (aC j)=some (.ptr S (j*2)))(hS:0<N->S<h.next)(gS:0<N->h.get S=aZ (Cr l))(hs: ∀x∈l,x.1<1000000):
  Ev T 155 [v,aC 0,aC N,.fn 71 [] []] h (λ_ h'=>(0<N->h'.get S=aZ (Cr (Lr l)))/\Fx (· =S) h h'):=by
 refine cV fJ rfl ?_
 simp(disch:=omega)only[go_sem,fJ,aD,Int.zero_add]
 by_cases Z:N=0
 ·subst Z
  have e0:l= []:=List.length_eq_zero_iff.1 hl
  subst e0
  refine aH (λG f W=>(∃g:Nat->V,f= [g 0,g 1,aC 0,g 3,aC 1,g 5,g 6,g 7])/\h=W/\G=0) 0 ⟨aB rfl,rfl,rfl⟩ ?_
  rintro G f W ⟨⟨g,rfl⟩,rfl,rfl⟩
  simp(disch:=omega)only[go_sem,show decide ((1:Int)<0)=false from rfl]
  exact⟨λh=>om,Fx.refl _ _⟩
 have gS:=gS om
 have hS:=hS om
 have f1:Lr (l.take 1)++l.drop 1=l:=by
  cases l with
  |nil=>exact absurd hl.symm Z
  |cons a r=>rfl
 refine aH (λG f W=> ∃(i:Nat),(∃g:Nat->V,f= [v,aC 0,aC N,.fn 71 [] [],aC i,g 5,g 6,g 7])/\1<=i/\i<=N/\W.get S=aZ (Cr (Lr (l.take i)++l.drop i))/\Fx (· =S) h W/\G=N-i) (N- 1)
  ⟨1,aB rfl,om,om,by rw[f1];exact gS,Fx.refl _ h,rfl⟩ ?_
 rintro G f W ⟨i,⟨g,rfl⟩,a6,hi,gi,F,rfl⟩
 by_cases a4:(i:Int)<(N:Int)
 case neg=>
  have d1:=bH a4;obtain rfl:i=N:=om
  rw[←hl,List.take_length,List.drop_length,vF] at gi;simp(disch:=omega)only[go_sem,d1];exact⟨λ_=>gi,F⟩
 have d1:=bP a4
 have P:i<l.length:=om
 obtain⟨a5,len,mem⟩:=OJ l i om
 have st:=Yq P
 rw[AR P] at gi
 have hx:=hs _ (zG P)
 generalize l[i]=x at gi st hx
 simp(disch:=omega)only[go_sem,d1]
 refine xE (λvs h'=>(∃g:Nat->V,vs= [v,aC 0,aC N,.fn 71 [] [],aC i,g 5,g 6,g 7])/\h'.get S=aZ (Cr (Ep x (Lr (l.take i))++l.drop (i+1)))/\Fx (· =S) h h') ?_ ?_
 ·refine aH (λG f h'=> ∃(j:Nat),(∃g:Nat->V,f= [v,aC 0,aC N,.fn 71 [] [],aC i,aC j,g 6,g 7])/\j<=i/\(∀y∈(Lr (l.take i)).drop j,x.1<y.1)/\h'.get S=aZ (Cr ((Lr (l.take i)).take j++x::(Lr (l.take i)).drop j++l.drop (i+1)))/\Fx (· =S) h h'/\j=G) i
   ⟨i,aB rfl,fM _,λy s=>(by rw[List.drop_eq_nil_of_le om] at s;cases s),by rw[Tn om,List.drop_eq_nil_of_le om,Ll];exact gi,F,rfl⟩ ?_
  obtain⟨c,J⟩:=exI (Lr (l.take i))
  rw[J] at a5 len mem
  rw[J]
  obtain⟨Q,a2⟩:=exI (l.drop (i+1))
  rw[a2]
  rintro G f n ⟨j,⟨g,rfl⟩,hj,hB,O,F2,rfl⟩
  by_cases a1:(0:Int)<(j:Int)
  case neg=>
   have d2:=bH a1;obtain rfl:j=0:=om
   rw[List.take_zero,List.drop_zero,List.nil_append] at O;have im:=Pe (x:=x) (A:= []) (B:=c) (λy s=>by cases s) hB;rw[List.nil_append,List.nil_append] at im;simp(disch:=omega)only[go_sem,d2];exact⟨aB rfl,by rw[im];exact O,⟨by have:=F2.next;show _<=n.next+17;omega,λq h1 n=>F2.get q h1 n⟩⟩
  have d2:=bP a1
  have a7:1<=j:=om
  have ja:j- 1<c.length:=om
  obtain⟨d,o⟩:=exI (c.take j++x::c.drop j++Q)
  rw[o] at O
  have et:c.take j=c.take (j- 1)++ [c[j- 1]]:=by
   have:=List.take_succ_eq_append_getElem ja;rwa [show j- 1+1=j by omega] at this
  have u:(c.take (j- 1)).length=j- 1:=by rw[Fj,Nat.min_eq_left om]
  have lj:j<d.length:=by
   rw[←o,jZ,jZ,Fj,Nat.min_eq_left om,List.length_cons];omega
  have L:j- 1<d.length:=om
  have t:c.take (j- 1)++c[j- 1]::x::(c.drop j++Q)=d:=by rw[←o,et];simp only[Ll,List.cons_append,List.nil_append]
  have cj:d[j]=x:=by
   have:d[j]? =some x:=by
    rw[←t,Kk om,u,show j-(j- 1)=1 by omega];rfl
   rw[dD lj] at this;exact Option.some.inj this
  have Y:d[j- 1]=c[j- 1]:=by
   have:d[j- 1]? =some c[j- 1]:=by
    rw[←t,Kk om,u,Nat.sub_self];rfl
   rw[dD L] at this;exact Option.some.inj this
  obtain⟨y,s⟩:=exI (c[j- 1])
  have ys:y.1<1000000:=hs _ (mem y (by rw[←s];exact zG _))
  rw[s] at Y t
  have a0: ∀h':H,h'.get S=aZ (Cr d)->h'.row S (j*2) 2=some (Jj x)/\h'.row S ((j- 1)*2) 2=some (Jj y):=λh' hg=>by
   have s1:=FR lj;have s2:=FR L;rw[cj] at s1;rw[Y] at s2;unfold H.row;rw[hg];exact⟨s1,s2⟩
  have a3:=ix j om
  have K:=ix (j- 1) om
  have ej:(j:Int)- 1=((j- 1:Nat):Int):=om
  have n2:=F2.next
  have fb: ∀k,n.next<=k->Fr n (H.mk n.tr k):=λk hk=>(Fr.refl n).bA hk
  obtain⟨r1,r2⟩:=a0 n O
  simp(disch:=omega)only[go_sem,d2,ej,a3,K,r1,r2]
  refine (YC x y _ hx ys).mono ?_
  rintro _ h3 ⟨rfl,f3⟩
  have p:=(fb _ om).trans f3
  have g3:h3.get S=aZ (Cr d):=by rw[p.get S om];exact O
  obtain⟨r3,r4⟩:=a0 h3 g3
  have es: ∀l,dE (.str l) (.str l)=true:=λl=>by simp [dE]
  by_cases w:(x.1:Int)-(y.1:Int)<0
  case neg=>
   have d3:=bH w
   have hA: ∀z∈c.take j,z.1<=x.1:=λz U=>by
    obtain⟨m,hm,rfl⟩:=zF.1 U;rw[Fj,Nat.min_eq_left om] at hm;rw[List.getElem_take]
    by_cases e:m=j- 1
    ·subst e;rw[s];omega
    ·have:=JX.1 a5 m (j- 1) om ja om
     rw[s] at this;omega
   have im:=Pe hA hB;rw[List.take_append_drop] at im;simp(disch:=omega)only[go_sem,r3,r4,es,d3];exact⟨aB rfl,by rw[im,o];exact g3,⟨by have:=p.next;omega,λq h1 n=>by rw[p.get q om];exact F2.get q h1 n⟩⟩
  have d3:=bP w
  have p1: ∀R:H,dX (aZ (Cr d)) R S (j*2) (Jj y)=some (R.set S (aZ (Cr (d.set j y)))):=λR=>by simp only[dX,FJ lj,Option.map_some]
  have p2: ∀R:H,dX (aZ (Cr (d.set j y))) R S ((j- 1)*2) (Jj x)=some (R.set S (aZ (Cr ((d.set j y).set (j- 1) x)))):=λR=>by simp only[dX,FJ (show j- 1<(d.set j y).length by rw[List.length_set];exact L),Option.map_some]
  simp(disch:=omega)only[go_sem,r3,r4,es,d3,ej,a3,K,Gv _ S (j*2) (a:= aC (y.1:Int)) (b:= .str y.2) rfl rfl,Gv _ S ((j- 1)*2) (a:= aC (x.1:Int)) (b:= .str x.2) rfl rfl,g3,p1,p2]
  have ed:c.drop (j- 1)=y::c.drop j:=by rw[AR ja,s,show j- 1+1=j by omega]
  have el:(d.set j y).set (j- 1) x=c.take (j- 1)++x::c.drop (j- 1)++Q:=by
   rw[←t,List.set_append_right _ _ om,u,show j-(j- 1)=1 by omega,List.set_append_right _ _ om,u,Nat.sub_self,ed];simp
  have nf:=p.next
  refine⟨j- 1,om,j- 1,aB rfl,om,λz U=>?_,by rw[el],⟨by simp only[H.bY];show _<=h3.next+18;omega,λq h1 n=>?_⟩,rfl⟩
  ·rw[ed] at U
   rcases zH.1 U with rfl|U
   ·omega
   ·exact hB z U
  ·rw[H.aG _ n,H.aG _ n]
   show h3.get q=_
   rw[p.get q om]
   exact F2.get q h1 n
 rintro f n ⟨⟨g,rfl⟩,O,F2⟩
 simp(disch:=omega)only[go_sem]
 rw[eJ i]
 exact⟨N-(i+1),om,i+1,aB rfl,om,om,by rw[st];exact O,F2,rfl⟩
theorem Zy (S N:Nat)(v:V)(l:List (Nat×List Nat))(h:H)(m:l.length=N)(r:N<20)(o:bT v=some (aC N))(p: ∀j:Nat,j<N->Dz 2 v (aC j)=some (.ptr S (j*2)))(q:0<N->S<h.next)(n:0<N->h.get S=aZ (Cr l))(f: ∀x∈l,x.1<1000000):
  Ev T 70 [v,.fn 71 [] []] h (λ_ h'=>(0<N->h'.get S=aZ (Cr (Lr l)))/\Fx (· =S) h h'):=by
 refine cV dQ rfl ?_
 simp(disch:=omega)only[go_sem,dQ,aD,o]
 refine Ev.mono (Q:=λ_ h'=>(0<N->h'.get S=aZ (Cr (Lr l)))/\Fx (· =S) h h') ?_ ?_
 ·refine cV iK rfl ?_
  simp(disch:=omega)only[go_sem,iK,aD]
  have k:decide ((20:Int)<=(N:Int))=false:=bH om
  have i:decide ((20:Int)<(N:Int))=false:=bH om
  refine aH (λb a c=>(∃g:Nat->V,a= [v,aC N,.fn 71 [] [],aC 20,aC 0,aC 20,g 6,g 7,g 8,g 9,g 10])/\h=c/\b=0) 0 ⟨aB rfl,rfl,rfl⟩ ?_
  rintro b a c ⟨⟨g,rfl⟩,rfl,rfl⟩
  simp(disch:=omega)only[go_sem,k]
  refine (abQ S N v l h m om p q n f).mono ?_
  rintro _ e ⟨d,F2⟩
  simp(disch:=omega)only[go_sem]
  refine aH (λb a c=>(∃g:Nat->V,a= [g 0,aC N,g 2,aC 20,g 4,g 5,g 6,g 7,g 8,g 9,g 10])/\e=c/\b=0) 0 ⟨aB rfl,rfl,rfl⟩ ?_
  rintro b a c ⟨⟨g,rfl⟩,rfl,rfl⟩
  simp(disch:=omega)only[go_sem,i]
  exact⟨d,F2⟩
 rintro _ e ⟨d,F2⟩
 simp(disch:=omega)only[go_sem]
 exact⟨d,F2⟩
end
def LY:Nat->Nat->Nat->Nat
 |0,_,p=>p
 |f+1,q,p=>if q%p=0 then p else LY f q (p+1)
def NG:Nat->Nat->Nat->Nat->Nat×Nat
 |0,_,k,r=>(k,r)
 |f+1,p,k,r=>if r%p=0 then NG f p (k+1) (r/p) else (k,r)
def Eg (p k q r:Nat):List (Nat×List Nat):=if r=1 then List.replicate k (p,67::vT p) else match Eh.find? (λx=>x.1==q) with|some x=> [(q,x.2)]|none=> []
def iY (q:Nat):List (Nat×List Nat):=Eg (LY (q- 2) q 2) (NG q (LY (q- 2) q 2) 0 q).1 q (NG q (LY (q- 2) q 2) 0 q).2
def mU:List Nat->List (Nat×List Nat)
 |a::b::r=>iY (b/a)++mU (b::r)
 |_=> []
theorem Qr: ∀(l:List Nat) (i:Nat) (hi:i+1<l.length),mU (l.take (i+2))=mU (l.take (i+1))++iY (l[i+1]/l[i])
 |a::b::r,0,_=>by simp [mU]
 |a::b::r,i+1,hi=>by
  have c:i+1<(b::r).length:=by simpa using hi
  have:=Qr (b::r) i c;have e: ∀k,mU (a::b::r.take k)=iY (b/a)++mU (b::r.take k):=λk=>rfl
  show mU (a::b::r.take (i+1))=mU (a::b::r.take i)++_;rw[e,e];have d:mU (b::r.take (i+1))=mU (b::r.take i)++iY ((b::r)[i+1]/(b::r)[i]):=this;rw[d,Ll]
  rfl
theorem SJ {p k q r:Nat}(b:2<=p)(a:2<=q)(h:q=p^k*r)(c:1<=r):2^(Eg p k q r).length<=q:=by
 unfold Eg;split
 ·rename_i e
  rw[List.length_replicate,h,e,uW];exact Nat.pow_le_pow_left b k
 ·split
  ·exact a
  ·show 1<=q;omega
section
variable {n:Nat} {G:List Nat->Prop} {L:LN} {K r:List Nat} {rs:LN} (hG:iX n G) (E:dW G L)
theorem UA (E:dW G L)(k:xJ n G L r):dW (RG L r) (r.map λi=>L.getD i []):=by
 refine⟨List.pairwise_map.2 (List.Pairwise.imp_of_mem (λ{i j} hi c (h:i<j)=>?_) k.rk.asc),λx=>?_⟩
 ·have b:=((k.rk.mem i).1 hi).1
  have a:=((k.rk.mem j).1 c).1;rw[List.getD,dD b,List.getD,dD a];exact JX.1 E.asc i j b a h
 ·rw[uF]
  exact Iff.rfl
include hG E
theorem abS (c:Ql n G L K rs r)(b:Cm n G L K){i:Nat}(hi:i+1<rs.length):2*rs[i].length<=rs[i+1].length:=by
 have a:=c.all _ (zG (show i<rs.length by omega));have d:=c.all _ (zG hi);obtain⟨l,k⟩:=c.st i _ _ (dD om) (dD hi);obtain⟨⟨j,h,f,e⟩,_⟩:=Fv hG E a b l;rw[←k] at e;have g:=Gw a (b.lt h) f;rw[←e] at g;have:=dbl (x:=L.getD j []) a.dN d.dN (UA E a) (UA E d) (λy ⟨t,ht,e⟩=>⟨t,g.1 t ht,e⟩) ⟨j,g.2.1,rfl⟩ λ⟨t,ht,e⟩=>f (by rw[←yK E.nodup ((a.rk.mem t).1 ht).1 (b.lt h) e];exact ht)
 simpa using this
end
section
variable {b n:Nat} {h:H} {v:V} {l:List (Nat×List Nat)}
def HQ (b:Nat)(h:H)(v:V)(l:List (Nat×List Nat)):Prop:=(l= []/\v= .aE)∨ ∃S,v= .sl S 0 l.length (.un 2)/\h.get S=aZ (Cr l)/\S<h.next/\b<=S/\0<l.length
theorem HQ.mono {h':H}(r:HQ b h v l)(f:Fr h h'):HQ b h' v l:=by
 rcases r with r|⟨S,e,g,a,d,c⟩
 ·exact .inl r
 ·exact .inr ⟨S,e,by rw[f.get S a];exact g,iW a f.next,d,c⟩
theorem HQ.own (r:HQ b h v l):cY h v 2 (Cr l) b:=by
 rcases r with ⟨rfl,rfl⟩|⟨S,rfl,g,a,c,d⟩
 ·exact cY.aE _ _ _
 ·exact .inr ⟨S,l.length,_, [],rfl,Hl l,.inl rfl,c,a,by rw[vF];exact g⟩
theorem EN {D:Nat}{x:Nat×List Nat}(r:HQ b h v l)(i:b<=h.next)(t:l.length<1000000)(d:D<h.next)(f:h.get D=aZ (Jj x)):
  ∃v' h',xQ h 2 24 v (.sl D 0 1 (.kn 1))=some (v',h')/\HQ b h' v' (l++ [x])/\h.next<=h'.next/\ ∀q,q<b->h'.get q=h.get q:=by
 have o:=r.own
 obtain⟨h',a,p⟩:=(o.le (iJ _)).push (bytes:=24) (SV.all (sz:=2) (len:=1) (vs:=Jj x) rfl d f (.kn 1)) (n:=l.length) (m:=1) (Hl l) rfl om om om
 have j:=p.next
 refine⟨_,h',a,.inr ⟨h.next,by rw[jZ];rfl,by rw[ZW];exact p.get,om,i,by rw[jZ];exact Nat.succ_pos _⟩,om,λq k=>p.old q om λid g m c e s=>by have:=(o.in _ _ _ _ e).2.1;omega⟩
theorem NS (h:H)(z:Int)(s:List Nat):lQ h 2 [aC 0,.str []] 1 [(0,2,.agg [aC z,.str s])]=some (.sl h.next 0 1 (.kn 1),h.new (.cells false [aC z,.str s])):=rfl
theorem AV.sz {W:Nat->Prop}{G:List Nat->Prop}{L:LN}{p:V×V}{r:List Nat}(g:AV W n L h p r)(E:dW G L)(k:xJ n G L r):
  Ev T 65 [.agg [aC n,p.1,p.2]] h (λv h'=>v= aC (r.length:Nat)/\Fr h h'):=by
 obtain⟨O,R,a⟩:=g
 refine (vW _ n O R _ h a).mono ?_
 rintro _ h' ⟨rfl,f⟩
 rw[k.rk.len k.dN a.isc E k.le]
 exact⟨rfl,f⟩
theorem AV.eq {W:Nat->Prop}{L:LN}{p:V×V}{r:List Nat}(g:AV W n L h p r):dE p.1 p.1=true/\dE p.2 p.2=true:=by
 obtain⟨O,R,g⟩:=g;obtain⟨_,_,_,_,e,c,_,_,a,_,_⟩:=g.cw;simp only[V.agg.injEq,List.cons.injEq,and_true,true_and] at e;rw[e.1,e.2];exact⟨SV.dE c,SV.dE a⟩
theorem abC {sz i o j q:Nat}(a:Sl v sz n i o)(b:Sl v sz n j q)(h:0<n):i=j/\o=q:=by
 have e:=(a.ixa .i64 0 om om).symm.trans (b.ixa .i64 0 om om);simpa using e
theorem NZ: ∀{l:List (Nat×List Nat)} {i:Nat} (hi:i<l.length),(Cr l)[i*2+1]? =some (V.str l[i].2)
 |x::l,0,_=>rfl
 |x::l,i+1,hi=>by
  show (Jj x++Cr l)[(i+1)*2+1]? =_;rw[Kk (by show 2<=(i+1)*2+1;omega)];show (Cr l)[(i+1)*2+1- 2]? =_;rw[show (i+1)*2+1- 2=i*2+1 by omega];exact NZ (by simpa using hi)
theorem SC: ∀k (hk:k<Eh.length),Eh.find? (λx=>x.1==Eh[k].1)=some Eh[k]:=by decide
theorem acO:Eh.Pairwise λx y=>x.1<y.1:=by decide
theorem KU: ∀x∈Eh,x.1<1000000:=by decide
theorem adH (l:List Nat):mU (l.take 1)= []:=by cases l<;>rfl
theorem Uu (l:List (Nat×List Nat)):(Lr l).length=l.length:=by
 have:=(OJ l l.length (fM _)).2.1;rwa [List.take_length] at this
theorem HQ.sort (r:HQ b h v l)(s:b<=h.next)(m:l.length<20)(a: ∀x∈l,x.1<1000000):
  Ev T 70 [v,.fn 71 [] []] h (λ_ h'=>HQ b h' v (Lr l)/\h.next<=h'.next/\ ∀q,q<b->h'.get q=h.get q):=by
 rcases r with ⟨rfl,rfl⟩|⟨S,rfl,g,k,e,d⟩
 ·refine (Zy h.next 0 .aE [] h rfl om rfl (λj c=>om) (λh=>om) (λh=>om) a).mono ?_
  rintro o h' ⟨_,F⟩
  exact⟨.inl ⟨rfl,rfl⟩,F.next,λq i=>F.get q om om⟩
 ·refine (Zy S l.length _ l h rfl m rfl (λj c=>by simp [Dz,c]) (λ_=>k) (λ_=>g) a).mono ?_
  rintro o h' ⟨f,F⟩
  have p:=F.next
  exact⟨.inr ⟨S,by rw[Uu],f d,om,e,by rw[Uu];exact d⟩,F.next,λq i=>F.get q om om⟩
def Pl (rs:LN):LN:=(Lr (mU (rs.map List.length))).map Prod.snd
theorem CR {W0:Nat->Prop}(vc:V)(n:Nat)(O:LN)(R:jI)(G:List Nat->Prop)(h:H)(gc:GC W0 h vc n O R G):
  Ev T 14 [vc] h (λv h'=> ∃vl L K rs,v= .tup [vl,aC 0]/\cZ O R n 0 (bL n)=L/\Cm n G L K/\Ky n G L K rs/\SV h' vl 1 ((Pl rs).map V.str)/\(Pl rs).length<20/\Fr h h'):=by
 obtain⟨vO,vR,rfl,b6,b8⟩:=gc.shape
 refine cV wV rfl ?_
 obtain⟨A,hA⟩:=exI h.next
 obtain⟨h1,e1,n1,g1,q1,f1⟩:=dF hA [aC n,vO,vR]
 simp(disch:=omega)only[go_sem,wV,aD,bM h (v:= aC n) (u:=vO) (w:=vR) rfl b6 b8,hA,e1,aI g1]
 refine (Ph _ n O R G h1 (gc.mono f1)).mono ?_
 rintro _ h2 ⟨vl,ls,L,K,rs,rfl,eL,ik,cl,sv,al,f2⟩
 have hG:=gc.dN
 obtain⟨E,eE⟩:=dM gc.dN gc.isc
 rw[eL] at E eE
 have ll:=jH gc
 obtain⟨rl,cb,g0⟩:=cl.ex
 have c6:=aM.length al
 have f9:=cb.len
 have lv:bT vl=some (aC (rs.length:Int)):=by unfold bT;rw[SV.len sv (n:=rs.length) (by rw[lC,c6]) om];rfl
 have r0:0<rs.length:=(Ax.1 cb.hd).1
 have sb: ∀i (hi:i<rs.length),1<=rs[i].length/\rs[i].length<=5040:=λi hi=>by
  have k:=cb.all _ (zG hi);have:=k.rk.short;refine⟨?_,om⟩;obtain⟨j,hj,_⟩:=k.dN.one;exact HJ hj
 obtain⟨sz,a7⟩:=exI (rs.map List.length)
 have f0:sz.length=rs.length:=by rw[←a7,jV]
 have J: ∀i (hi:i<rs.length),sz[i]'om=rs[i].length:=λi hi=>by subst a7;rw[List.getElem_map]
 have c2: ∀j,sz.getD j 0<=5040:=λj=>by
  by_cases hj:j<rs.length
  ·rw[List.getD,dD om,Option.getD_some,J j hj]
   exact (sb j hj).2
  ·rw[List.getD,List.getElem?_eq_none om];exact iJ _
 simp(disch:=omega)only[go_sem]
 refine aW (λhc=>(hc rfl).elim) (λ_=>?_)
 obtain⟨b,hb⟩:=exI h2.next
 simp(disch:=omega)only[go_sem]
 refine bJ (λvs Q=> ∃z,(∃g:Nat->V,vs= [g 0,g 1,g 2,g 3,g 4,g 5,z,g 7,g 8,g 9,g 10,g 11,g 12,g 13,g 14,g 15,g 16,g 17,g 18,g 19,g 20,g 21,g 22,g 23,g 24,g 25,g 26,g 27,g 28,g 29])/\HQ b Q z (mU sz)/\2^(mU sz).length<=5040/\(∀x∈mU sz,x.1<1000000)/\Fr h2 Q) ?_ ?_
 ·refine aH (λB d Q=> ∃(i:Nat) (z:V),(∃g:Nat->V,d= [g 0,g 1,g 2,g 3,vl,g 5,z,aC i,g 8,g 9,g 10,g 11,g 12,g 13,g 14,g 15,g 16,g 17,g 18,g 19,g 20,g 21,g 22,g 23,g 24,g 25,g 26,g 27,g 28,g 29])/\1<=i/\i<=rs.length/\HQ b Q z (mU (sz.take i))/\2^(mU (sz.take i)).length<=sz.getD (i- 1) 0/\(∀x∈mU (sz.take i),x.1<1000000)/\Fr h2 Q/\B=rs.length-i) (rs.length- 1)
   ⟨1,.aE,aB rfl,om,om,?_,?_,?_,Fr.refl _,rfl⟩ ?_
  ·rw[adH];exact .inl ⟨rfl,rfl⟩
  ·rw[adH,List.getD,dD om,Option.getD_some,J 0 r0]
   exact (sb 0 r0).1
  ·rw[adH];exact λx P=>by cases P
  rintro B d Q ⟨i,z,⟨g,rfl⟩,g4,hi,fr,bd,sm,F,rfl⟩
  by_cases Y:(i:Int)<(rs.length:Int)
  case neg=>
   have d1:=bH Y;obtain rfl:i=rs.length:=om
   rw[←f0,List.take_length] at fr bd sm;simp(disch:=omega)only[go_sem,lv,d1];exact⟨z,aB rfl,fr,mT bd (c2 _),sm,F⟩
  have d1:=bP Y
  have W:i<rs.length:=om
  have U:i- 1<rs.length:=om
  obtain⟨ia,oa,a5,ra,na⟩:=SV.rec (k:=3) (f:=λp:V×V=> [aC n,p.1,p.2]) om (λ_=>rfl) (sv.mono F) (i:=i) om
  obtain⟨ib,ob,a3,rb,nb⟩:=SV.rec (k:=3) (f:=λp:V×V=> [aC n,p.1,p.2]) om (λ_=>rfl) (sv.mono F) (i:=i- 1) om
  obtain⟨rfl,rfl⟩:=abC a5 a3 om
  have ga:=(aM.get al i om W).go (Fx.of F) (W':=λ_=>False) λ_ _ h=>h
  have gb:=(aM.get al (i- 1) om U).go (Fx.of F) (W':=λ_=>False) λ_ _ h=>h
  have ei:(i:Int)- 1=((i- 1:Nat):Int):=om
  have fb: ∀m,Q.next<=m->Fr Q (H.mk Q.tr m):=λm hm=>(Fr.refl Q).bA hm
  simp(disch:=omega)only[go_sem,lv,d1,a5.ixa,ra,ei,a3.ixa,rb]
  refine ((ga.go (Fx.of (fb (Q.next+13) om)) (W':=λ_=>False) λ_ _ h=>h).sz E (cb.all _ (zG W))).mono ?_
  rintro _ h3 ⟨rfl,f3⟩
  have a2:=(fb _ om).trans f3
  have b5:h3.row ia (oa+(i- 1)*3) 3=some [aC n,ls[i- 1].1,ls[i- 1].2]:=by rw[DL a2 nb];exact rb
  have eb:=gb.eq
  simp(disch:=omega)only[go_sem,b5,eb.1,eb.2]
  refine ((gb.go (Fx.of a2) (W':=λ_=>False) λ_ _ h=>h).sz E (cb.all _ (zG U))).mono ?_
  rintro _ h4 ⟨rfl,f4⟩
  have F4:=F.trans (a2.trans f4)
  obtain⟨q,o⟩:=exI (rs[i].length/rs[i- 1].length)
  have s1:=sb (i- 1) U
  have s2:=sb i W
  have db:=abS hG E cb ik (i:=i- 1) om
  simp only[show i- 1+1=i by omega] at db
  have q2:2<=q:=by rw[←o];exact (Nat.le_div_iff_mul_le om).2 db
  have q3:rs[i- 1].length*q<=rs[i].length:=by rw[←o];exact Nat.mul_div_le _ _
  have q4:q<=5040:=mT (by rw[←o];exact Nat.div_le_self _ _) s2.2
  have c3:Int.tdiv ((rs[i].length:Nat):Int) ((rs[i- 1].length:Nat):Int)=(q:Int):=by rw[←o];rfl
  have z0:decide (((rs[i- 1].length:Nat):Int)=0)=false:=bH om
  simp(disch:=omega)only[go_sem,c3,z0]
  clear c3 z0 b5 ra rb a5 a3
  refine bJ (λvs h'=>h'=h4/\ ∃p:Nat,(∃g:Nat->V,vs= [g 0,g 1,g 2,g 3,vl,g 5,z,aC i,aC q,aC p,g 10,g 11,g 12,g 13,g 14,g 15,g 16,g 17,g 18,g 19,g 20,g 21,g 22,g 23,g 24,g 25,g 26,g 27,g 28,g 29])/\2<=p/\p<=q/\q%p=0/\p=LY (q- 2) q 2) ?_ ?_
  ·refine aH (λB d h'=> ∃(p:Nat),(∃g:Nat->V,d= [g 0,g 1,g 2,g 3,vl,g 5,z,aC i,aC q,aC p,g 10,g 11,g 12,g 13,g 14,g 15,g 16,g 17,g 18,g 19,g 20,g 21,g 22,g 23,g 24,g 25,g 26,g 27,g 28,g 29])/\2<=p/\p<=q/\LY (q-p) q p=LY (q- 2) q 2/\h4=h'/\B=q-p) (q- 2)
    ⟨2,aB rfl,fM _,q2,rfl,rfl,rfl⟩ ?_
   rintro B d h' ⟨p,⟨g,rfl⟩,p2,pq,lp,rfl,rfl⟩
   have em:Int.tmod (q:Int) (p:Int)=((q%p:Nat):Int):=rfl
   have z0:decide ((p:Int)=0)=false:=bH om
   by_cases hz:q%p=0
   ·have dz:decide (((q%p:Nat):Int)≠0)=false:=bH om
    have e:p=LY (q- 2) q 2:=by
     rw[←lp]
     cases q-p with
     |zero=>rfl
     |succ f=>show p=if q%p=0 then p else _;rw[bF hz]
    simp(disch:=omega)only[go_sem,em,z0,dz]
    exact⟨p,aB rfl,p2,pq,hz,e⟩
   ·have dz:decide (((q%p:Nat):Int)≠0)=true:=bP om
    have pl:p<q:=Nat.lt_of_le_of_ne pq λe=>hz (by rw[e];exact Nat.mod_self q)
    have e:LY (q-(p+1)) q (p+1)=LY (q- 2) q 2:=by
     rw[←lp,show q-p=(q-(p+1))+1 by omega];show _=if q%p=0 then p else _
     rw[bI hz]
    simp(disch:=omega)only[go_sem,em,z0,dz]
    rw[eJ p]
    exact⟨q-(p+1),om,p+1,aB rfl,om,pl,e,rfl⟩
  rintro d h' ⟨rfl,p,⟨g,rfl⟩,p2,pq,hz,ep⟩
  simp(disch:=omega)only[go_sem]
  refine bJ (λvs h5=>Fr h' h5/\ ∃k r:Nat,(∃g:Nat->V,vs= [g 0,g 1,g 2,g 3,vl,g 5,z,aC i,aC q,aC p,aC k,aC r,g 12,g 13,g 14,g 15,g 16,g 17,g 18,g 19,g 20,g 21,g 22,g 23,g 24,g 25,g 26,g 27,g 28,g 29])/\q=p^k*r/\1<=r/\(k,r)=NG q p 0 q) ?_ ?_
  ·refine aH (λB d h5=> ∃(k r f:Nat),(∃g:Nat->V,d= [g 0,g 1,g 2,g 3,vl,g 5,z,aC i,aC q,aC p,aC k,aC r,g 12,g 13,g 14,g 15,g 16,g 17,g 18,g 19,g 20,g 21,g 22,g 23,g 24,g 25,g 26,g 27,g 28,g 29])/\q=p^k*r/\1<=r/\r<=f/\NG f p k r=NG q p 0 q/\k<1000000-r/\Fr h' h5/\r=B) q
    ⟨0,q,q,aB rfl,by simp,om,fM _,rfl,om,Fr.refl _,rfl⟩ ?_
   rintro B d h5 ⟨k,r,f,⟨g,rfl⟩,eq,r1,rf,sf,kb,f5,rfl⟩
   have em:Int.tmod (r:Int) (p:Int)=((r%p:Nat):Int):=rfl
   have z0:decide ((p:Int)=0)=false:=bH om
   have rq:r<=q:=by rw[eq];exact Nat.le_mul_of_pos_left _ (Nat.pow_pos om)
   by_cases hz:r%p=0
   ·have dz:decide (((r%p:Nat):Int)=0)=true:=bP om
    have ed:Int.tdiv (r:Int) (p:Int)=((r/p:Nat):Int):=rfl
    obtain⟨f',rfl⟩: ∃f',f=f'+1:=⟨f- 1,om⟩
    have e:NG f' p (k+1) (r/p)=NG q p 0 q:=by
     rw[←sf];show _=if r%p=0 then _ else _
     rw[bF hz]
    have rd:r/p<r:=Nat.div_lt_self om om
    have rm:p*(r/p)=r:=Nat.mul_div_cancel' (Nat.dvd_of_mod_eq_zero hz)
    have rp:1<=r/p:=Nat.pos_of_ne_zero λe=>by rw[e,Nat.mul_zero] at rm;omega
    have e2:q=p^(k+1)*(r/p):=by rw[Nat.pow_succ,Nat.mul_assoc,rm];exact eq
    simp(disch:=omega)only[go_sem,em,z0,dz,ed]
    rw[eJ k]
    exact⟨r/p,rd,k+1,r/p,f',aB rfl,e2,rp,om,e,om,f5.trans ((Fr.refl _).bA om),rfl⟩
   ·have dz:decide (((r%p:Nat):Int)=0)=false:=bH om
    have e:(k,r)=NG q p 0 q:=by
     rw[←sf]
     cases f with
     |zero=>omega
     |succ f=>show _=if r%p=0 then _ else _;rw[bI hz]
    simp(disch:=omega)only[go_sem,em,z0,dz]
    exact⟨f5,k,r,aB rfl,eq,r1,e⟩
  rintro d h5 ⟨f5,k,r,⟨g,rfl⟩,d0,r1,c8⟩
  have F5:=F4.trans f5
  have b9:=fr.mono ((a2.trans f4).trans f5)
  have d4:iY q=Eg p k q r:=by
   unfold iY;rw[←ep,←c8]
  have N:mU (sz.take (i+1))=mU (sz.take i)++Eg p k q r:=by
   have:=Qr sz (i- 1) om;simp only[show i- 1+2=i+1 by omega,show i- 1+1=i by omega] at this;rw[J i W,J (i- 1) U,o,d4] at this;exact this
  have a1:2^(mU (sz.take (i+1))).length<=sz.getD (i+1- 1) 0:=by
   rw[N,jZ,Nat.pow_add,Nat.add_sub_cancel,List.getD,dD om,Option.getD_some,J i W];rw[List.getD,dD om,Option.getD_some,J (i- 1) U] at bd;exact mT (Nat.mul_le_mul bd (SJ p2 q2 d0 r1)) q3
  have h0:b<=h5.next:=by have:=F5.next;omega
  have d9: ∀{m s:Nat},2^m<=s->s<=5040->m<20:=λ{m s} h1 h2=>Jg λh=>by
   have:=Nat.pow_le_pow_right (show 0<2 by omega) (show 20<=m by omega);have e:2^20=1048576:=rfl;omega
  have a0:=d9 a1 (c2 _)
  have a4:(∀x∈Eg p k q r,x.1<1000000)-> ∀x∈mU (sz.take (i+1)),x.1<1000000:=λh x P=>by
   rw[N] at P;exact (pH.1 P).elim (sm x) (h x)
  rw[N,jZ] at a0
  by_cases b0:r=1
  ·have d2:decide ((r:Int)=1)=true:=bP om
   have ef:Eg p k q r=List.replicate k (p,67::vT p):=by unfold Eg;rw[bF b0]
   rw[ef,List.length_replicate] at a0
   have e0:=a4 (by rw[ef];exact λx P=>by rw[(List.mem_replicate.1 P).2];show p<_;omega)
   simp(disch:=omega)only[go_sem,d2]
   refine bJ (λvs h'=> ∃t,(∃g:Nat->V,vs= [g 0,g 1,g 2,g 3,vl,g 5,t,aC i,g 8,g 9,g 10,g 11,g 12,g 13,g 14,g 15,g 16,g 17,g 18,g 19,g 20,g 21,g 22,g 23,g 24,g 25,g 26,g 27,g 28,g 29])/\HQ b h' t (mU (sz.take i)++List.replicate k (p,67::vT p))/\Fr h2 h') ?_ ?_
   ·refine aH (λB d h'=> ∃(j:Nat) (t:V),(∃g:Nat->V,d= [g 0,g 1,g 2,g 3,vl,g 5,t,aC i,g 8,aC p,g 10,g 11,g 12,g 13,g 14,g 15,g 16,g 17,g 18,g 19,g 20,g 21,aC k,aC j,g 24,g 25,g 26,g 27,g 28,g 29])/\j<=k/\HQ b h' t (mU (sz.take i)++List.replicate j (p,67::vT p))/\Fr h2 h'/\B=k-j) k
     ⟨0,z,aB rfl,iJ _,by rw[List.replicate_zero,vF];exact b9,F5,rfl⟩ ?_
    rintro B d h6 ⟨j,w6,⟨g,rfl⟩,g3,Z,F6,rfl⟩
    by_cases c1:(j:Int)<(k:Int)
    case neg=>
     have d3:=bH c1;obtain rfl:j=k:=om
     simp(disch:=omega)only[go_sem,d3];exact⟨w6,aB rfl,Z,F6⟩
    have d3:=bP c1
    simp(disch:=omega)only[go_sem,d3]
    refine (WZ p h6 om).mono ?_
    rintro _ h7 ⟨rfl,f7⟩
    have dl:=Yf p
    obtain⟨D,hD⟩:=exI h7.next
    obtain⟨h8,e8,n8,g8,q8,f8⟩:=dF hD (Jj (p,67::vT p))
    have n7:=F6.next
    have g2:=f7.next
    obtain⟨t,h9,a9,a6,n9,o9⟩:=EN (x:=(p,67::vT p)) ((Z.mono f7).mono f8) om (by rw[jZ,List.length_replicate];omega) om g8
    have d6:ZX h7 (.str [67]) (.str (vT p))=some (.str (67::vT p),h7):=SZ h7 (a:= [67]) (b:=vT p) (by show 1+_<_;omega)
    simp(disch:=omega)only[go_sem,GF,d6,DM,NS,hD,e8,a9]
    rw[eJ j]
    exact⟨k-(j+1),om,j+1,t,aB rfl,om,by rw[List.replicate_succ',←Ll];exact a6,⟨om,λq' b1=>by rw[o9 q' om,q8 q' om,f7.get q' om];exact F6.get q' b1⟩,rfl⟩
   rintro d h6 ⟨w6,⟨g,rfl⟩,Z,F6⟩
   simp(disch:=omega)only[go_sem]
   rw[eJ i]
   exact⟨rs.length-(i+1),om,i+1,w6,aB rfl,om,om,by rw[N,ef];exact Z,a1,e0,F6,rfl⟩
  have d2:decide ((r:Int)=1)=false:=bH om
  simp(disch:=omega)only[go_sem,d2]
  refine (RA h5).mono ?_
  rintro vt h6 ⟨b3,f6⟩
  simp(disch:=omega)only[go_sem]
  refine (TF vt Eh q h6 (by decide) om KU acO b3).mono ?_
  rintro _ h7 ⟨kk,bb,rfl,c7,d8,f7⟩
  have F7:=F5.trans (f6.trans f7)
  have b2:=b9.mono (f6.trans f7)
  cases bb with
  |false=>
   have ef:Eg p k q r= []:=by
    unfold Eg;rw[bI b0,List.find?_eq_none.2 λx P=>by simpa using d8 rfl x P]
   simp(disch:=omega)only[go_sem];rw[eJ i];exact⟨rs.length-(i+1),om,i+1,z,aB rfl,om,om,by rw[N,ef,vF];exact b2,a1,a4 (by rw[ef];exact λx P=>by cases P),F7,rfl⟩
  |true=>
   obtain⟨hk,ek⟩:=c7 rfl
   have ef:Eg p k q r= [(q,Eh[kk].2)]:=by
    have:=SC kk hk;rw[ek] at this;unfold Eg;rw[bI b0,this]
   obtain⟨it,ot,c9,_,ct⟩:=(b3.mono f7).shape Eh.length (Hl _) om;have ck:=(ct (kk*2+1) (by rw[Hl];omega)).trans (NZ hk);rw[←Nat.add_assoc] at ck;obtain⟨D,hD⟩:=exI h7.next;obtain⟨h8,e8,n8,g8,q8,f8⟩:=dF hD (Jj (q,Eh[kk].2));have n7:=F7.next;obtain⟨t,h9,a9,a6,n9,o9⟩:=EN (x:=(q,Eh[kk].2)) (b2.mono f8) om om om g8;simp(disch:=omega)only[go_sem,c9.ixa,ck,DM,NS,hD,e8,a9];rw[eJ i];exact⟨rs.length-(i+1),om,i+1,t,aB rfl,om,om,by rw[N,ef];exact a6,a1,a4 (by rw[ef];exact λx P=>by rw[List.mem_singleton.1 P];show q<_;omega),⟨om,λq' b1=>by rw[o9 q' om,q8 q' om];exact F7.get q' b1⟩,rfl⟩
 rintro d Q ⟨z,⟨g,rfl⟩,fr,bd,sm,F⟩
 have nF:=F.next
 have a0:(mU sz).length<20:=Jg λh=>by
  have:=Nat.pow_le_pow_right (show 0<2 by omega) (show 20<=(mU sz).length by omega);have e:2^20=1048576:=rfl;omega
 simp(disch:=omega)only[go_sem]
 refine (fr.sort om a0 sm).mono ?_
 rintro w3 h3 ⟨c5,n3,o3⟩
 have F3:Fr h2 h3:=⟨om,λq o=>by rw[o3 q om,F.get q o]⟩
 obtain⟨y,b4⟩:=exI (Lr (mU sz))
 have e4:=Uu (mU sz)
 rw[b4] at c5 e4
 have en:Pl rs=y.map Prod.snd:=by unfold Pl;rw[a7,b4]
 have b7:SV h3 z 2 (Cr y):=c5.own.sv
 have e9:=Yx b7
 simp(disch:=omega)only[go_sem,e9]
 refine aH (λB d h'=> ∃(j:Nat) (w:V),(∃g:Nat->V,d= [g 0,g 1,g 2,g 3,g 4,g 5,g 6,g 7,g 8,g 9,g 10,g 11,g 12,g 13,g 14,w,g 16,g 17,g 18,g 19,g 20,g 21,g 22,g 23,g 24,g 25,z,aC (y.length:Int),aC j,g 29])/\j<=y.length/\cY h' w 1 ((y.take j).map λx=>V.str x.2) h3.next/\Fr h3 h'/\B=y.length-j) y.length
  ⟨0,.aE,aB rfl,iJ _,cY.aE _ _ _,Fr.refl _,rfl⟩ ?_
 rintro B d h4 ⟨j,w,⟨g,rfl⟩,hj,ow,F4,rfl⟩
 by_cases Y:(j:Int)<(y.length:Int)
 case neg=>
  have d1:=bH Y;obtain rfl:j=y.length:=om
  rw[List.take_length] at ow;simp(disch:=omega)only[go_sem,d1];refine⟨w,L,K,rs,rfl,eL,ik,cl,by rw[en,List.map_map];exact ow.sv,by rw[en,jV];omega,f1.trans (f2.trans (F3.trans F4))⟩
 have d1:=bP Y
 have c4:j<y.length:=om
 obtain⟨ij,oj,d5,rj,_⟩:=Ul (b7.mono F4) c4
 obtain⟨C,hC⟩:=exI h4.next
 obtain⟨h5,e5,n5,g5,q5,f5⟩:=dF hC [aC 0,.str []]
 obtain⟨h6,e6,n6,g6,q6⟩:=pJ h5 C (Jj y[j])
 obtain⟨h7,e7,n7,g7,q7,f7⟩:=dF (h:=h6) (n6.trans n5) [.str y[j].2]
 have c0:Fr h4 h7:=⟨om,λq o=>by rw[q7 q om,q6 q om,q5 q om]⟩
 have n4:=F4.next
 have lt:((y.take j).map λx=>V.str x.2).length=j:=by rw[jV,Fj,Nat.min_eq_left hj]
 obtain⟨h8,a8,p8⟩:=((ow.fr c0).le (iJ _)).push (bytes:=16) (SV.one om g7 (.kn 1)) (n:=j) (m:=1) om rfl om om om
 have n8:=p8.next
 have d7: ∀(o:H) (id:Nat),dX (aZ [aC 0,.str []]) o id 0 (Jj y[j])=some (o.set id (aZ (Jj y[j]))):=λo id=>by simp [dX,putAt]
 have e3: ∀(o:H) (s:List Nat),lQ o 1 [.str []] 1 [(0,1,.str s)]=some (.sl o.next 0 1 (.kn 1),o.new (.cells false [.str s])):=λo s=>cT o rfl rfl
 simp(disch:=omega)only[go_sem,d1,d5.ixa,rj,hC,e5,Gv _ C 0 (a:= aC (y[j].1:Int)) (b:= .str y[j].2) rfl rfl,g5,d7,e6,H.aF g6,e3,n6,n5,e7,a8]
 rw[eJ j]
 refine⟨y.length-(j+1),om,j+1,_,aB rfl,om,?_,⟨om,λq o=>?_⟩,rfl⟩
 ·rw[List.take_succ_eq_append_getElem c4,List.map_append]
  exact p8.own om rfl om
 ·rw[p8.old q om λid g9 m c e e2=>by have:=(ow.in _ _ _ _ e).2.1;omega,c0.get q om]
  exact F4.get q o
end
section
variable {n:Nat} {x y z a b:List Nat}
theorem ahL (A:bE n a)(Y:bE n y)(B:bE n b):aX (aX a y) (aX (dA y) b)=aX a b:=by
 rw[aV A Y (Y.inv.mul B),←aV Y Y.inv B,fC Y,eP B]
theorem Qm (X:bE n x)(Y:bE n y)(Z:bE n z):jE (aX x y) z=aX (cW (jE x z) y) (jE y z):=by
 have A:=qG X Z;have B:=qG Y Z;rw[xX (X.mul Y) Z,Ef X Y Z,Nr X Y,xX X Z,xX Y Z];show _=aX (aX (aX (dA y) (aX (dA x) (cW x z))) y) (aX (dA y) (cW y z));rw[ahL (Y.inv.mul (X.inv.mul A)) Y B,aV Y.inv X.inv (A.mul B),aV Y.inv (X.inv.mul A) B,aV X.inv A B]
theorem zK (X:bE n x)(Y:bE n y):jE x y=aX (cW (dA y) x) y:=by
 show aX (aX (dA x) (dA y)) (aX x y)=aX (aX (aX (dA x) (dA y)) x) y;rw[aV (X.inv.mul Y.inv) X Y]
theorem Mo (X:bE n x)(Y:bE n y)(Z:bE n z):jE x (aX y z)=aX (jE x z) (cW (jE x y) z):=by
 have A:=qG Z.inv X;have B:=qG Y.inv X;rw[zK X (Y.mul Z),Nr Y Z,Ef Z.inv Y.inv X,zK X Z,zK X Y];show _=aX (aX (cW (dA z) x) z) (aX (aX (dA z) (aX (cW (dA y) x) y)) z);rw[aV Z.inv (B.mul Y) Z,ahL A Z ((B.mul Y).mul Z),aV A B (Y.mul Z),aV B Y Z]
end
section
variable {n:Nat} {G K:List Nat->Prop} {O O':LN} {R R':jI}
theorem Ad.all (i:iX n G)(l:iX n K)(c:bC n G O R)(d:bC n K O' R'){p q:List Nat}(e:G p)(o:K q):Ad n R R' (jE p q):=by
 have j:=Ad.dN i l c d;have r: ∀g∈bQ R,bE n g:=λg h=>i.cU (bV c h)
 have f: ∀g∈bQ R',bE n g:=λg h=>l.cU (bV d h)
 have st1: ∀{p},G p-> ∀k,k∈bQ R'->Ad n R R' (jE p k):=λ{p} e k m=>by
  have h:=nJ i c e;clear e
  induction h with
  |one=>rw[KJ (f k m)];exact j.one
  | @mul y g hy hg ih=>
   rw[Qm (hy.cU r) (r g hg) (f k m)];exact j.mul (NC.cj ih (.inl hg)) (NC.of ⟨g,hg,k,m,rfl⟩)
 have h:=nJ l d o;have P:=i.cU e;clear o
 induction h with
 |one=>rw[JY P];exact j.one
 | @mul y g hy hg ih=>
  rw[Mo P (hy.cU f) (f g hg)];exact j.mul (st1 e g hg) (NC.cj ih (.inr hg))
def Cq (n:Nat)(A C D:LN)(ws:List (List (Nat×Nat))):Bool:=
 D==ws.map (λw=>w.foldl (λx i=>aX x (jE (A.getD i.1 []) (C.getD i.2 []))) (bL n))&&ws.all (λw=>w.all λi=>decide (i.1<A.length/\i.2<C.length))&&decide (D.Pairwise λx y=>yU x y=true)&&D.all (λx=>x.length==n)&&D.contains (bL n)&&D.all (λx=>D.all λy=>D.contains (aX x y))&&D.all (λx=>D.contains (dA x))&&A.all (λp=>C.all λq=>D.contains (jE p q))&&D.all (λy=>A.all (λg=>D.contains (cW y g))&&C.all λg=>D.contains (cW y g))
theorem Cq.Xz (o:iX n G)(s:iX n K)(c:bC n G O R)(d:bC n K O' R'){A C D:LN}{ws:List (List (Nat×Nat))}(E:dW G A)(F:dW K C)(h:Cq n A C D ws=true):dW (Ad n R R') D:=by
 unfold Cq at h;simp only[vN,beq_iff_eq,Kv,Qf,List.contains_iff_mem] at h;obtain⟨⟨⟨⟨⟨⟨⟨⟨U,u⟩,t⟩,m⟩,Q⟩,L⟩,N⟩,Y⟩,r⟩:=h;have k:=Ad.dN o s c d
 have sub: ∀x,x∈D->Ad n R R' x:=λx e=>by
  rw[U] at e;obtain⟨w,W,rfl⟩:=uF.1 e
  have g: ∀(w:List (Nat×Nat)) (x:List Nat),(∀i∈w,i.1<A.length/\i.2<C.length)->Ad n R R' x->Ad n R R' (w.foldl (λx i=>aX x (jE (A.getD i.1 []) (C.getD i.2 []))) x):=by
   intro w
   induction w with
   |nil=>exact λx _ h=>h
   |cons i w ih=>
    intro x hi e;have:=hi i (by simp);exact ih _ (λj B=>hi j (by simp [B])) (k.mul e (Ad.all o s c d ((E.mem _).1 (bD this.1)) ((F.mem _).1 (bD this.2))))
  exact g w _ (u w W) k.one
 refine⟨List.Pairwise.imp_of_mem (λe f h=>(Cb (by rw[m _ e,m _ f])).1 h) t,λx=>⟨sub x,λe=>?_⟩⟩
 have P:iX n (· ∈D):=⟨λh=>k.cU (sub _ h),Q,λa b=>L _ a _ b,λa=>N _ a⟩
 refine NC.le (H:=(· ∈D)) e P ?_ ?_
 ·rintro a ⟨p,v,q,J,rfl⟩
  exact Y p ((E.mem _).2 (bV c v)) q ((F.mem _).2 (bV d J))
 ·rintro y b f (l|l)
  ·exact (r y f).1 b ((E.mem _).2 (bV c l))
  ·exact (r y f).2 b ((F.mem _).2 (bV d l))
end
set_option maxRecDepth 100000
set_option maxRecDepth 100000
set_option maxRecDepth 100000
set_option maxRecDepth 100000
set_option maxHeartbeats 8000000
theorem acR {W W':Nat->Prop}(i k:V)(n:Nat)(c d:nE)(G G':List Nat->Prop)(h:H)(l:GC W h i n c.1 c.2 G)(j:GC W' h k n d.1 d.2 G'):
  Ev T 31 [i,k] h (λv h'=>v= .bool (decide (c=d))/\Fr h h'):=by
 refine (Ve i k n n _ _ _ _ h l.ch j.ch l.small.1 j.small.1 l.small.2 j.small.2).mono ?_
 rintro _ m ⟨rfl,f⟩
 have inj: ∀{a b:LN},a.map zi=b.map zi->a=b:=λh=>map_inj (λ_ _=>Vl) h
 have g: ∀{a b:jI},a.map (List.map zi)=b.map (List.map zi)->a=b:=λh=>map_inj (λ_ _=>inj) h
 exact⟨congrArg V.bool (decide_eq_decide.2 ⟨λ⟨_,a,b⟩=>Prod.ext (inj a) (g b),λe=>by rw[e];exact⟨rfl,rfl,rfl⟩⟩),f⟩
set_option maxRecDepth 100000
set_option maxHeartbeats 16000000
set_option maxRecDepth 100000
structure Sml (d:Int)(O:List (List Int))(R:List (List (List Int))):Prop where
 deg:d<=6∨64<d
 lo:O.length<=12
 lr:R.length<=12
 ro: ∀i,i<O.length->(O.getD i []).length<=12
 rr: ∀i,i<R.length->(R.getD i []).length<=12/\ ∀k,k<(R.getD i []).length->((R.getD i []).getD k []).length<=12
theorem Sml.small {d:Int}{O:List (List Int)}{R:List (List (List Int))}(s:Sml d O R):zV O/\Mf R:=
 ⟨⟨by have:=s.lo;omega,λi hi=>by have:=s.ro i hi;omega⟩,⟨by have:=s.lr;omega,λi hi=>by have:=(s.rr i hi).1;omega⟩⟩
set_option maxRecDepth 100000
theorem afP (h:H)(x y z w u:Int):lQ h 1 [aC 0] 5 [(0,1,aC x),(1,1,aC y),(2,1,aC z),(3,1,aC w),(4,1,aC u)]=some (.sl h.next 0 5 (.kn 5),h.new (.cells false (ints [x,y,z,w,u]))):=by
 have e:cX [aC 0] 5= [aC 0,aC 0,aC 0,aC 0,aC 0]:=rfl;simp [lQ,iS,e,putAt,V.cells,V.one,ints]
abbrev DD:LN:= [[1,2,3,0], [1,0,2,3]]
theorem Wz: ∀g∈DD,bE 4 g:=by
 intro g a;simp only[DD,zH,List.not_mem_nil,or_false] at a;rcases a with rfl|rfl<;>exact⟨rfl,by decide,by decide⟩
abbrev Ij:LN:= [[1,0,3,2], [2,3,0,1]]
theorem Su: ∀g∈Ij,bE 4 g:=by
 intro g a;simp only[Ij,zH,List.not_mem_nil,or_false] at a;rcases a with rfl|rfl<;>exact⟨rfl,by decide,by decide⟩
abbrev D4g:LN:= [[1,2,3,0], [2,1,0,3]]
theorem TC: ∀g∈D4g,bE 4 g:=by
 intro g a;simp only[D4g,zH,List.not_mem_nil,or_false] at a;rcases a with rfl|rfl<;>exact⟨rfl,by decide,by decide⟩
abbrev HH:LN:= [[1,2,0,3,4], [1,2,3,4,0]]
theorem HN: ∀g∈HH,bE 5 g:=by
 intro g a;simp only[HH,zH,List.not_mem_nil,or_false] at a;rcases a with rfl|rfl<;>exact⟨rfl,by decide,by decide⟩
theorem Ke (h:H):Ev T 28 [] h (λv h'=> ∃c0 c1 c2 c3 O0 R0 O1 R1 O2 R2 O3 R3,v= .tup [c0,c1,c2,c3]/\GC (λid=>id<h.next) h' c0 4 O0 R0 (bX 4 (· ∈DD))/\GC (λid=>id<h.next) h' c1 4 O1 R1 (bX 4 (· ∈Ij))/\GC (λid=>id<h.next) h' c2 4 O2 R2 (bX 4 (· ∈D4g))/\GC (λid=>id<h.next) h' c3 5 O3 R3 (bX 5 (· ∈HH))/\Fr h h'):=by
 refine cV Bv rfl ?_;obtain⟨B,hB⟩:=exI h.next;obtain⟨c,e1,n1,g1,o1,f1⟩:=dF hB [aC 0,.aE,.aE];obtain⟨r,e2,n2,g2,o2,f2⟩:=dF n1 [aC 0,.aE,.aE];obtain⟨h3,e3,n3,g3,o3,f3⟩:=dF n2 [aC 0,.aE,.aE];obtain⟨h4,e4,n4,g4,o4,f4⟩:=dF n3 [aC 0,.aE,.aE];have m7:=((f1.trans f2).trans f3).trans f4;have n6:h4.get B=aZ [aC 0,.aE,.aE]:=by rw[o4 _ om,o3 _ om,o2 _ om];exact g1
 have s1:h4.get (B+1)=aZ [aC 0,.aE,.aE]:=by rw[o4 _ om,o3 _ om];exact g2
 have s0:h4.get (B+1+1)=aZ [aC 0,.aE,.aE]:=by rw[o4 _ om];exact g3
 have p3:h4.get (B+1+1+1)=aZ [aC 0,.aE,.aE]:=by exact g4
 obtain⟨Q0,c4⟩: ∃Q,h4.next=Q:=⟨_,rfl⟩
 obtain⟨i0,i6,e7,q6,k8⟩:=mkI c4 [1,2,3,0];obtain⟨j0,q4,h5,s8,c8⟩:=mkI e7 [1,0,2,3];obtain⟨x0,j7,t7,m8,u8,g5⟩:=dF h5 [.sl Q0 0 4 (.kn 4),.sl (Q0+1) 0 4 (.kn 4)];have i9:Fr h4 x0:=(k8.trans c8).trans g5;have KI:SP x0 (.sl (Q0+1+1) 0 2 (.kn 2)) DD:=SP.two (a:= [1,2,3,0]) (b:= [1,0,2,3]) (h:=j0) (q6.mono c8) s8 om g5 m8 _;simp(disch:=omega)only[go_sem,Bv,aD,hB,e1,n1,e2,n2,e3,n3,e4,c4,Ec,i6,e7,q4,h5,Tm _ (mW ..) (mW ..),j7];refine (Bs _ 4 DD x0 om om (by decide) KI Wz).mono ?_;rintro _ m0 ⟨c0,O0,R0,rfl,d9,e5⟩;have r3:=d9.sl;obtain⟨j,d,rfl,a0,b0,l6,s5⟩:=r3;have l:Fr h4 m0:=i9.trans e5;have v1:=l.next;have u9:=e5.next;have r0:m0.get B=aZ [aC 0,.aE,.aE]:=by rw[l.get _ om];exact n6
 obtain⟨N,i8,t9,p0,q⟩:=pJ m0 B [aC (4:Nat),j,d];have r8:=bW m0 B 0 (v:= aC (4:Nat)) (u:=j) (w:=d) rfl a0 b0;have k6:N.get B=aZ [aC (4:Nat),j,d]:=p0;have h9:N.get (B+1)=aZ [aC 0,.aE,.aE]:=by rw[q _ om,l.get _ om];exact s1
 have q9:N.get (B+1+1)=aZ [aC 0,.aE,.aE]:=by rw[q _ om,l.get _ om];exact s0
 have n9:N.get (B+1+1+1)=aZ [aC 0,.aE,.aE]:=by rw[q _ om,l.get _ om];exact p3
 have G0:GC (λid=>id<B+4) N _ 4 O0 R0 _:=d9.go (⟨om,λid c r=>q id om⟩:Fx (λid=>id<x0.next) m0 N) (λid c r=>om)
 have X0:Fx (λid=>id<B+4) h4 N:=⟨om,λid c r=>by rw[q id om,l.get id c]⟩
 obtain⟨Q1,c9⟩: ∃Q,N.next=Q:=⟨_,rfl⟩
 obtain⟨i1,n8,d8,k4,l0⟩:=mkI c9 [1,0,3,2];obtain⟨j1,l4,e9,o0,g6⟩:=mkI d8 [2,3,0,1];obtain⟨x1,s3,u6,p9,v7,g7⟩:=dF e9 [.sl Q1 0 4 (.kn 4),.sl (Q1+1) 0 4 (.kn 4)];have r5:Fr N x1:=(l0.trans g6).trans g7;have p4:SP x1 (.sl (Q1+1+1) 0 2 (.kn 2)) Ij:=SP.two (a:= [1,0,3,2]) (b:= [2,3,0,1]) (h:=j1) (k4.mono g6) o0 om g7 p9 _;simp(disch:=omega)only[go_sem,r8,r0,cF,i8,c9,Ec,n8,d8,l4,e9,Tm _ (mW ..) (mW ..),s3];refine (Bs _ 4 Ij x1 om om (by decide) p4 Su).mono ?_;rintro _ m1 ⟨c1,O1,R1,rfl,d5,f5⟩;have k3:=d5.sl;obtain⟨o,m,rfl,a1,b1,r2,m5⟩:=k3;have k:Fr N m1:=r5.trans f5;have v3:=k.next;have v8:=f5.next;have l8:m1.get (B+1)=aZ [aC 0,.aE,.aE]:=by rw[k.get _ om];exact h9
 obtain⟨W,j4,v6,j9,p⟩:=pJ m1 (B+1) [aC (4:Nat),o,m];have st1:=bW m1 (B+1) 0 (v:= aC (4:Nat)) (u:=o) (w:=m) rfl a1 b1;have i5:W.get B=aZ [aC (4:Nat),j,d]:=by rw[p _ om,k.get _ om];exact k6
 have o8:W.get (B+1)=aZ [aC (4:Nat),o,m]:=j9;have j8:W.get (B+1+1)=aZ [aC 0,.aE,.aE]:=by rw[p _ om,k.get _ om];exact q9
 have i7:W.get (B+1+1+1)=aZ [aC 0,.aE,.aE]:=by rw[p _ om,k.get _ om];exact n9
 have G1:GC (λid=>id<B+4) W _ 4 O1 R1 _:=d5.go (⟨om,λid c r=>p id om⟩:Fx (λid=>id<x1.next) m1 W) (λid c r=>om)
 have X1:Fx (λid=>id<B+4) N W:=⟨om,λid c r=>by rw[p id om,k.get id c]⟩
 obtain⟨Q2,c6⟩: ∃Q,W.next=Q:=⟨_,rfl⟩
 obtain⟨i2,h8,f9,k0,k9⟩:=mkI c6 [1,2,3,0];obtain⟨j2,r4,h6,r6,g0⟩:=mkI f9 [2,1,0,3];obtain⟨x2,r9,t8,q5,w4,g9⟩:=dF h6 [.sl Q2 0 4 (.kn 4),.sl (Q2+1) 0 4 (.kn 4)];have k2:Fr W x2:=(k9.trans g0).trans g9;have n7:SP x2 (.sl (Q2+1+1) 0 2 (.kn 2)) D4g:=SP.two (a:= [1,2,3,0]) (b:= [2,1,0,3]) (h:=j2) (k0.mono g0) r6 om g9 q5 _;simp(disch:=omega)only[go_sem,st1,l8,cF,j4,c6,Ec,h8,f9,r4,h6,Tm _ (mW ..) (mW ..),r9];refine (Bs _ 4 D4g x2 om om (by decide) n7 TC).mono ?_;rintro _ m2 ⟨c2,O2,R2,rfl,c7,d4⟩;have uA:=c7.sl;obtain⟨z,x,rfl,a2,b2,n0,m6⟩:=uA;have i:Fr W m2:=k2.trans d4;have v2:=i.next;have u5:=d4.next;have o5:m2.get (B+1+1)=aZ [aC 0,.aE,.aE]:=by rw[i.get _ om];exact j8
 obtain⟨U,q8,s9,o7,s⟩:=pJ m2 (B+1+1) [aC (4:Nat),z,x];have k5:=bW m2 (B+1+1) 0 (v:= aC (4:Nat)) (u:=z) (w:=x) rfl a2 b2;have k7:U.get B=aZ [aC (4:Nat),j,d]:=by rw[s _ om,i.get _ om];exact i5
 have o9:U.get (B+1)=aZ [aC (4:Nat),o,m]:=by rw[s _ om,i.get _ om];exact o8
 have o6:U.get (B+1+1)=aZ [aC (4:Nat),z,x]:=o7;have l3:U.get (B+1+1+1)=aZ [aC 0,.aE,.aE]:=by rw[s _ om,i.get _ om];exact i7
 have G2:GC (λid=>id<B+4) U _ 4 O2 R2 _:=c7.go (⟨om,λid c r=>s id om⟩:Fx (λid=>id<x2.next) m2 U) (λid c r=>om)
 have X2:Fx (λid=>id<B+4) W U:=⟨om,λid c r=>by rw[s id om,i.get id c]⟩
 obtain⟨Q3,d6⟩: ∃Q,U.next=Q:=⟨_,rfl⟩
 obtain⟨i3,k1,h7,l1,s6⟩:=mkI d6 [1,2,0,3,4];obtain⟨j3,l9,b9,m4,f8⟩:=mkI h7 [1,2,3,4,0];obtain⟨x3,p1,t6,r1,u4,d2⟩:=dF b9 [.sl Q3 0 5 (.kn 5),.sl (Q3+1) 0 5 (.kn 5)];have j5:Fr U x3:=(s6.trans f8).trans d2;have p5:SP x3 (.sl (Q3+1+1) 0 2 (.kn 2)) HH:=SP.two (a:= [1,2,0,3,4]) (b:= [1,2,3,4,0]) (h:=j3) (l1.mono f8) m4 om d2 r1 _;simp(disch:=omega)only[go_sem,k5,o5,cF,q8,d6,afP,k1,h7,l9,b9,Tm _ (mW ..) (mW ..),p1];refine (Bs _ 5 HH x3 om om (by decide) p5 HN).mono ?_;rintro _ m3 ⟨c3,O3,R3,rfl,f0,d1⟩;have p2:=f0.sl;obtain⟨F,A,rfl,a3,b3,p6,p7⟩:=p2;have f:Fr U m3:=j5.trans d1;have t4:=f.next;have u7:=d1.next;have s4:m3.get (B+1+1+1)=aZ [aC 0,.aE,.aE]:=by rw[f.get _ om];exact l3
 obtain⟨e,m9,v0,q7,t⟩:=pJ m3 (B+1+1+1) [aC (5:Nat),F,A];have i4:=bW m3 (B+1+1+1) 0 (v:= aC (5:Nat)) (u:=F) (w:=A) rfl a3 b3;have g8:e.get B=aZ [aC (4:Nat),j,d]:=by rw[t _ om,f.get _ om];exact k7
 have f7:e.get (B+1)=aZ [aC (4:Nat),o,m]:=by rw[t _ om,f.get _ om];exact o9
 have e0:e.get (B+1+1)=aZ [aC (4:Nat),z,x]:=by rw[t _ om,f.get _ om];exact o6
 have f6:e.get (B+1+1+1)=aZ [aC (5:Nat),F,A]:=q7;have G3:GC (λid=>id<B+4) e _ 5 O3 R3 _:=f0.go (⟨om,λid c r=>t id om⟩:Fx (λid=>id<x3.next) m3 e) (λid c r=>om)
 have X3:Fx (λid=>id<B+4) U e:=⟨om,λid c r=>by rw[t id om,f.get id c]⟩
 obtain⟨Q4,v5⟩: ∃Q,e.next=Q:=⟨_,rfl⟩
 obtain⟨y,ey,ny⟩: ∃y:H,H.mk e.tr (e.next+8)=y/\y.next=e.next+8:=⟨_,rfl,rfl⟩
 have fy:Fr e y:=by rw[←ey];exact (Fr.refl e).bA om
 have d0:y.get B=aZ [aC (4:Nat),j,d]:=by rw[fy.get _ om];exact g8
 have e6:y.get (B+1)=aZ [aC (4:Nat),o,m]:=by rw[fy.get _ om];exact f7
 have h0:y.get (B+1+1)=aZ [aC (4:Nat),z,x]:=by rw[fy.get _ om];exact e0
 have d7:y.get (B+1+1+1)=aZ [aC (5:Nat),F,A]:=by rw[fy.get _ om];exact f6
 obtain⟨y0,n5,v4,j6,K⟩:=pJ y B [aC (4:Nat),j,d];have a7:y0.get B=aZ [aC (4:Nat),j,d]:=j6;have a9:y0.get (B+1)=aZ [aC (4:Nat),o,m]:=by rw[K _ om];exact e6
 have b6:y0.get (B+1+1)=aZ [aC (4:Nat),z,x]:=by rw[K _ om];exact h0
 have a8:y0.get (B+1+1+1)=aZ [aC (5:Nat),F,A]:=by rw[K _ om];exact d7
 have t0:=bW y B 0 (v:= aC (4:Nat)) (u:=j) (w:=d) rfl a0 b0;obtain⟨y1,l2,v9,s2,L⟩:=pJ y0 (B+1) [aC (4:Nat),o,m];have Y:y1.get B=aZ [aC (4:Nat),j,d]:=by rw[L _ om];exact a7
 have b4:y1.get (B+1)=aZ [aC (4:Nat),o,m]:=s2;have a5:y1.get (B+1+1)=aZ [aC (4:Nat),z,x]:=by rw[L _ om];exact b6
 have a6:y1.get (B+1+1+1)=aZ [aC (5:Nat),F,A]:=by rw[L _ om];exact a8
 have t1:=bW y0 (B+1) 0 (v:= aC (4:Nat)) (u:=o) (w:=m) rfl a1 b1;obtain⟨y2,r7,w5,l7,P⟩:=pJ y1 (B+1+1) [aC (4:Nat),z,x];have a4:y2.get B=aZ [aC (4:Nat),j,d]:=by rw[P _ om];exact Y
 have Z:y2.get (B+1)=aZ [aC (4:Nat),o,m]:=by rw[P _ om];exact b4
 have b5:y2.get (B+1+1)=aZ [aC (4:Nat),z,x]:=l7;have b7:y2.get (B+1+1+1)=aZ [aC (5:Nat),F,A]:=by rw[P _ om];exact a6
 have t2:=bW y1 (B+1+1) 0 (v:= aC (4:Nat)) (u:=z) (w:=x) rfl a2 b2;obtain⟨y3,s7,t5,p8,J⟩:=pJ y2 (B+1+1+1) [aC (5:Nat),F,A];have d3:y3.get B=aZ [aC (4:Nat),j,d]:=by rw[J _ om];exact a4
 have e8:y3.get (B+1)=aZ [aC (4:Nat),o,m]:=by rw[J _ om];exact Z
 have c5:y3.get (B+1+1)=aZ [aC (4:Nat),z,x]:=by rw[J _ om];exact b5
 have b8:y3.get (B+1+1+1)=aZ [aC (5:Nat),F,A]:=p8;have t3:=bW y2 (B+1+1+1) 0 (v:= aC (5:Nat)) (u:=F) (w:=A) rfl a3 b3;have q0:dE (.agg [aC (4:Nat),j,d]) (.agg [aC (4:Nat),j,d])=true:=by simp [dE,sK,l6,s5]
 have q1:dE (.agg [aC (4:Nat),o,m]) (.agg [aC (4:Nat),o,m])=true:=by simp [dE,sK,r2,m5]
 have q2:dE (.agg [aC (4:Nat),z,x]) (.agg [aC (4:Nat),z,x])=true:=by simp [dE,sK,n0,m6]
 have q3:dE (.agg [aC (5:Nat),F,A]) (.agg [aC (5:Nat),F,A])=true:=by simp [dE,sK,p6,p7]
 simp(disch:=omega)only[go_sem,i4,s4,cF,m9,aI g8,aI f7,aI e0,aI f6];rw[ey];simp(disch:=omega)only[go_sem,t0,d0,n5,t1,a9,l2,t2,a5,r7,t3,b7,s7,cF,aI d0,aI e6,aI h0,aI d7,aI a7,aI a9,aI b6,aI a8,aI Y,aI b4,aI a5,aI a6,aI a4,aI Z,aI b5,aI b7,aI d3,aI e8,aI c5,aI b8,q0,q1,q2,q3]
 have Xe:Fx (λid=>id<B+4) e y3:=⟨om,λid c r=>by rw[J id om,P id om,L id om,K id om,fy.get id om]⟩
 have low: ∀{v n O R G},GC (λid=>id<B+4) e v n O R G->GC (λid=>id<B) y3 v n O R G:=λg=>g.go Xe (λid _ l5=>om)
 refine⟨_,_,_,_,O0,R0,O1,R1,O2,R2,O3,R3,rfl,low (((G0.go X1 λ_ _ h=>h).go X2 λ_ _ h=>h).go X3 λ_ _ h=>h),low ((G1.go X2 λ_ _ h=>h).go X3 λ_ _ h=>h),low (G2.go X3 λ_ _ h=>h),low G3,⟨om,λid l5=>?_⟩⟩;rw[J id om,P id om,L id om,K id om,fy.get id om,t id om,f.get id om,s id om,i.get id om,p id om,k.get id om,q id om,l.get id om];exact m7.get id om
section
variable {n:Nat} {w:Bool} {c d:nE} {l:List nE} {Gc Gd:List Nat->Prop} {A C D:LN} {ws:List (List (Nat×Nat))}
theorem To {G K:List Nat->Prop}(E:dW G A)(F:dW K A)(x:List Nat):G x↔K x:=(E.mem x).symm.trans (F.mem x)
structure Mem (n:Nat)(d:nE)(Gd:List Nat->Prop)(A:LN):Prop where
 dN:iX n Gd
 isc:bC n Gd d.1 d.2
 el:dW Gd A
theorem Mem.sz (m:Mem n d Gd A):kI d.1 n 0=A.length:=by
 obtain⟨E,e⟩:=dM m.dN m.isc;rw[←e,E.uniq m.el]
theorem Mem.nx (a:Mem n c Gc C)(m:Mem n d Gd A)(h:Cq n A (if w then C else A) D ws=true):iX n (Kf n w c d)/\dW (Kf n w c d) D:=by
 unfold Kf
 cases w with
 |false=>exact⟨Ad.dN m.dN m.dN m.isc m.isc,Cq.Xz m.dN m.dN m.isc m.isc m.el m.el h⟩
 |true=>exact⟨Ad.dN m.dN a.dN m.isc a.isc,Cq.Xz m.dN a.dN m.isc a.isc m.el a.el h⟩
theorem vZ (s:uC n w c l)(q:Mem n c Gc C){k:Nat}(b:l[k]? =some d)(m:Mem n d Gd A)(h:Cq n A (if w then C else A) D ws=true)(a:D≠A): ∃e,l[k+1]? =some e/\Mem n e (Kf n w c d) D:=by
 obtain⟨g,E⟩:=q.nx m h;have t:k<l.length:=(Ax.1 b).1
 by_cases p:k+1<l.length
 ·have i:=dD p
  exact⟨_,i,g,(s.st k _ _ b i).1,E⟩
 ·have f:k=l.length- 1:=om
  have j:=s.en d (by rw[←f];exact b);obtain⟨r,_⟩:=dM m.dN m.isc;obtain⟨o,_⟩:=dM g j;exact absurd ((E.uniq o).trans (r.uniq m.el)) a
theorem Ua (s:uC n w c l)(p:Mem n c Gc C){k:Nat}(e:l[k]? =some d)(m:Mem n d Gd A)(h:Cq n A (if w then C else A) A ws=true):l.length=k+1:=by
 obtain⟨g,E⟩:=p.nx m h;have q:k<l.length:=(Ax.1 e).1
 by_cases o:k+1<l.length
 ·have f:=dD o
  obtain⟨j,i⟩:=s.st k _ _ e f;obtain⟨a,b⟩:=(j.congr (To E m.el)).uniq m.isc;exact absurd (Prod.ext a b) i
 ·omega
end
abbrev DH:LN:= [[0,1,2,3], [0,1,3,2], [0,2,1,3], [0,2,3,1], [0,3,1,2], [0,3,2,1], [1,0,2,3], [1,0,3,2], [1,2,0,3], [1,2,3,0], [1,3,0,2], [1,3,2,0], [2,0,1,3], [2,0,3,1], [2,1,0,3], [2,1,3,0], [2,3,0,1], [2,3,1,0], [3,0,1,2], [3,0,2,1], [3,1,0,2], [3,1,2,0], [3,2,0,1], [3,2,1,0]]
theorem Am:dW (bX 4 (· ∈DD)) DH:=Ze.Xz (ws:= [[], [0,0,1,0,0], [0,0,0,1,0], [0,1], [0,1,0,1], [1,0,0,1,0], [1], [0,0,1,0,0,1], [0,0,0,1,0,1], [0], [0,1,0], [0,0,0,1,0,0], [0,1,0,0], [1,0,1], [0,1,0,0,1], [1,0], [0,0], [0,0,1], [0,0,0], [0,0,1,0], [0,0,0,1], [0,0,1,0,1], [1,0,0], [1,0,0,1]]) (by decide+kernel)
abbrev MQ:LN:= [[0,1,2,3], [0,2,3,1], [0,3,1,2], [1,0,3,2], [1,2,0,3], [1,3,2,0], [2,0,1,3], [2,1,3,0], [2,3,0,1], [3,0,2,1], [3,1,0,2], [3,2,1,0]]
abbrev qB:LN:= [[0,1,2,3], [1,0,3,2], [2,3,0,1], [3,2,1,0]]
abbrev aaK:LN:= [[0,1,2,3]]
theorem agW:Cq 4 DH (if false then DH else DH) MQ [[], [(1,4)], [(1,2)], [(1,16)], [(2,12)], [(3,18)], [(2,6)], [(1,10)], [(3,19)], [(4,6)], [(1,8)], [(2,7)]]=true:=by decide+kernel
theorem ahO:Cq 4 MQ (if false then DH else MQ) qB [[], [(1,6)], [(1,9)], [(1,3)]]=true:=by decide+kernel
theorem ahZ:Cq 4 qB (if false then DH else qB) aaK [[]]=true:=by decide+kernel
theorem ahV:Cq 4 aaK (if false then DH else aaK) aaK [[]]=true:=by decide+kernel
theorem Zi {c:nE}{l:List nE}(o:bC 4 (bX 4 (· ∈DD)) c.1 c.2)(s:uC 4 false c l):l.map (λe=>kI e.1 4 0)= [24,12,4,1]:=by
 have a:Mem 4 c _ DH:=⟨bX.dN Wz,o,Am⟩
 have k:=s.hd;obtain⟨q,j,m⟩:=vZ s a k a agW (by decide);obtain⟨t,g,h⟩:=vZ s a j m ahO (by decide);obtain⟨p,f,b⟩:=vZ s a g h ahZ (by decide);have r:=Ua s a f b ahV;refine List.ext_getElem? λi=>?_
 rw[Ol]
 match i with
 |0=>rw[k];exact congrArg some a.sz
 |1=>rw[j];exact congrArg some m.sz
 |2=>rw[g];exact congrArg some h.sz
 |3=>rw[f];exact congrArg some b.sz
 |i+4=>rw[List.getElem?_eq_none om];rfl
abbrev ZQ:LN:= [[0,1,2,3], [0,3,2,1], [1,0,3,2], [1,2,3,0], [2,1,0,3], [2,3,0,1], [3,0,1,2], [3,2,1,0]]
theorem BT:dW (bX 4 (· ∈D4g)) ZQ:=Ze.Xz (ws:= [[], [0,0,1], [0,1], [0], [1], [0,0], [0,0,0], [1,0]]) (by decide+kernel)
abbrev aeU:LN:= [[0,1,2,3], [2,3,0,1]]
abbrev XG:LN:= [[0,1,2,3]]
theorem aiI:Cq 4 ZQ (if true then ZQ else ZQ) aeU [[], [(1,2)]]=true:=by decide+kernel
theorem ahY:Cq 4 aeU (if true then ZQ else aeU) XG [[]]=true:=by decide+kernel
theorem aiJ:Cq 4 XG (if true then ZQ else XG) XG [[]]=true:=by decide+kernel
theorem Xs {c:nE}{l:List nE}(k:bC 4 (bX 4 (· ∈D4g)) c.1 c.2)(s:uC 4 true c l):l.map (λe=>kI e.1 4 0)= [8,2,1]:=by
 have a:Mem 4 c _ ZQ:=⟨bX.dN TC,k,BT⟩
 have h:=s.hd;obtain⟨m,g,j⟩:=vZ s a h a aiI (by decide);obtain⟨p,b,f⟩:=vZ s a g j ahY (by decide);have o:=Ua s a b f aiJ;refine List.ext_getElem? λi=>?_
 rw[Ol]
 match i with
 |0=>rw[h];exact congrArg some a.sz
 |1=>rw[g];exact congrArg some j.sz
 |2=>rw[b];exact congrArg some f.sz
 |i+3=>rw[List.getElem?_eq_none om];rfl
section
variable {Rp Cg:List Nat}
def agR (s:List Nat)(gs a:LN):LN:=gs.foldl (λa g=>if a.contains (aX s g) then a else a++ [aX s g]) a
def Yy (gs:LN):Nat->Nat->LN->LN
 |0,_,S=>S
 |f+1,i,S=>match S[i]? with
  |none=>S
  |some s=>Yy gs f (i+1) (agR s gs S)
theorem Ma {P:List Nat->Prop}{c:LN}(e: ∀x,P x-> ∀g∈c,P (aX x g)): ∀(f i:Nat) (S:LN),(∀x∈S,P x)-> ∀x∈Yy c f i S,P x
 |0,_,_,h=>h
 |f+1,i,S,h=>by
  unfold Yy;split
  ·exact h
  ·rename_i s m
   refine Ma e f _ _ ?_
   have n: ∀(l:LN),(∀g∈l,g∈c)-> ∀a:LN,(∀x∈a,P x)-> ∀x∈agR s l a,P x:=by
    intro l
    induction l with
    |nil=>exact λ_ a d=>d
    |cons g l ih=>
     intro j a d;refine ih (λg k=>j g (Cu _ k)) _ ?_;dsimp only;split
     ·exact d
     ·intro x b
      rcases pH.1 b with b|b
      ·exact d x b
      ·rw[List.mem_singleton.1 b];exact e s (h s (AW m)) g (j g Ab)
   exact n c (λg h=>h) S h
def GJ (L:LN)(N:List Nat):LN:=N.map λi=>L.getD i []
def FG (n:Nat)(L:LN)(N:List Nat):Bool:=
 decide (N.Pairwise (· < ·))&&N.all (λi=>decide (i<L.length))&&(GJ L N).all (λx=>(GJ L N).all λy=>(GJ L N).contains (aX x y))&&(GJ L N).all (λx=>(GJ L N).contains (dA x))&&(GJ L N).contains (bL n)&&(GJ L N).all λy=>L.all λg=>(GJ L N).contains (cW y g)
def NxB (n:Nat)(L:LN)(Rp Cg N N':List Nat):Bool:=
 (N.all λi=>N'.contains i)&&(List.range L.length).all (λi=>N.contains i||Rp.any λr=>!N.contains r&&(L.map (cW (L.getD r []))).contains (L.getD i []))&&Rp.all (λr=>decide (r<L.length)&&(N.contains r||(GJ L N').all λx=>(Yy (GJ L N++Cg.map λg=>cW (L.getD r []) (L.getD g [])) L.length 0 [bL n]).contains x))&&Cg.all (λg=>decide (g<L.length))&&N'.any λi=>!N.contains i
def WL (n:Nat)(L:LN)(Rp Cg:List Nat):LN->Bool
 |a::b::r=>(b==List.range L.length||FG n L b)&&NxB n L Rp Cg a b&&decide (a.length<L.length)&&WL n L Rp Cg (b::r)
 | [a]=>decide (a.length=L.length)
 | []=>false
section
variable {n:Nat} {G:List Nat->Prop} {L:LN} {K N N' r:List Nat} {rs:LN}
theorem Nv {x:List Nat}:x∈GJ L N↔RG L N x:=by
 unfold GJ;rw[uF];exact Iff.rfl
variable (hG:iX n G) (E:dW G L)
include hG E
theorem FG.ok (h:FG n L N=true):xJ n G L N:=by
 unfold FG at h;simp only[vN,Kv,Qf,List.contains_iff_mem,Nv] at h;obtain⟨⟨⟨⟨⟨q,c⟩,f⟩,m⟩,o⟩,s⟩:=h;have le: ∀x,RG L N x->G x:=λx ⟨i,hi,e⟩=>by rw[←e];exact oS E (c i hi)
 refine⟨⟨q,λi=>⟨λhi=>⟨c i hi,i,hi,rfl⟩,λ⟨hi,j,hj,e⟩=>?_⟩⟩,⟨λk=>hG.cU (le _ k),o,λ{a b} d t=>f a d b t,λ{a} d=>m a d⟩,λy g p l=>s y p g ((E.mem g).2 l),le⟩;rw[←yK E.nodup (c j hj) hi e];exact hj
theorem RF:xJ n G L (List.range L.length):=by
 have e:RG L (List.range L.length)=G:=funext λx=>propext ⟨λ⟨i,hi,e⟩=>by rw[←e];exact oS E (Gu.1 hi),λh=>by
  obtain⟨i,hi,e⟩:=zF.1 ((E.mem x).2 h)
  exact⟨i,Gu.2 hi,by rw[List.getD,dD hi];exact e⟩⟩
 refine⟨⟨List.pairwise_lt_range,λi=>?_⟩,by rw[e];exact hG,by rw[e];exact λy g b a=>hG.mul (hG.mul (hG.inv a) b) a,by rw[e];exact λx h=>h⟩;rw[Gu,e];exact⟨λh=>⟨h,oS E h⟩,λh=>h.1⟩
theorem NxB.ok (k:xJ n G L N)(o:xJ n G L N')(R:Cm n G L K)(hl:N.length<L.length)(h:NxB n L Rp Cg N N'=true):Pw n G L K N=N':=by
 unfold NxB at h;simp only[vN,Kv,List.any_eq_true,Bool.or_eq_true,Bool.not_eq_true',Qf,List.contains_iff_mem,Nv,Gu] at h;obtain⟨⟨⟨⟨h1,z⟩,l⟩,hC⟩,Q,s,J⟩:=h;have nc: ∀{i:Nat},N.contains i=false->i∉N:=λh z=>by rw[List.contains_iff_mem.2 z] at h;cases h
 obtain⟨⟨i,hi,hn,e⟩,B,_,Y⟩:=Fv hG E k R hl;have u:=R.lt hi
 have up: ∀t∈N',t∈Pw n G L K N:=λt f=>by
  rw[e];refine (Bj t).2 ⟨((o.rk.mem t).1 f).1,?_⟩;rcases z i u with h|⟨r,hr,w,U⟩
  ·exact absurd h hn
  ·obtain⟨p,l⟩:=l r hr
   rcases l with l|l
   ·exact absurd l (nc w)
   ·obtain⟨g,d,v⟩:=uF.1 U
    have gr:=Lb.dN hG k.le (oS E u);have m:=(E.mem g).1 d
    have rx:Lb n G (RG L N) (L.getD i []) (L.getD r []):=by
     have:=NC.cj (n:=n) (NC.of (.inr rfl):Lb n G (RG L N) (L.getD i []) (L.getD i [])) (hG.inv m);rw[←v,←nX (lY hG E p) (hG.cU m) (hG.cU m).inv,fC (hG.cU m),mG (lY hG E p)] at this;rwa [←v]
    refine Ma (P:=Lb n G (RG L N) (L.getD i [])) (λx A g d=>gr.mul A ?_) L.length 0 [bL n] (λx A=>by rw[List.mem_singleton.1 A];exact gr.one) _ (l _ ⟨t,f,rfl⟩);rcases pH.1 d with d|d
    ·exact NC.of (.inl (Nv.1 d))
    ·obtain⟨c,U,rfl⟩:=uF.1 d
     exact NC.cj rx (oS E (hC c U))
 have q:=((o.rk.mem Q).1 s).1;obtain⟨y,a0,hR,g,d,v⟩:=Vo hG E q;have F:y∈K:=R.perm.mem_iff.2 (kV.2 ⟨om,hR⟩)
 have yN:y∉N:=λh=>nc J (by
  obtain⟨t,f,W⟩:=k.nm _ _ ⟨y,h,rfl⟩ d;have:t=Q:=yK E.nodup ((k.rk.mem t).1 f).1 q (W.trans v)
  rw[←this];exact f)
 have O:RG L N' (L.getD y []):=by
  have:=o.nm _ _ ⟨Q,s,rfl⟩ (hG.inv d);rwa [←v,←nX (lY hG E om) (hG.cU d) (hG.cU d).inv,fC (hG.cU d),mG (lY hG E om)] at this
 have Z: ∀t∈Aw n G L N y,t∈N':=λt f=>by
  obtain⟨l,h4⟩:=(Bj t).1 f;have:RG L N' (L.getD t []):=NC.le h4 o.dN (λa h=>h.elim (λ⟨j,hj,e⟩=>⟨j,h1 j hj,e⟩) λe=>by rw[e];exact O) λa b ha hb=>o.nm a b ha hb
  exact (o.rk.mem t).2 ⟨l,this⟩
 have W:=Y y F yN λt f=>up t (Z t f)
 refine oQ B.rk.asc o.rk.asc λt=>⟨λf=>Z t (by rw[W];exact f),up t⟩
theorem WL.ok (c:Ql n G L K rs r)(m:r.length=L.length)(g:Cm n G L K): ∀(Ns:LN) (N:List Nat) (k:Nat),rs[k]? =some N->xJ n G L N->WL n L Rp Cg (N::Ns)=true->rs.drop k=N::Ns
 | [],N,k,hk,kN,h=>by
  have d:N.length=L.length:=of_decide_eq_true h;have b:=(Ax.1 hk).1
  have: ¬k+1<rs.length:=λa=>by
   have:=(c.st k _ _ hk (dD a)).1;omega
  rw[AR b,List.drop_eq_nil_of_le om];rw[dD b] at hk;rw[Option.some.inj hk]
 |N'::Ns,N,k,hk,kN,h=>by
  unfold WL at h;simp only[vN,Qf] at h;obtain⟨⟨⟨a,l⟩,j⟩,o⟩:=h
  have f:xJ n G L N':=by
   rw[Bool.or_eq_true] at a;rcases a with a|a
   ·rw[beq_iff_eq.1 a];exact RF hG E
   ·exact FG.ok hG E a
  have b:=(Ax.1 hk).1
  have i:k+1<rs.length:=Nat.lt_of_not_le λh=>by
   have d:=c.la;rw[show rs.length- 1=k by omega,hk] at d;cases d;omega
  have e:=(c.st k _ _ hk (dD i)).2;rw[NxB.ok hG E kN f g j l] at e;have:=WL.ok c m g Ns N' (k+1) (by rw[dD i,e]) f o;rw[dD b] at hk;rw[AR b,this,Option.some.inj hk]
omit hG E in
theorem DT (b:xJ n G L [0])(a:L.getD 0 []=bL n):Pz L (λx=>x=bL n)= [0]:=by
 refine (Dy L _).uniq (K:=λx=>x=bL n) ⟨b.rk.asc,λi=>?_⟩;rw[b.rk.mem i]
 refine and_congr_right λ_=>⟨λ⟨j,hj,e⟩=>?_,λe=>⟨0,List.mem_singleton.2 rfl,?_⟩⟩
 ·rw[List.mem_singleton.1 hj] at e;rw[←e,a]
 ·rw[a,e]
theorem OZ (i:Ky n G L K rs)(f:Cm n G L K){a:LN}(k:FG n L [0]=true)(j:L.getD 0 []=bL n)(h:WL n L Rp Cg ([0]::a)=true):rs= [0]::a:=by
 obtain⟨r,c,g⟩:=i.ex;have d:=FG.ok hG E k;have e:=DT d j;have b:=c.hd;rw[e] at b;exact WL.ok hG E c g f a [0] 0 b d h
end
theorem RC {K:List Nat}{rs:LN}(a:Ky 4 (bX 4 (· ∈DD)) DH K rs)(b:Cm 4 (bX 4 (· ∈DD)) DH K):rs= [[0], [0,7,16,23], [0,3,4,7,8,11,12,15,16,19,20,23],List.range 24]:=OZ (Rp:= [1,3,7,9]) (Cg:= [0,2,8]) (bX.dN Wz) Am a b (by decide+kernel) rfl (by decide+kernel)
theorem Ah:dW (bX 4 (· ∈Ij)) qB:=Ze.Xz (ws:= [[], [0], [1], [0,1]]) (by decide+kernel)
theorem acU {i:Nat}(f:i<4)(k:i∉ [0]):Aw 4 (bX 4 (· ∈Ij)) qB [0] i= [0,i]/\xJ 4 (bX 4 (· ∈Ij)) qB [0,i]/\WL 4 qB [1,2,3] [0] [[0,i],List.range 4]=true:=by
 have hG:=bX.dN Su;have E:=Ah;have l:xJ 4 (bX 4 (· ∈Ij)) qB [0]:=FG.ok hG E (by decide+kernel);have g: ∀i,i<4->i∉ [0]->FG 4 qB [0,i]=true/\WL 4 qB [1,2,3] [0] [[0,i],List.range 4]=true:=by decide+kernel
 obtain⟨v,p⟩:=g i f k;have d:xJ 4 (bX 4 (· ∈Ij)) qB [0,i]:=FG.ok hG E v;refine⟨oQ (Rj hG E l f).rk.asc d.rk.asc λt=>?_,d,p⟩;obtain⟨m,o,_⟩:=Gw l f k;refine⟨λc=>?_,λc=>?_⟩
 ·obtain⟨q,u⟩:=(Bj t).1 c
  refine (d.rk.mem t).2 ⟨q,NC.le u d.dN (λa h=>h.elim (λ⟨j,hj,e⟩=>⟨j,by rw[List.mem_singleton.1 hj];exact Ab,e⟩) λe=>by rw[e];exact⟨i,by simp,rfl⟩) λa b s w=>d.nm a b s w⟩
 ·rcases zH.1 c with rfl|c
  ·exact m 0 Ab
  ·rw[List.mem_singleton.1 c];exact o
theorem VC {K:List Nat}{rs:LN}(q:Ky 4 (bX 4 (· ∈Ij)) qB K rs)(b:Cm 4 (bX 4 (· ∈Ij)) qB K): ∃i,i<4/\i∉ [0]/\rs= [[0], [0,i],List.range 4]/\Pw 4 (bX 4 (· ∈Ij)) qB K [0]= [0,i]:=by
 obtain⟨r,c,l⟩:=q.ex;have hG:=bX.dN Su;have E:=Ah;have m:xJ 4 (bX 4 (· ∈Ij)) qB [0]:=FG.ok hG E (by decide+kernel);have a:=c.hd;rw[DT m rfl] at a;have g:=(Ax.1 a).1
 have j:0+1<rs.length:=Nat.lt_of_not_le λh=>by
  have o:=c.la;rw[show rs.length- 1=0 by omega,a] at o;cases o;cases l
 have e:=(c.st 0 _ _ a (dD j)).2;obtain⟨⟨i,hi,k,d⟩,_⟩:=Fv hG E m b (show 1<4 by omega);have f:i<4:=b.lt hi;obtain⟨s,t,p⟩:=acU f k;rw[s] at d;rw[d] at e;have:=WL.ok hG E c l b [List.range 4] [0,i] 1 (by rw[dD j,e]) t p;refine⟨i,f,k,?_,d⟩;rw[←List.take_append_drop 1 rs,this,List.take_succ_eq_append_getElem g];rw[dD g] at a;rw[Option.some.inj a]
 rfl
theorem agL {K:List Nat}{rs:LN}(b:Ky 4 (bX 4 (· ∈Ij)) qB K rs)(a:Cm 4 (bX 4 (· ∈Ij)) qB K):rs.map List.length= [1,2,4]:=by
 obtain⟨i,_,_,e,_⟩:=VC b a;rw[e];rfl
abbrev PS:LN:= [[0,1,2,3,4], [0,1,3,4,2], [0,1,4,2,3], [0,2,1,4,3], [0,2,3,1,4], [0,2,4,3,1], [0,3,1,2,4], [0,3,2,4,1], [0,3,4,1,2], [0,4,1,3,2], [0,4,2,1,3], [0,4,3,2,1], [1,0,2,4,3], [1,0,3,2,4], [1,0,4,3,2], [1,2,0,3,4], [1,2,3,4,0], [1,2,4,0,3], [1,3,0,4,2], [1,3,2,0,4], [1,3,4,2,0], [1,4,0,2,3], [1,4,2,3,0], [1,4,3,0,2], [2,0,1,3,4], [2,0,3,4,1], [2,0,4,1,3], [2,1,0,4,3], [2,1,3,0,4], [2,1,4,3,0], [2,3,0,1,4], [2,3,1,4,0], [2,3,4,0,1], [2,4,0,3,1], [2,4,1,0,3], [2,4,3,1,0], [3,0,1,4,2], [3,0,2,1,4], [3,0,4,2,1], [3,1,0,2,4], [3,1,2,4,0], [3,1,4,0,2], [3,2,0,4,1], [3,2,1,0,4], [3,2,4,1,0], [3,4,0,1,2], [3,4,1,2,0], [3,4,2,0,1], [4,0,1,2,3], [4,0,2,3,1], [4,0,3,1,2], [4,1,0,3,2], [4,1,2,0,3], [4,1,3,2,0], [4,2,0,1,3], [4,2,1,3,0], [4,2,3,0,1], [4,3,0,2,1], [4,3,1,0,2], [4,3,2,1,0]]
theorem tT:dW (bX 5 (· ∈HH)) PS:=Ze.Xz (ws:= [[], [1,0,0], [0,1,1,1,1], [1,0,1,0,0,1,1], [1,1,1,1,0,1], [0,1,1,1,0,1], [1,0,1,1,1], [0,1,0], [1,1,0], [1,0,1,0,1,1], [0,0,1,0,1,1], [0,1,0,1,0,0], [1,0,1,0,1,1,1], [0,0,1,0,1,1,1], [0,1,0,1,0,0,1], [0], [1], [1,0,0,1], [0,1,0,0], [1,0,1,1,1,0], [1,1,0,0], [1,1,0,1], [1,0,1,1,1,1], [0,1,0,1], [0,0], [1,0], [0,1,0,1,1], [0,1,0,1,0,0,1,1], [0,0,1,0,1,1,1,0], [0,0,1,0,1,1,1,1], [1,0,0,1,1], [0,1], [1,1], [1,1,0,0,1], [0,1,0,0,1], [0,1,0,1,0], [0,0,1,0,0], [0,1,0,0,1,1], [1,0,1,0,0], [0,1,0,1,1,1], [0,0,1], [1,0,1], [0,0,1,0], [0,1,0,1,1,1,0], [1,0,1,0], [1,1,1], [1,1,1,0], [0,1,1], [1,1,1,1], [1,1,1,0,1], [0,1,1,1], [1,0,1,0,0,1], [1,1,1,1,0], [0,1,1,1,0], [1,0,1,1], [0,1,0,1,1,1,1], [0,0,1,1], [1,0,1,0,1], [0,0,1,0,1], [0,0,1,0,1,0]]) (by decide+kernel)
theorem afY {K:List Nat}{rs:LN}(a:Ky 5 (bX 5 (· ∈HH)) PS K rs)(b:Cm 5 (bX 5 (· ∈HH)) PS K):rs= [[0],List.range 60]:=OZ (Rp:= [1,3,16,17]) (Cg:= [0,1,30]) (bX.dN HN) tT a b (by decide+kernel) rfl (by decide+kernel)
end
theorem PG {W:Nat->Prop}(Z:V)(n:Nat)(O:LN)(R:jI)(G:List Nat->Prop)(h:H)(f:GC W h Z n O R G):
  Ev T 42 [Z] h (λv h'=>v= aC (kI O n 0:Nat)/\Fr h h'):=by
 obtain⟨z,vR,q,a1,rfl,J,oO,Y,sR,oR,aR⟩:=f.cw
 refine cV Fl rfl ?_
 have l:=(SV.cK J).2.1
 have s:=(SV.cK sR).2.1
 have d:=f.isc
 have n7:=f.n7
 have a0:=jH f
 have lO:=aM.length Y
 rw[d.lo] at lO
 obtain⟨B,P⟩:=exI h.next
 obtain⟨h1,e1,n1,N,o1,y⟩:=dF P [aC n,z,vR]
 have r:bT z=some (aC n):=by unfold bT;rw[SV.len J (n:=n) om om];rfl
 obtain⟨L,o,A,p,cO⟩:=SV.shape J n om om
 simp(disch:=omega)only[go_sem,Fl,aD,bM h (v:= aC n) (u:=z) (w:=vR) rfl l s,P,e1]
 refine aH (λU b x=> ∃(i a:Nat),(∃g:Nat->V,b= [g 0,.ptr B 0,g 2,aC a,aC i,g 5])/\i<=n/\a*kI O (n-i) i=kI O n 0/\x=h1/\U=n-i) n
  ⟨0,1,aB rfl,iJ _,by rw[Nat.one_mul];rfl,rfl,rfl⟩ ?_
 rintro U b x ⟨i,a,⟨g,rfl⟩,hi,c,rfl,rfl⟩
 by_cases k:(i:Int)<(n:Int)
 case neg=>
  have F:=bH k;obtain rfl:i=n:=om
  simp(disch:=omega)only[go_sem,H.aF N,r,F];rw[Nat.sub_self] at c;have:kI O 0 i=1:=rfl;rw[this,uW] at c;exact⟨by rw[c],y⟩
 have F:=bP k
 have e:i<n:=om
 have t:=aM.get Y i om (by rw[d.lo];exact e)
 rw[show O[i]'(by rw[d.lo];exact e)=O.getD i [] from rN _] at t
 have co:x.cell L (o+i)=some (q[i]'om):=by
  rw[y.cell (p om),cO i om,dD om]
 generalize q[i]'om=vo at t co
 have K:=(t.si.mono y).lens
 rw[aQ] at K
 have st:kI O (n-i) i=(O.getD i []).length*kI O (n-(i+1)) (i+1):=by
  rw[show n-i=(n-(i+1))+1 by omega];rfl
 have pos:=Ln (O:=O) (n-(i+1)) (i+1) (λj h1 h2=>(f.row om).1)
 obtain⟨m,Q⟩:=exI ((O.getD i []).length)
 rw[st,←Nat.mul_assoc,Q] at c
 rw[Q] at K
 have bd:a*m<=kI O n 0:=by rw[←c];exact Nat.le_mul_of_pos_right _ pos
 have em:(a:Int)*(m:Int)=((a*m:Nat):Int):=rfl
 obtain⟨w,hw⟩:=exI (a*m)
 rw[hw] at em bd c
 simp(disch:=omega)only[go_sem,H.aF N,r,F,A.ixa,co,K,em]
 rw[eJ i]
 exact⟨n-(i+1),om,i+1,w,aB rfl,om,c,rfl⟩
theorem ZS {h:H}{id o:Nat}{a b c:V}(r:h.row id o 3=some [a,b,c]):h.cell id (o+1)=some b:=by
 unfold H.row at r;unfold H.cell;split at r
 ·rename_i f d e
  rw[e];simp only[sub] at r;split at r
  ·have r:=Option.some.inj r
   have:=congrArg (λl:List V=>l[1]?) r;simp at this;exact this
  ·cases r
 ·cases r
theorem lU {W:Nat->Prop}(x J:V)(n:Nat)(ls:List (V×V))(l:List nE)(a:List Nat)(h:H)(sv:SV h x 3 (Kr n ls))(al:aM (λp (e:nE)=> ∃G,GC W h (.agg [aC n,p.1,p.2]) n e.1 e.2 G) ls l)(l6:l.length<=6000)(O:SI h J (zi a))(U:l.map (λe=>kI e.1 n 0)=a):
  Ev T 29 [x,aC 0,J] h (λv h'=>v= .bool true/\Fr h h'):=by
 refine cV Du rfl ?_
 have la:=aM.length al
 have L:a.length=l.length:=by rw[←U,jV]
 have z:bT x=some (aC (l.length:Int)):=by unfold bT;rw[SV.len sv (n:=l.length) (by rw[lC,la]) om];rfl
 have r:=O.lens
 rw[aQ,L] at r
 have d0:decide ((0:Int)≠0)=false:=rfl
 have d1:decide ((l.length:Int)≠(l.length:Int))=false:=bH λh=>h rfl
 obtain⟨t,j,s,c,q⟩:=O.open
 rw[aQ,L] at s c q
 simp(disch:=omega)only[go_sem,Du,aD,d0,z,r,d1]
 refine aH (λR f m=> ∃(i:Nat),(∃g:Nat->V,f= [x,aC 0,J,g 3,aC i,g 5,g 6,g 7])/\i<=l.length/\Fr h m/\R=l.length-i) l.length
  ⟨0,aB rfl,iJ _,Fr.refl h,rfl⟩ ?_
 rintro R f m ⟨i,⟨g,rfl⟩,hi,F,rfl⟩
 by_cases u:(i:Int)<(l.length:Int)
 case neg=>
  have A:=bH u;simp(disch:=omega)only[go_sem,z,A];exact F
 have A:=bP u
 have o:i<l.length:=om
 obtain⟨r1,o1,B,K⟩:=Lw (sv.mono F) (i:=i) om
 obtain⟨G1,b⟩:=aM.get al i om o
 have w:a.getD i 0=kI l[i].1 n 0:=by rw[←U,List.getD,Ol,dD o];rfl
 generalize ls[i]'om=p1 at K b
 generalize l[i]=e at b w
 have Q:m.cell t (j+i)=some (aC (kI e.1 n 0:Nat)):=by
  rw[F.cell (c om),q i o,←w];congr 2;exact nP (λk:Nat=>(k:Int)) (d:=0) om
 have lp:bT p1.1=some (aC n):=by
  obtain⟨vO,vR,a1,a0,N,sO,oO,pO,_⟩:=b.cw;simp only[V.agg.injEq,List.cons.injEq,true_and,and_true] at N;rw[N.1];have lO:=aM.length pO;rw[b.isc.lo] at lO;unfold bT;rw[SV.len sO (n:=n) om om];rfl
 have d3:decide ((n:Int)=0)=false:=bH (by have:=b.n0;omega)
 have d4:decide (((kI e.1 n 0:Nat):Int)≠((kI e.1 n 0:Nat):Int))=false:=bH λh=>h rfl
 have P:Fr m (H.mk m.tr (m.next+19)):=(Fr.refl m).bA om
 simp(disch:=omega)only[go_sem,z,A,B.ixa,ZS K,lp,d3,K,s.ixa,Q]
 refine (PG _ n e.1 e.2 G1 _ (b.mono (F.trans P))).mono ?_
 rintro _ Y ⟨rfl,Z⟩
 have F2:=P.trans Z
 have y:Y.cell t (j+i)=some (aC (kI e.1 n 0:Nat)):=by rw[F2.cell (by have:=c om;have:=F.next;omega)];exact Q
 simp(disch:=omega)only[go_sem,y,d4,dE]
 refine⟨by simp,?_⟩
 rw[eJ i]
 exact⟨l.length-(i+1),om,i+1,aB rfl,om,F.trans F2,rfl⟩
section
variable {L rs:LN} {K:List Nat}
def aeM (h:H)(neg:Bool)(x y:V):Option (V×H):=match x,y with
 | .str a,.str b=>some (.bool (if neg then !(a.map (· %256)==b.map (· %256)) else a.map (· %256)==b.map (· %256)),h)
 |_,_=>none
theorem XZ (ρ:X->V)(h:H)(neg:Bool)(x y:X):cI ρ h (.seq neg x y)=aeM h neg (ρ x) (ρ y):=by
 simp only[cI,aeM]
 rfl
theorem QH (h:H)(a:List Nat):aeM h true (.str a) (.str a)=some (.bool false,h):=by
 show some (V.bool (!(_==_)),h)=_;rw[beq_self_eq_true];rfl
theorem WV (d e:V)(l:LN)(h:H)(G:l.length<1000000)(s:SV h d 1 (l.map V.str))(q:SV h e 1 (l.map V.str)):
  Ev T 17 [d,e] h (λv h'=>v= .bool true/\Fr h h'):=by
 refine cV uX rfl ?_
 have f:(l.map V.str).length=l.length*1:=by rw[jV];omega
 have m:bT d=some (aC (l.length:Int)):=by unfold bT;rw[SV.len s f om];rfl
 have lb:bT e=some (aC (l.length:Int)):=by unfold bT;rw[SV.len q f om];rfl
 have x:decide ((l.length:Int)≠(l.length:Int))=false:=bH λh=>h rfl
 simp(disch:=omega)only[go_sem,uX,aD,m,lb,x]
 refine aH (λp a b=> ∃(i:Nat),(∃g:Nat->V,a= [d,e,g 2,aC i,g 4,g 5,g 6])/\i<=l.length/\Fr h b/\p=l.length-i) l.length
  ⟨0,aB rfl,iJ _,Fr.refl h,rfl⟩ ?_
 rintro p a b ⟨i,⟨g,rfl⟩,hi,F,rfl⟩
 by_cases c:(i:Int)<(l.length:Int)
 case neg=>
  have o:=bH c;simp(disch:=omega)only[go_sem,m,o];exact F
 have o:=bP c
 have k:i<l.length:=om
 obtain⟨B,A,j,_,w⟩:=(s.mono F).shape l.length f om
 obtain⟨z,J,n,_,y⟩:=(q.mono F).shape l.length f om
 have t:=w i om
 have r:=y i om
 rw[Ol,dD k] at t r
 have u:Fr b (H.mk b.tr (b.next+9)):=(Fr.refl b).bA om
 simp(disch:=omega)only[go_sem,m,o,j.ixa,t,n.ixa,r,XZ,QH]
 rw[eJ i]
 exact⟨l.length-(i+1),om,i+1,aB rfl,om,F.trans u,rfl⟩
theorem Ut {W:Nat->Prop}(j f:V)(n:Nat)(O:LN)(R:jI)(G:List Nat->Prop)(a:LN)(h:H)(b:GC W h j n O R G)(J:SV h f 1 (a.map V.str))(B: ∀L K rs,dW G L->Cm n G L K->Ky n G L K rs->Pl rs=a):
  Ev T 45 [j,f] h (λv h'=>v= .bool true/\Fr h h'):=by
 obtain⟨k,l,rfl,q,z⟩:=b.shape
 refine cV yT rfl ?_
 obtain⟨A,g⟩:=exI h.next
 obtain⟨y,F,P,m,Q,c⟩:=dF g [aC n,k,l]
 simp(disch:=omega)only[go_sem,yT,aD,bM h (v:= aC n) (u:=k) (w:=l) rfl q z,g,F,aI m]
 refine (CR _ n O R G y (b.mono c)).mono ?_
 rintro _ o ⟨t,L,K,rs,rfl,p,x,s,sv,d,i⟩
 have E:=(dM b.dN b.isc).1
 rw[p] at E
 have e:=B L K rs E x s
 rw[e] at sv d
 simp(disch:=omega)only[go_sem,eq_self,decide_true]
 refine (WV t f a o om sv (J.mono (c.trans i))).mono ?_
 rintro _ N ⟨rfl,r⟩
 simp(disch:=omega)only[go_sem]
 exact c.trans (i.trans r)
theorem AH {n:Nat}(h:n<=9):vT n= [48+n]:=by unfold vT;rw[bI om]
theorem afW (E:dW (bX 4 (· ∈DD)) L)(a:Cm 4 (bX 4 (· ∈DD)) L K)(b:Ky 4 (bX 4 (· ∈DD)) L K rs):Pl rs= [[67,50], [67,50], [67,50], [67,51]]:=by
 obtain rfl:=E.uniq Am;rw[RC b a];have e:Pl=λrs=>(Lr (mU (rs.map List.length))).map Prod.snd:=rfl
 rw[e];simp [mU,iY,Eg,LY,NG,Lr,Ep,AH,List.replicate]
theorem afH (E:dW (bX 4 (· ∈Ij)) L)(a:Cm 4 (bX 4 (· ∈Ij)) L K)(b:Ky 4 (bX 4 (· ∈Ij)) L K rs):Pl rs= [[67,50], [67,50]]:=by
 obtain rfl:=E.uniq Ah;unfold Pl;rw[agL b a];simp [mU,iY,Eg,LY,NG,Lr,Ep,AH,List.replicate]
theorem afG (E:dW (bX 5 (· ∈HH)) L)(a:Cm 5 (bX 5 (· ∈HH)) L K)(b:Ky 5 (bX 5 (· ∈HH)) L K rs):Pl rs= [[65,53]]:=by
 obtain rfl:=E.uniq tT;unfold Pl;rw[afY b a];simp [mU,iY,Eg,LY,NG,Lr,Ep,Eh]
end
theorem adL (h:H)(x y z w:List Nat):lQ h 1 [.str []] 4 [(0,1,.str x),(1,1,.str y),(2,1,.str z),(3,1,.str w)]=some (.sl h.next 0 4 (.kn 4),h.new (.cells false [.str x,.str y,.str z,.str w])):=rfl
theorem aeS (h:H)(x y:List Nat):lQ h 1 [.str []] 2 [(0,1,.str x),(1,1,.str y)]=some (.sl h.next 0 2 (.kn 2),h.new (.cells false [.str x,.str y])):=rfl
theorem agM (h:H)(x:List Nat):lQ h 1 [.str []] 1 [(0,1,.str x)]=some (.sl h.next 0 1 (.kn 1),h.new (.cells false [.str x])):=rfl
theorem CQ (h:H):Ev T 11 [] h (λv h'=>v= .bool true/\Fr h h'):=by
 refine cV Da rfl ?_;simp(disch:=omega)only[go_sem,Da,aD];refine (Ke h).mono ?_;rintro _ h1 ⟨c0,c1,c2,c3,O0,R0,O1,R1,O2,R2,O3,R3,rfl,d,t,k,m,f1⟩;obtain⟨Q,q0,rfl,a0,b0⟩:=d.shape;obtain⟨p1,P,rfl,a1,b1⟩:=t.shape;obtain⟨p2,q2,rfl,a2,b2⟩:=k.shape;obtain⟨p3,q3,rfl,a3,b3⟩:=m.shape;obtain⟨A,hA⟩:=exI h1.next;obtain⟨k1,e1,n1,g1,o1,F1⟩:=dF hA [aC 0,.aE,.aE];obtain⟨k2,e2,n2,g2,o2,F2⟩:=dF n1 [aC 0,.aE,.aE];obtain⟨k3,e3,n3,g3,o3,F3⟩:=dF n2 [aC 0,.aE,.aE];obtain⟨p,e4,n4,g4,B,F4⟩:=dF n3 [aC 0,.aE,.aE];have z1:p.get A=aZ [aC 0,.aE,.aE]:=by rw[B _ om,o3 _ om,o2 _ om];exact g1
 have z2:p.get (A+1)=aZ [aC 0,.aE,.aE]:=by rw[B _ om,o3 _ om];exact g2
 have z3:p.get (A+1+1)=aZ [aC 0,.aE,.aE]:=by rw[B _ om];exact g3
 obtain⟨k5,e5,n5,g5,J⟩:=pJ p A [aC (4:Nat),Q,q0];obtain⟨k6,e6,n6,g6,N⟩:=pJ k5 (A+1) [aC (4:Nat),p1,P];obtain⟨k7,e7,n7,g7,F⟩:=pJ k6 (A+1+1) [aC (4:Nat),p2,q2];obtain⟨c,e8,n8,g8,O⟩:=pJ k7 (A+1+1+1) [aC (5:Nat),p3,q3];have y2:k5.get (A+1)=aZ [aC 0,.aE,.aE]:=by rw[J _ om];exact z2
 have y3:k6.get (A+1+1)=aZ [aC 0,.aE,.aE]:=by rw[N _ om,J _ om];exact z3
 have y4:k7.get (A+1+1+1)=aZ [aC 0,.aE,.aE]:=by rw[F _ om,N _ om,J _ om];exact g4
 have b:Fr h1 c:=⟨om,λq hq=>by rw[O q om,F q om,N q om,J q om,B q om,o3 q om,o2 q om,o1 q om]⟩
 have r1: ∀a,Fr c a->a.row A 0 3=some [aC (4:Nat),Q,q0]:=λa f=>aI (by rw[f.get A om,O _ om,F _ om,N _ om];exact g5)
 have r2: ∀a,Fr c a->a.row (A+1) 0 3=some [aC (4:Nat),p1,P]:=λa f=>aI (by rw[f.get _ om,O _ om,F _ om];exact g6)
 have r3: ∀a,Fr c a->a.row (A+1+1) 0 3=some [aC (4:Nat),p2,q2]:=λa f=>aI (by rw[f.get _ om,O _ om];exact g7)
 have r4: ∀a,Fr c a->a.row (A+1+1+1) 0 3=some [aC (5:Nat),p3,q3]:=λa f=>aI (by rw[f.get _ om];exact g8)
 simp(disch:=omega)only[go_sem,hA,e1,n1,e2,n2,e3,n3,e4,bW p A 0 (v:= aC (4:Nat)) (u:=Q) (w:=q0) rfl a0 b0,z1,cF,e5,bW k5 (A+1) 0 (v:= aC (4:Nat)) (u:=p1) (w:=P) rfl a1 b1,y2,e6,bW k6 (A+1+1) 0 (v:= aC (4:Nat)) (u:=p2) (w:=q2) rfl a2 b2,y3,e7,bW k7 (A+1+1+1) 0 (v:= aC (5:Nat)) (u:=p3) (w:=q3) rfl a3 b3,y4,e8,r1 c (Fr.refl _)];refine (Eu _ 4 O0 R0 _ c (d.mono b)).mono ?_;rintro _ h2 ⟨v2,a7,l2,rfl,s2,b8,uA,f2⟩;simp(disch:=omega)only[go_sem,r3 h2 f2];refine (Nq _ 4 O2 R2 _ h2 (k.mono (b.trans f2))).mono ?_;rintro _ h3 ⟨v3,U,l3,rfl,s3,b5,a4,f3⟩;have w2:=Zi d.isc uA;have w3:=Xs k.isc a4;have L2:l2.length<=6000:=by have:=congrArg List.length w2;rw[jV] at this;rw[this];decide
 have L3:l3.length<=6000:=by have:=congrArg List.length w3;rw[jV] at this;rw[this];decide
 obtain⟨h4,Y,d0,W,e0,f4⟩:=dF (h:=h3) rfl (ints [24,12,4,1]);have o:=f3.trans f4;simp(disch:=omega)only[go_sem,Ec,Y];have b4: ∀q,Fr c q->Fr h q:=λq f=>f1.trans (b.trans f)
 refine (lU v2 _ 4 a7 l2 [24,12,4,1] h4 (s2.mono o) (aM.mono (λ_ _ ⟨G,g,_⟩=>⟨G,g.mono o⟩) b8) L2 (SV.all rfl om W _) w2).mono ?_;rintro _ h5 ⟨rfl,f5⟩;obtain⟨h6,a6,d2,b7,d3,f6⟩:=dF (h:=h5) rfl (ints [8,2,1]);have Z:=f5.trans f6;have l:=f4.trans Z;simp(disch:=omega)only[go_sem,SA,a6];refine (lU v3 _ 4 U l3 [8,2,1] h6 (s3.mono l) (aM.mono (λ_ _ ⟨G,g,_⟩=>⟨G,g.mono l⟩) b5) L3 (SV.all rfl om b7 _) w3).mono ?_;rintro _ h7 ⟨rfl,f7⟩;have r:Fr c h7:=f2.trans (f3.trans (l.trans f7));obtain⟨h8,c6,d7,b9,d4,f8⟩:=dF (h:=h7) rfl [.str [67,50],.str [67,50],.str [67,50],.str [67,51]];have z:=r.trans f8;simp(disch:=omega)only[go_sem,r1 h7 r,adL,c6];refine (Ut _ _ 4 O0 R0 _ [[67,50], [67,50], [67,50], [67,51]] h8 (d.mono (b.trans z)) (SV.all (len:=4) rfl om b9 _) λL K rs E y s=>afW E y s).mono ?_;rintro _ h9 ⟨rfl,f9⟩;have n:=z.trans f9;obtain⟨b6,c7,d8,c8,d5,R⟩:=dF (h:=h9) rfl [.str [67,50],.str [67,50]];have i:=n.trans R;simp(disch:=omega)only[go_sem,r2 h9 n,aeS,c7];refine (Ut _ _ 4 O1 R1 _ [[67,50], [67,50]] b6 (t.mono (b.trans i)) (SV.all (len:=2) rfl om c8 _) λL K rs E y s=>afH E y s).mono ?_;rintro _ x ⟨rfl,c5⟩;have j:=i.trans c5;obtain⟨a8,a9,d9,c4,d1,c9⟩:=dF (h:=x) rfl [.str [65,53]];have e:=j.trans c9;simp(disch:=omega)only[go_sem,r4 x j,agM,a9];refine (Ut _ _ 5 O3 R3 _ [[65,53]] a8 (m.mono (b.trans e)) (SV.all (len:=1) rfl om c4 _) λL K rs E y s=>afG E y s).mono ?_;rintro _ d6 ⟨rfl,a5⟩;simp(disch:=omega)only[go_sem];exact b4 _ (e.trans a5)
end Go.Proofs.YtcdbmkidaecdiaaGreat
namespace Go.Proofs.YtcdbmkidaecdiaaGreat.Cls.Nor
open Go Go.Ay Go.Sort Cls
set_option maxRecDepth 100000
section
variable {α:Type} [Inhabited α] [O:aN α]
end
theorem oW  {α:Type}[Inhabited α][O:aN α](h:H)(S N a b:Nat)(d:Array α)(w:lI)(hN:N<1000000)(A:cE h S N d)(hb:b<=N)(K:a<=b):
  Ev T 168 [.sl S 0 N w,aC a,aC b,.fn (aN.f α) [] []] h (λ_ h'=>cE h' S N (insertionSort aN.lt d a b)/\Fx (· =S) h h'):=by
 refine cV fL rfl ?_
 simp(disch:=omega)only[go_sem,fL,aD]
 rw[eJ a]
 refine aH (λs c r=> ∃(i:Nat) (e:Array α),(∃g:Nat->V,c= [.sl S 0 N w,aC a,aC b,.fn (aN.f α) [] [],aC i,g 5,g 6,g 7])/\a<i/\i<=b+1/\cE r S N e/\insOuter aN.lt a b i e=insertionSort aN.lt d a b/\Fx (· =S) h r/\s=b+1-i) (b+1-(a+1))
  ⟨a+1,d,aB rfl,om,om,A,rfl,Fx.refl _ h,rfl⟩ ?_
 clear A
 rintro s c h1 ⟨i,e,⟨g,rfl⟩,Q,R,A,k,F,rfl⟩
 simp(disch:=omega)only[go_sem]
 by_cases t:(i:Int)<(b:Int)
 case neg=>
  rw[bH t];simp(disch:=omega)only[go_sem];rw[insOuter,bI om] at k;rw[←k];exact⟨A,F⟩
 rw[bP t]
 rw[insOuter,bF om] at k
 simp(disch:=omega)only[go_sem]
 refine aH (λs c r=> ∃(j:Nat) (l:Array α),(∃g:Nat->V,c= [.sl S 0 N w,aC a,aC b,.fn (aN.f α) [] [],aC i,aC j,g 6,g 7])/\a<=j/\j<=i/\cE r S N l/\insInner aN.lt a j l=insInner aN.lt a i e/\Fx (· =S) h r/\s=j) i
  ⟨i,e,aB rfl,om,om,A,rfl,F,rfl⟩ ?_
 clear A F
 rintro s c o ⟨j,l,⟨g2,rfl⟩,P,U,A,p,F,hk⟩
 have sz:=A.size
 by_cases u:(a:Int)<(j:Int)
 ·obtain⟨m,rfl⟩: ∃m,j=m+1:=⟨j- 1,om⟩
  have c1:=A.rd (i:=m+1) om
  have L:=A.rd (i:=m) om
  have x:=bP u
  have J:((m+1:Nat):Int)- 1=(m:Int):=om
  simp(disch:=omega)only[go_sem,x,J,c1,L]
  refine (dG A (i:=m+1) (j:=m) om om _ om).mono ?_
  rintro _ y ⟨z,rfl,B,v⟩
  have n:Fr o y:=Fr.trans ((Fr.refl o).bA om) v
  have q:=A.fr n
  have Y:=q.rd (i:=m+1) om
  have Z:=q.rd (i:=m) om
  cases hl:aN.lt l[m+1]! l[m]! with
  |false=>
   rw[Ud hl] at p;simp(disch:=omega)only[go_sem,B,hl];rw[eJ i];rw[←p] at k;exact⟨b+1-(i+1),om,i+1,l,aB rfl,om,om,q,k,dC F (Fx.of n),rfl⟩
  |true=>
   rw[Vb om hl] at p;simp(disch:=omega)only[go_sem,B,hl,J,Y,Z,q.get,bB,aY];have W:=q.swap (i:=m+1) (j:=m) (nx:=y.next+18) om rfl;exact⟨m,om,m,_,aB rfl,om,om,W.1,p,dC (dC F (Fx.of n)) W.2,rfl⟩
 ·have x:=bH u
  rw[Uf om] at p
  simp(disch:=omega)only[go_sem,x]
  rw[eJ i]
  rw[←p] at k
  have G:Fr o (H.mk o.tr (o.next+17)):=(Fr.refl o).bA om
  exact⟨b+1-(i+1),om,i+1,l,aB rfl,om,om,A.fr G,k,dC F (Fx.of G),rfl⟩
theorem kA  {α:Type}[Inhabited α][O:aN α](h:H)(S N x hi first:Nat)(d:Array α)(cp:lI)(hN:N<1000000)(A:cE h S N d)(hb:first+hi<=N)(Q:x<=hi):
  Ev T 211 [.sl S 0 N cp,aC x,aC hi,aC first,.fn (aN.f α) [] []] h (λ_ h'=>cE h' S N (siftDown aN.lt hi first x d)/\Fx (· =S) h h'):=by
 refine cV gO rfl ?_
 simp(disch:=omega)only[go_sem,gO,aD]
 refine aH (λk' s hh=> ∃(r:Nat) (e:Array α),(∃g:Nat->V,s= [.sl S 0 N cp,aC x,aC hi,aC first,.fn (aN.f α) [] [],aC r,g 6,g 7,g 8,g 9])/\r<=hi/\cE hh S N e/\siftDown aN.lt hi first r e=siftDown aN.lt hi first x d/\Fx (· =S) h hh/\k'=hi-r) (hi-x)
  ⟨x,d,aB rfl,Q,A,rfl,Fx.refl _ h,rfl⟩ ?_
 clear A
 rintro k' s w ⟨r,e,⟨g,rfl⟩,hr,A,a,F,rfl⟩
 have Y:2*(r:Int)+1=((2*r+1:Nat):Int):=om
 by_cases L:(hi:Int)<=((2*r+1:Nat):Int)
 ·have P:=bP L
  simp(disch:=omega)only[go_sem,Y,P]
  rw[xP,bF om] at a
  rw[←a]
  exact⟨A,F⟩
 have P:=bH L
 rw[xP,bI om] at a
 have Z:((2*r+1:Nat):Int)+1=((2*r+2:Nat):Int):=om
 have c:(first:Int)+(r:Int)=((first+r:Nat):Int):=om
 have l:(first:Int)+((2*r+1:Nat):Int)=((first+(2*r+1):Nat):Int):=om
 have J:(first:Int)+((2*r+2:Nat):Int)=((first+(2*r+2):Nat):Int):=om
 have U:((first+(2*r+1):Nat):Int)+1=((first+(2*r+1)+1:Nat):Int):=om
 have sz:=A.size
 by_cases K:((2*r+2:Nat):Int)<(hi:Int)
 ·have e2:=bP K
  have p:=A.rd (i:=first+(2*r+1)) om
  have G:=A.rd (i:=first+(2*r+1)+1) om
  simp(disch:=omega)only[go_sem,Y,P,Z,e2,l,U,p,G]
  refine (dG A (i:=first+(2*r+1)) (j:=first+(2*r+1)+1) om om _ om).mono ?_
  rintro _ y ⟨z,rfl,k,R⟩
  have B:Fr w y:=Fr.trans ((Fr.refl w).bA om) R
  have t:=A.fr B
  have o:=t.rd (i:=first+r) om
  have p:=t.rd (i:=first+(2*r+1)) om
  have G:=t.rd (i:=first+(2*r+2)) om
  cases hl:aN.lt e[first+(2*r+1)]! e[first+(2*r+1)+1]! with
  |false=>
   have m:Wm aN.lt hi first r e=2*r+1:=bI (by rw[hl];simp)
   rw[m] at a;simp(disch:=omega)only[go_sem,k,hl,c,l,o,p];refine (dG t (i:=first+r) (j:=first+(2*r+1)) om om _ om).mono ?_;rintro _ q ⟨z,rfl,k,n⟩;have v:Fr y q:=Fr.trans ((Fr.refl y).bA om) n;have b:=t.fr v;have o:=b.rd (i:=first+r) om;have p:=b.rd (i:=first+(2*r+1)) om;have u:=dC (dC F (Fx.of B)) (Fx.of v)
   cases hl2:aN.lt e[first+r]! e[first+(2*r+1)]! with
   |false=>
    rw[bI (by rw[hl2];simp)] at a;simp(disch:=omega)only[go_sem,k,hl2];rw[←a];exact⟨b,u⟩
   |true=>
    rw[bF hl2] at a;simp(disch:=omega)only[go_sem,k,hl2,c,l,o,p,b.get,bB,aY];have W:=b.swap (i:=first+r) (j:=first+(2*r+1)) (nx:=q.next+24) om rfl;exact⟨hi-(2*r+1),om,2*r+1,_,aB rfl,om,W.1,a,dC u W.2,rfl⟩
  |true=>
   have m:Wm aN.lt hi first r e=2*r+2:=bF ⟨om,hl⟩
   rw[m] at a;simp(disch:=omega)only[go_sem,k,hl,Z,c,J,o,G];refine (dG t (i:=first+r) (j:=first+(2*r+2)) om om _ om).mono ?_;rintro _ q ⟨z,rfl,k,n⟩;have v:Fr y q:=Fr.trans ((Fr.refl y).bA om) n;have b:=t.fr v;have o:=b.rd (i:=first+r) om;have G:=b.rd (i:=first+(2*r+2)) om;have u:=dC (dC F (Fx.of B)) (Fx.of v)
   cases hl2:aN.lt e[first+r]! e[first+(2*r+2)]! with
   |false=>
    rw[bI (by rw[hl2];simp)] at a;simp(disch:=omega)only[go_sem,k,hl2];rw[←a];exact⟨b,u⟩
   |true=>
    rw[bF hl2] at a;simp(disch:=omega)only[go_sem,k,hl2,c,J,o,G,b.get,bB,aY];have W:=b.swap (i:=first+r) (j:=first+(2*r+2)) (nx:=q.next+24) om rfl;exact⟨hi-(2*r+2),om,2*r+2,_,aB rfl,om,W.1,a,dC u W.2,rfl⟩
 ·have e2:=bH K
  have m:Wm aN.lt hi first r e=2*r+1:=bI om
  rw[m] at a
  have B:Fr w (H.mk w.tr (w.next+20)):=(Fr.refl w).bA om
  have t:=A.fr B
  have o:=A.rd (i:=first+r) om
  have p:=A.rd (i:=first+(2*r+1)) om
  simp(disch:=omega)only[go_sem,Y,P,Z,e2,c,l,o,p]
  refine (dG A (i:=first+r) (j:=first+(2*r+1)) om om _ om).mono ?_
  rintro _ q ⟨z,rfl,k,n⟩
  have v:Fr w q:=Fr.trans ((Fr.refl w).bA om) n
  have b:=A.fr v
  have o:=b.rd (i:=first+r) om
  have p:=b.rd (i:=first+(2*r+1)) om
  have u:=dC F (Fx.of v)
  cases hl2:aN.lt e[first+r]! e[first+(2*r+1)]! with
  |false=>
   rw[bI (by rw[hl2];simp)] at a;simp(disch:=omega)only[go_sem,k,hl2];rw[←a];exact⟨b,u⟩
  |true=>
   rw[bF hl2] at a;simp(disch:=omega)only[go_sem,k,hl2,c,l,o,p,b.get,bB,aY];have W:=b.swap (i:=first+r) (j:=first+(2*r+1)) (nx:=q.next+24) om rfl;exact⟨hi-(2*r+1),om,2*r+1,_,aB rfl,om,W.1,a,dC u W.2,rfl⟩
theorem qZ  {α:Type}[Inhabited α][O:aN α](h:H)(S N a b:Nat)(d:Array α)(s:lI)(B:N<1000000)(A:cE h S N d)(hb:b<=N)(K:a<=b):
  Ev T 169 [.sl S 0 N s,aC a,aC b,.fn (aN.f α) [] []] h (λ_ h'=>cE h' S N (heapSort aN.lt d a b)/\Fx (· =S) h h'):=by
 refine cV gW rfl ?_
 obtain⟨n,Z⟩:=exI (b-a)
 have U:(b:Int)-(a:Int)=(n:Int):=om
 have J:((n:Int)- 1).tdiv 2=(((n- 1)/2+1:Nat):Int)- 1:=by
  by_cases h0:n=0
  ·subst h0;decide
  ·rw[Int.tdiv_eq_ediv_of_nonneg om];omega
 simp(disch:=omega)only[go_sem,gW,aD,U,J]
 refine aH (λl c q=> ∃(k:Nat) (e:Array α),(∃g:Nat->V,c= [.sl S 0 N s,aC a,aC b,.fn (aN.f α) [] [],aC a,aC 0,aC n,aC ((k:Int)- 1),g 8,g 9,g 10])/\k<=n+1/\(k=1∨k<=n)/\cE q S N e/\heapBuild aN.lt n a k e=heapBuild aN.lt n a ((n- 1)/2+1) d/\Fx (· =S) h q/\l=k) ((n- 1)/2+1)
  ⟨(n- 1)/2+1,d,aB rfl,om,om,A,rfl,Fx.refl _ h,rfl⟩ ?_
 clear A
 rintro l c h1 ⟨k,e,⟨g,rfl⟩,t,y,A,v,F,x⟩
 subst x
 by_cases o:(0:Int)<=(l:Int)- 1
 ·have p:=bP o
  obtain⟨m,rfl⟩: ∃m,l=m+1:=⟨l- 1,om⟩
  have u:((m+1:Nat):Int)- 1=(m:Int):=om
  rw[u] at p
  rw[u]
  simp(disch:=omega)only[go_sem,p]
  refine (kA h1 S N m n a e s B A om om).mono ?_
  rintro _ z ⟨L,F2⟩
  simp(disch:=omega)only[go_sem]
  exact⟨m,om,m,_,aB rfl,om,om,L,v,dC F F2,rfl⟩
 have p:=bH o
 obtain rfl:l=0:=om
 have v:e=heapBuild aN.lt n a ((n- 1)/2+1) d:=v
 simp(disch:=omega)only[go_sem,p]
 refine aH (λl c q=> ∃(k:Nat) (r:Array α),(∃g:Nat->V,c= [.sl S 0 N s,aC a,aC b,.fn (aN.f α) [] [],aC a,aC 0,aC n,g 7,aC ((k:Int)- 1),g 9,g 10])/\k<=n/\cE q S N r/\heapPop aN.lt a k r=heapPop aN.lt a n e/\Fx (· =S) h q/\l=k) n
  ⟨n,e,aB rfl,om,A,rfl,F,rfl⟩ ?_
 clear A F o p t y
 rintro l c z ⟨k,r,⟨g,rfl⟩,t,A,w,F,x⟩
 subst x
 have sz:=A.size
 by_cases o:(0:Int)<=(l:Int)- 1
 ·have p:=bP o
  obtain⟨m,rfl⟩: ∃m,l=m+1:=⟨l- 1,om⟩
  have u:((m+1:Nat):Int)- 1=(m:Int):=om
  rw[u] at p
  rw[u]
  have R:(a:Int)+(m:Int)=((a+m:Nat):Int):=om
  have c1:=A.rd (i:=a+m) om
  have P:=A.rd (i:=a) om
  simp(disch:=omega)only[go_sem,p,R,c1,P,A.get,bB,aY]
  have W:=A.swap (i:=a) (j:=a+m) (nx:=z.next+20) om rfl
  have G:=kA _ S N 0 m a _ s B W.1 om om
  refine G.mono ?_
  rintro _ h3 ⟨Q,Y⟩
  simp(disch:=omega)only[go_sem]
  exact⟨m,om,m,_,aB rfl,om,Q,w,dC (dC F W.2) Y,rfl⟩
 have p:=bH o
 obtain rfl:l=0:=om
 simp(disch:=omega)only[go_sem,p]
 have w:r=heapPop aN.lt a n e:=w
 have:heapSort aN.lt d a b=r:=by unfold heapSort;rw[Z,w,v]
 rw[this]
 exact⟨A,F⟩
end Go.Proofs.YtcdbmkidaecdiaaGreat.Cls.Nor
