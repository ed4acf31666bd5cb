/- Texts of the claim. -/
import Derived.Test.YtcdbmkidaecdiaaGreatU11toU54
import Derived.Test.YtcdbmkidaecdiaaGreatP6ktoU10
import Derived.Test.YtcdbmkidaecdiaaGreatP5ptoP6j
set_option maxHeartbeats 64000000
namespace Go.Proofs.YtcdbmkidaecdiaaGreat
open Go Go.Ay Go.Pm
set_option maxRecDepth 100000
section
variable {b n:Nat} {h:H} {v:V} {l:List (Nat×List Nat)}
def HQ (b:Nat)(h:H)(v:V)(l:List (Nat×List Nat)):Prop:=(l= []/\v= .aE)∨ ∃S,v= .sl S 0 l.length (.un 2)/\h.get S=aZ (Cr l)/\S<h.next/\b<=S/\0<l.length
theorem HQ.mono {h':H}(r:HQ b h v l)(f:Fr h h'):HQ b h' v l:=by
 rcases r with r|⟨S,e,g,a,d,c⟩
 ·exact .inl r
 ·exact .inr ⟨S,e,by rw[f.get S a];exact g,iW a f.next,d,c⟩
theorem HQ.own (r:HQ b h v l):cY h v 2 (Cr l) b:=by
 rcases r with ⟨rfl,rfl⟩|⟨S,rfl,g,c,a,d⟩
 ·exact cY.aE _ _ _
 ·exact .inr ⟨S,l.length,_, [],rfl,Hl l,.inl rfl,a,c,by rw[vF];exact g⟩
theorem EN {D:Nat}{x:Nat×List Nat}(r:HQ b h v l)(j:b<=h.next)(t:l.length<1000000)(d:D<h.next)(i:h.get D=aZ (Jj x)):
  ∃v' h',xQ h 2 24 v (.sl D 0 1 (.kn 1))=some (v',h')/\HQ b h' v' (l++ [x])/\h.next<=h'.next/\ ∀q,q<b->h'.get q=h.get q:=by
 have o:=r.own
 obtain⟨h',a,p⟩:=(o.le (iJ _)).push (bytes:=24) (SV.all (sz:=2) (len:=1) (vs:=Jj x) rfl d i (.kn 1)) (n:=l.length) (m:=1) (Hl l) rfl om om om
 have s:=p.next
 refine⟨_,h',a,.inr ⟨h.next,by rw[jZ];rfl,by rw[ZW];exact p.get,om,j,by rw[jZ];exact Nat.succ_pos _⟩,om,λq k=>p.old q om λid f m c e u=>by have:=(o.in _ _ _ _ e).2.1;omega⟩
theorem NS (h:H)(z:Int)(s:List Nat):lQ h 2 [aC 0,.str []] 1 [(0,2,.agg [aC z,.str s])]=some (.sl h.next 0 1 (.kn 1),h.new (.cells false [aC z,.str s])):=rfl
theorem AV.sz {W:Nat->Prop}{G:List Nat->Prop}{L:LN}{p:V×V}{r:List Nat}(g:AV W n L h p r)(E:dW G L)(k:xJ n G L r):
  Ev T 65 [.agg [aC n,p.1,p.2]] h (λv h'=>v= aC (r.length:Nat)/\Fr h h'):=by
 obtain⟨O,R,a⟩:=g
 refine (vW _ n O R _ h a).mono ?_
 rintro _ h' ⟨rfl,f⟩
 rw[k.rk.len k.dN a.isc E k.le]
 exact⟨rfl,f⟩
theorem AV.eq {W:Nat->Prop}{L:LN}{p:V×V}{r:List Nat}(g:AV W n L h p r):dE p.1 p.1=true/\dE p.2 p.2=true:=by
 obtain⟨O,R,g⟩:=g;obtain⟨_,_,_,_,e,a,_,_,c,_,_⟩:=g.cw;simp only[V.agg.injEq,List.cons.injEq,and_true,true_and] at e;rw[e.1,e.2];exact⟨SV.dE a,SV.dE c⟩
theorem abC {sz i o j q:Nat}(a:Sl v sz n i o)(b:Sl v sz n j q)(h:0<n):i=j/\o=q:=by
 have e:=(a.ixa .i64 0 om om).symm.trans (b.ixa .i64 0 om om);simpa using e
theorem NZ: ∀{l:List (Nat×List Nat)} {i:Nat} (hi:i<l.length),(Cr l)[i*2+1]? =some (V.str l[i].2)
 |x::l,0,_=>rfl
 |x::l,i+1,hi=>by
  show (Jj x++Cr l)[(i+1)*2+1]? =_;rw[gAR (by show 2<=(i+1)*2+1;omega)];show (Cr l)[(i+1)*2+1- 2]? =_;rw[show (i+1)*2+1- 2=i*2+1 by omega];exact NZ (by simpa using hi)
theorem SC: ∀k (hk:k<Eh.length),Eh.find? (λx=>x.1==Eh[k].1)=some Eh[k]:=by decide
theorem acO:Eh.Pairwise λx y=>x.1<y.1:=by decide
theorem KU: ∀x∈Eh,x.1<1000000:=by decide
theorem adH (l:List Nat):mU (l.take 1)= []:=by cases l<;>rfl
theorem Uu (l:List (Nat×List Nat)):(Lr l).length=l.length:=by
 have:=(OJ l l.length (fM _)).2.1;rwa [List.take_length] at this
theorem HQ.sort (r:HQ b h v l)(t:b<=h.next)(p:l.length<20)(a: ∀x∈l,x.1<1000000):
  Ev T 70 [v,.fn 71 [] []] h (λ_ h'=>HQ b h' v (Lr l)/\h.next<=h'.next/\ ∀q,q<b->h'.get q=h.get q):=by
 rcases r with ⟨rfl,rfl⟩|⟨S,rfl,g,f,m,d⟩
 ·refine (Zy h.next 0 .aE [] h rfl om rfl (λj c=>om) (λh=>om) (λh=>om) a).mono ?_
  rintro i h' ⟨_,F⟩
  exact⟨.inl ⟨rfl,rfl⟩,F.next,λq o=>F.get q om om⟩
 ·refine (Zy S l.length _ l h rfl p rfl (λj c=>by simp [Dz,c]) (λ_=>f) (λ_=>g) a).mono ?_
  rintro i h' ⟨k,F⟩
  have s:=F.next
  exact⟨.inr ⟨S,by rw[Uu],k d,om,m,by rw[Uu];exact d⟩,F.next,λq o=>F.get q om om⟩
def akA (rs:LN):LN:=(Lr (mU (rs.map List.length))).map Prod.snd
theorem CR {W0:Nat->Prop}(vc:V)(n:Nat)(O:LN)(R:jI)(G:List Nat->Prop)(h:H)(gc:GC W0 h vc n O R G):
  Ev T 14 [vc] h (λv h'=> ∃vl L K rs,v= .tup [vl,aC 0]/\cZ O R n 0 (bL n)=L/\Cm n G L K/\Ky n G L K rs/\SV h' vl 1 ((akA rs).map V.str)/\(akA rs).length<20/\Fr h h'):=by
 obtain⟨vO,vR,rfl,b9,b8⟩:=gc.shape
 refine cV wV rfl ?_
 obtain⟨A,hA⟩:=exI h.next
 obtain⟨h1,e1,n1,g1,q1,f1⟩:=dF hA [aC n,vO,vR]
 simp(disch:=omega)only[go_sem,wV,aD,bM h (v:= aC n) (u:=vO) (w:=vR) rfl b9 b8,hA,e1,aI g1]
 refine (Ph _ n O R G h1 (gc.mono f1)).mono ?_
 rintro _ h2 ⟨vl,ls,L,K,rs,rfl,eL,ik,cl,sv,al,f2⟩
 have hG:=gc.dN
 obtain⟨E,eE⟩:=dM gc.dN gc.isc
 rw[eL] at E eE
 have ll:=jH gc
 obtain⟨rl,cb,h0⟩:=cl.ex
 have f0:=aM.length al
 have g0:=cb.len
 have lv:bT vl=some (aC (rs.length:Int)):=by unfold bT;rw[SV.len sv (n:=rs.length) (by rw[lC,f0]) om];rfl
 have r0:0<rs.length:=(Ax.1 cb.hd).1
 have sb: ∀i (hi:i<rs.length),1<=rs[i].length/\rs[i].length<=5040:=λi hi=>by
  have k:=cb.all _ (zG hi);have:=k.rk.short;refine⟨?_,om⟩;obtain⟨j,hj,_⟩:=k.dN.one;exact HJ hj
 obtain⟨sz,b2⟩:=exI (rs.map List.length)
 have d8:sz.length=rs.length:=by rw[←b2,jV]
 have N: ∀i (hi:i<rs.length),sz[i]'om=rs[i].length:=λi hi=>by subst b2;rw[List.getElem_map]
 have b5: ∀j,sz.getD j 0<=5040:=λj=>by
  by_cases hj:j<rs.length
  ·rw[List.getD,dD om,Option.getD_some,N j hj]
   exact (sb j hj).2
  ·rw[List.getD,List.getElem?_eq_none om];exact iJ _
 simp(disch:=omega)only[go_sem]
 refine aW (λhc=>(hc rfl).elim) (λ_=>?_)
 obtain⟨b,hb⟩:=exI h2.next
 simp(disch:=omega)only[go_sem]
 refine bJ (λvs P=> ∃z,(∃g:Nat->V,vs= [g 0,g 1,g 2,g 3,g 4,g 5,z,g 7,g 8,g 9,g 10,g 11,g 12,g 13,g 14,g 15,g 16,g 17,g 18,g 19,g 20,g 21,g 22,g 23,g 24,g 25,g 26,g 27,g 28,g 29])/\HQ b P z (mU sz)/\2^(mU sz).length<=5040/\(∀x∈mU sz,x.1<1000000)/\Fr h2 P) ?_ ?_
 ·refine aH (λB d P=> ∃(i:Nat) (z:V),(∃g:Nat->V,d= [g 0,g 1,g 2,g 3,vl,g 5,z,aC i,g 8,g 9,g 10,g 11,g 12,g 13,g 14,g 15,g 16,g 17,g 18,g 19,g 20,g 21,g 22,g 23,g 24,g 25,g 26,g 27,g 28,g 29])/\1<=i/\i<=rs.length/\HQ b P z (mU (sz.take i))/\2^(mU (sz.take i)).length<=sz.getD (i- 1) 0/\(∀x∈mU (sz.take i),x.1<1000000)/\Fr h2 P/\B=rs.length-i) (rs.length- 1)
   ⟨1,.aE,aB rfl,om,om,?_,?_,?_,Fr.refl _,rfl⟩ ?_
  ·rw[adH];exact .inl ⟨rfl,rfl⟩
  ·rw[adH,List.getD,dD om,Option.getD_some,N 0 r0]
   exact (sb 0 r0).1
  ·rw[adH];exact λx Q=>by cases Q
  rintro B d P ⟨i,z,⟨g,rfl⟩,g2,hi,fr,bd,sm,F,rfl⟩
  by_cases W:(i:Int)<(rs.length:Int)
  case neg=>
   have d1:=bH W;obtain rfl:i=rs.length:=om
   rw[←d8,List.take_length] at fr bd sm;simp(disch:=omega)only[go_sem,lv,d1];exact⟨z,aB rfl,fr,mT bd (b5 _),sm,F⟩
  have d1:=bP W
  have U:i<rs.length:=om
  have Y:i- 1<rs.length:=om
  obtain⟨ia,oa,b0,ra,na⟩:=SV.rec (k:=3) (f:=λp:V×V=> [aC n,p.1,p.2]) om (λ_=>rfl) (sv.mono F) (i:=i) om
  obtain⟨ib,ob,a6,rb,nb⟩:=SV.rec (k:=3) (f:=λp:V×V=> [aC n,p.1,p.2]) om (λ_=>rfl) (sv.mono F) (i:=i- 1) om
  obtain⟨rfl,rfl⟩:=abC b0 a6 om
  have ga:=(aM.get al i om U).go (Fx.of F) (W':=λ_=>False) λ_ _ h=>h
  have gb:=(aM.get al (i- 1) om Y).go (Fx.of F) (W':=λ_=>False) λ_ _ h=>h
  have ei:(i:Int)- 1=((i- 1:Nat):Int):=om
  have fb: ∀m,P.next<=m->Fr P (H.mk P.tr m):=λm hm=>(Fr.refl P).bA hm
  simp(disch:=omega)only[go_sem,lv,d1,b0.ixa,ra,ei,a6.ixa,rb]
  refine ((ga.go (Fx.of (fb (P.next+13) om)) (W':=λ_=>False) λ_ _ h=>h).sz E (cb.all _ (zG U))).mono ?_
  rintro _ h3 ⟨rfl,f3⟩
  have a0:=(fb _ om).trans f3
  have b6:h3.row ia (oa+(i- 1)*3) 3=some [aC n,ls[i- 1].1,ls[i- 1].2]:=by rw[DL a0 nb];exact rb
  have eb:=gb.eq
  simp(disch:=omega)only[go_sem,b6,eb.1,eb.2]
  refine ((gb.go (Fx.of a0) (W':=λ_=>False) λ_ _ h=>h).sz E (cb.all _ (zG Y))).mono ?_
  rintro _ h4 ⟨rfl,f4⟩
  have F4:=F.trans (a0.trans f4)
  obtain⟨q,o⟩:=exI (rs[i].length/rs[i- 1].length)
  have s1:=sb (i- 1) Y
  have s2:=sb i U
  have db:=abS hG E cb ik (i:=i- 1) om
  simp only[show i- 1+1=i by omega] at db
  have q2:2<=q:=by rw[←o];exact (Nat.le_div_iff_mul_le om).2 db
  have q3:rs[i- 1].length*q<=rs[i].length:=by rw[←o];exact Nat.mul_div_le _ _
  have q4:q<=5040:=mT (by rw[←o];exact Nat.div_le_self _ _) s2.2
  have c1:Int.tdiv ((rs[i].length:Nat):Int) ((rs[i- 1].length:Nat):Int)=(q:Int):=by rw[←o];rfl
  have z0:decide (((rs[i- 1].length:Nat):Int)=0)=false:=bH om
  simp(disch:=omega)only[go_sem,c1,z0]
  clear c1 z0 b6 ra rb b0 a6
  refine bJ (λvs h'=>h'=h4/\ ∃p:Nat,(∃g:Nat->V,vs= [g 0,g 1,g 2,g 3,vl,g 5,z,aC i,aC q,aC p,g 10,g 11,g 12,g 13,g 14,g 15,g 16,g 17,g 18,g 19,g 20,g 21,g 22,g 23,g 24,g 25,g 26,g 27,g 28,g 29])/\2<=p/\p<=q/\q%p=0/\p=LY (q- 2) q 2) ?_ ?_
  ·refine aH (λB d h'=> ∃(p:Nat),(∃g:Nat->V,d= [g 0,g 1,g 2,g 3,vl,g 5,z,aC i,aC q,aC p,g 10,g 11,g 12,g 13,g 14,g 15,g 16,g 17,g 18,g 19,g 20,g 21,g 22,g 23,g 24,g 25,g 26,g 27,g 28,g 29])/\2<=p/\p<=q/\LY (q-p) q p=LY (q- 2) q 2/\h4=h'/\B=q-p) (q- 2)
    ⟨2,aB rfl,fM _,q2,rfl,rfl,rfl⟩ ?_
   rintro B d h' ⟨p,⟨g,rfl⟩,p2,pq,lp,rfl,rfl⟩
   have em:Int.tmod (q:Int) (p:Int)=((q%p:Nat):Int):=rfl
   have z0:decide ((p:Int)=0)=false:=bH om
   by_cases hz:q%p=0
   ·have dz:decide (((q%p:Nat):Int)≠0)=false:=bH om
    have e:p=LY (q- 2) q 2:=by
     rw[←lp]
     cases q-p with
     |zero=>rfl
     |succ f=>show p=if q%p=0 then p else _;rw[bF hz]
    simp(disch:=omega)only[go_sem,em,z0,dz]
    exact⟨p,aB rfl,p2,pq,hz,e⟩
   ·have dz:decide (((q%p:Nat):Int)≠0)=true:=bP om
    have pl:p<q:=Nat.lt_of_le_of_ne pq λe=>hz (by rw[e];exact Nat.mod_self q)
    have e:LY (q-(p+1)) q (p+1)=LY (q- 2) q 2:=by
     rw[←lp,show q-p=(q-(p+1))+1 by omega];show _=if q%p=0 then p else _
     rw[bI hz]
    simp(disch:=omega)only[go_sem,em,z0,dz]
    rw[eJ p]
    exact⟨q-(p+1),om,p+1,aB rfl,om,pl,e,rfl⟩
  rintro d h' ⟨rfl,p,⟨g,rfl⟩,p2,pq,hz,ep⟩
  simp(disch:=omega)only[go_sem]
  refine bJ (λvs h5=>Fr h' h5/\ ∃k r:Nat,(∃g:Nat->V,vs= [g 0,g 1,g 2,g 3,vl,g 5,z,aC i,aC q,aC p,aC k,aC r,g 12,g 13,g 14,g 15,g 16,g 17,g 18,g 19,g 20,g 21,g 22,g 23,g 24,g 25,g 26,g 27,g 28,g 29])/\q=p^k*r/\1<=r/\(k,r)=stA q p 0 q) ?_ ?_
  ·refine aH (λB d h5=> ∃(k r f:Nat),(∃g:Nat->V,d= [g 0,g 1,g 2,g 3,vl,g 5,z,aC i,aC q,aC p,aC k,aC r,g 12,g 13,g 14,g 15,g 16,g 17,g 18,g 19,g 20,g 21,g 22,g 23,g 24,g 25,g 26,g 27,g 28,g 29])/\q=p^k*r/\1<=r/\r<=f/\stA f p k r=stA q p 0 q/\k<1000000-r/\Fr h' h5/\r=B) q
    ⟨0,q,q,aB rfl,by simp,om,fM _,rfl,om,Fr.refl _,rfl⟩ ?_
   rintro B d h5 ⟨k,r,f,⟨g,rfl⟩,eq,r1,rf,sf,kb,f5,rfl⟩
   have em:Int.tmod (r:Int) (p:Int)=((r%p:Nat):Int):=rfl
   have z0:decide ((p:Int)=0)=false:=bH om
   have rq:r<=q:=by rw[eq];exact Nat.le_mul_of_pos_left _ (Nat.pow_pos om)
   by_cases hz:r%p=0
   ·have dz:decide (((r%p:Nat):Int)=0)=true:=bP om
    have ed:Int.tdiv (r:Int) (p:Int)=((r/p:Nat):Int):=rfl
    obtain⟨f',rfl⟩: ∃f',f=f'+1:=⟨f- 1,om⟩
    have e:stA f' p (k+1) (r/p)=stA q p 0 q:=by
     rw[←sf];show _=if r%p=0 then _ else _
     rw[bF hz]
    have rd:r/p<r:=Nat.div_lt_self om om
    have rm:p*(r/p)=r:=Nat.mul_div_cancel' (Nat.dvd_of_mod_eq_zero hz)
    have rp:1<=r/p:=Nat.pos_of_ne_zero λe=>by rw[e,Nat.mul_zero] at rm;omega
    have e2:q=p^(k+1)*(r/p):=by rw[Nat.pow_succ,Nat.mul_assoc,rm];exact eq
    simp(disch:=omega)only[go_sem,em,z0,dz,ed]
    rw[eJ k]
    exact⟨r/p,rd,k+1,r/p,f',aB rfl,e2,rp,om,e,om,f5.trans ((Fr.refl _).bA om),rfl⟩
   ·have dz:decide (((r%p:Nat):Int)=0)=false:=bH om
    have e:(k,r)=stA q p 0 q:=by
     rw[←sf]
     cases f with
     |zero=>omega
     |succ f=>show _=if r%p=0 then _ else _;rw[bI hz]
    simp(disch:=omega)only[go_sem,em,z0,dz]
    exact⟨f5,k,r,aB rfl,eq,r1,e⟩
  rintro d h5 ⟨f5,k,r,⟨g,rfl⟩,c9,r1,d9⟩
  have F5:=F4.trans f5
  have b7:=fr.mono ((a0.trans f4).trans f5)
  have e3:iY q=Eg p k q r:=by
   unfold iY;rw[←ep,←d9]
  have J:mU (sz.take (i+1))=mU (sz.take i)++Eg p k q r:=by
   have:=Qr sz (i- 1) om;simp only[show i- 1+2=i+1 by omega,show i- 1+1=i by omega] at this;rw[N i U,N (i- 1) Y,o,e3] at this;exact this
  have a2:2^(mU (sz.take (i+1))).length<=sz.getD (i+1- 1) 0:=by
   rw[J,jZ,Nat.pow_add,Nat.add_sub_cancel,List.getD,dD om,Option.getD_some,N i U];rw[List.getD,dD om,Option.getD_some,N (i- 1) Y] at bd;exact mT (Nat.mul_le_mul bd (SJ p2 q2 c9 r1)) q3
  have i0:b<=h5.next:=by have:=F5.next;omega
  have c7: ∀{m s:Nat},2^m<=s->s<=5040->m<20:=λ{m s} h1 h2=>Jg λh=>by
   have:=Nat.pow_le_pow_right (show 0<2 by omega) (show 20<=m by omega);have e:2^20=1048576:=rfl;omega
  have a1:=c7 a2 (b5 _)
  have a4:(∀x∈Eg p k q r,x.1<1000000)-> ∀x∈mU (sz.take (i+1)),x.1<1000000:=λh x Q=>by
   rw[J] at Q;exact (pH.1 Q).elim (sm x) (h x)
  rw[J,jZ] at a1
  by_cases a5:r=1
  ·have d2:decide ((r:Int)=1)=true:=bP om
   have Z:Eg p k q r=List.replicate k (p,67::vT p):=by unfold Eg;rw[bF a5]
   rw[Z,List.length_replicate] at a1
   have d4:=a4 (by rw[Z];exact λx Q=>by rw[(List.mem_replicate.1 Q).2];show p<_;omega)
   simp(disch:=omega)only[go_sem,d2]
   refine bJ (λvs h'=> ∃t,(∃g:Nat->V,vs= [g 0,g 1,g 2,g 3,vl,g 5,t,aC i,g 8,g 9,g 10,g 11,g 12,g 13,g 14,g 15,g 16,g 17,g 18,g 19,g 20,g 21,g 22,g 23,g 24,g 25,g 26,g 27,g 28,g 29])/\HQ b h' t (mU (sz.take i)++List.replicate k (p,67::vT p))/\Fr h2 h') ?_ ?_
   ·refine aH (λB d h'=> ∃(j:Nat) (t:V),(∃g:Nat->V,d= [g 0,g 1,g 2,g 3,vl,g 5,t,aC i,g 8,aC p,g 10,g 11,g 12,g 13,g 14,g 15,g 16,g 17,g 18,g 19,g 20,g 21,aC k,aC j,g 24,g 25,g 26,g 27,g 28,g 29])/\j<=k/\HQ b h' t (mU (sz.take i)++List.replicate j (p,67::vT p))/\Fr h2 h'/\B=k-j) k
     ⟨0,z,aB rfl,iJ _,by rw[List.replicate_zero,vF];exact b7,F5,rfl⟩ ?_
    rintro B d h6 ⟨j,w6,⟨g,rfl⟩,g9,a3,F6,rfl⟩
    by_cases c5:(j:Int)<(k:Int)
    case neg=>
     have d3:=bH c5;obtain rfl:j=k:=om
     simp(disch:=omega)only[go_sem,d3];exact⟨w6,aB rfl,a3,F6⟩
    have d3:=bP c5
    simp(disch:=omega)only[go_sem,d3]
    refine (WZ p h6 om).mono ?_
    rintro _ h7 ⟨rfl,f7⟩
    have dl:=Yf p
    obtain⟨D,hD⟩:=exI h7.next
    obtain⟨h8,e8,n8,g8,q8,f8⟩:=dF hD (Jj (p,67::vT p))
    have n7:=F6.next
    have g3:=f7.next
    obtain⟨t,h9,a9,a7,n9,o9⟩:=EN (x:=(p,67::vT p)) ((a3.mono f7).mono f8) om (by rw[jZ,List.length_replicate];omega) om g8
    have d7:ZX h7 (.str [67]) (.str (vT p))=some (.str (67::vT p),h7):=SZ h7 (a:= [67]) (b:=vT p) (by show 1+_<_;omega)
    simp(disch:=omega)only[go_sem,GF,d7,DM,NS,hD,e8,a9]
    rw[eJ j]
    exact⟨k-(j+1),om,j+1,t,aB rfl,om,by rw[List.replicate_succ',←Ll];exact a7,⟨om,λq' b1=>by rw[o9 q' om,q8 q' om,f7.get q' om];exact F6.get q' b1⟩,rfl⟩
   rintro d h6 ⟨w6,⟨g,rfl⟩,a3,F6⟩
   simp(disch:=omega)only[go_sem]
   rw[eJ i]
   exact⟨rs.length-(i+1),om,i+1,w6,aB rfl,om,om,by rw[J,Z];exact a3,a2,d4,F6,rfl⟩
  have d2:decide ((r:Int)=1)=false:=bH om
  simp(disch:=omega)only[go_sem,d2]
  refine (RA h5).mono ?_
  rintro vt h6 ⟨c2,f6⟩
  simp(disch:=omega)only[go_sem]
  refine (TF vt Eh q h6 (by decide) om KU acO c2).mono ?_
  rintro _ h7 ⟨kk,bb,rfl,e9,f9,f7⟩
  have F7:=F5.trans (f6.trans f7)
  have c3:=b7.mono (f6.trans f7)
  cases bb with
  |false=>
   have Z:Eg p k q r= []:=by
    unfold Eg;rw[bI a5,List.find?_eq_none.2 λx Q=>by simpa using f9 rfl x Q]
   simp(disch:=omega)only[go_sem];rw[eJ i];exact⟨rs.length-(i+1),om,i+1,z,aB rfl,om,om,by rw[J,Z,vF];exact c3,a2,a4 (by rw[Z];exact λx Q=>by cases Q),F7,rfl⟩
  |true=>
   obtain⟨hk,ek⟩:=e9 rfl
   have Z:Eg p k q r= [(q,Eh[kk].2)]:=by
    have:=SC kk hk;rw[ek] at this;unfold Eg;rw[bI a5,this]
   obtain⟨it,ot,e0,_,ct⟩:=(c2.mono f7).shape Eh.length (Hl _) om;have ck:=(ct (kk*2+1) (by rw[Hl];omega)).trans (NZ hk);rw[←Nat.add_assoc] at ck;obtain⟨D,hD⟩:=exI h7.next;obtain⟨h8,e8,n8,g8,q8,f8⟩:=dF hD (Jj (q,Eh[kk].2));have n7:=F7.next;obtain⟨t,h9,a9,a7,n9,o9⟩:=EN (x:=(q,Eh[kk].2)) (c3.mono f8) om om om g8;simp(disch:=omega)only[go_sem,e0.ixa,ck,DM,NS,hD,e8,a9];rw[eJ i];exact⟨rs.length-(i+1),om,i+1,t,aB rfl,om,om,by rw[J,Z];exact a7,a2,a4 (by rw[Z];exact λx Q=>by rw[List.mem_singleton.1 Q];show q<_;omega),⟨om,λq' b1=>by rw[o9 q' om,q8 q' om];exact F7.get q' b1⟩,rfl⟩
 rintro d P ⟨z,⟨g,rfl⟩,fr,bd,sm,F⟩
 have nF:=F.next
 have a1:(mU sz).length<20:=Jg λh=>by
  have:=Nat.pow_le_pow_right (show 0<2 by omega) (show 20<=(mU sz).length by omega);have e:2^20=1048576:=rfl;omega
 simp(disch:=omega)only[go_sem]
 refine (fr.sort om a1 sm).mono ?_
 rintro w3 h3 ⟨c4,n3,o3⟩
 have F3:Fr h2 h3:=⟨om,λq o=>by rw[o3 q om,F.get q o]⟩
 obtain⟨y,c0⟩:=exI (Lr (mU sz))
 have e4:=Uu (mU sz)
 rw[c0] at c4 e4
 have en:akA rs=y.map Prod.snd:=by unfold akA;rw[b2,c0]
 have b4:SV h3 z 2 (Cr y):=c4.own.sv
 have c8:=Yx b4
 simp(disch:=omega)only[go_sem,c8]
 refine aH (λB d h'=> ∃(j:Nat) (w:V),(∃g:Nat->V,d= [g 0,g 1,g 2,g 3,g 4,g 5,g 6,g 7,g 8,g 9,g 10,g 11,g 12,g 13,g 14,w,g 16,g 17,g 18,g 19,g 20,g 21,g 22,g 23,g 24,g 25,z,aC (y.length:Int),aC j,g 29])/\j<=y.length/\cY h' w 1 ((y.take j).map λx=>V.str x.2) h3.next/\Fr h3 h'/\B=y.length-j) y.length
  ⟨0,.aE,aB rfl,iJ _,cY.aE _ _ _,Fr.refl _,rfl⟩ ?_
 rintro B d h4 ⟨j,w,⟨g,rfl⟩,hj,ow,F4,rfl⟩
 by_cases W:(j:Int)<(y.length:Int)
 case neg=>
  have d1:=bH W;obtain rfl:j=y.length:=om
  rw[List.take_length] at ow;simp(disch:=omega)only[go_sem,d1];refine⟨w,L,K,rs,rfl,eL,ik,cl,by rw[en,List.map_map];exact ow.sv,by rw[en,jV];omega,f1.trans (f2.trans (F3.trans F4))⟩
 have d1:=bP W
 have c6:j<y.length:=om
 obtain⟨ij,oj,d6,rj,_⟩:=Ul (b4.mono F4) c6
 obtain⟨C,hC⟩:=exI h4.next
 obtain⟨h5,e5,n5,g5,q5,f5⟩:=dF hC [aC 0,.str []]
 obtain⟨h6,e6,n6,g6,q6⟩:=pJ h5 C (Jj y[j])
 obtain⟨h7,e7,n7,g7,q7,f7⟩:=dF (h:=h6) (n6.trans n5) [.str y[j].2]
 have b3:Fr h4 h7:=⟨om,λq o=>by rw[q7 q om,q6 q om,q5 q om]⟩
 have n4:=F4.next
 have lt:((y.take j).map λx=>V.str x.2).length=j:=by rw[jV,Fj,Nat.min_eq_left hj]
 obtain⟨h8,a8,p8⟩:=((ow.fr b3).le (iJ _)).push (bytes:=16) (SV.one om g7 (.kn 1)) (n:=j) (m:=1) om rfl om om om
 have n8:=p8.next
 have d0: ∀(o:H) (id:Nat),dX (aZ [aC 0,.str []]) o id 0 (Jj y[j])=some (o.set id (aZ (Jj y[j]))):=λo id=>by simp [dX,putAt]
 have d5: ∀(o:H) (s:List Nat),lQ o 1 [.str []] 1 [(0,1,.str s)]=some (.sl o.next 0 1 (.kn 1),o.new (.cells false [.str s])):=λo s=>cT o rfl rfl
 simp(disch:=omega)only[go_sem,d1,d6.ixa,rj,hC,e5,Gv _ C 0 (a:= aC (y[j].1:Int)) (b:= .str y[j].2) rfl rfl,g5,d0,e6,H.aF g6,d5,n6,n5,e7,a8]
 rw[eJ j]
 refine⟨y.length-(j+1),om,j+1,_,aB rfl,om,?_,⟨om,λq o=>?_⟩,rfl⟩
 ·rw[List.take_succ_eq_append_getElem c6,List.map_append]
  exact p8.own om rfl om
 ·rw[p8.old q om λid g4 m c e e2=>by have:=(ow.in _ _ _ _ e).2.1;omega,b3.get q om]
  exact F4.get q o
end
set_option maxRecDepth 100000
set_option maxRecDepth 100000
set_option maxRecDepth 100000
set_option maxHeartbeats 8000000
theorem acR {W W':Nat->Prop}(k j:V)(n:Nat)(c d:nE)(G G':List Nat->Prop)(h:H)(l:GC W h k n c.1 c.2 G)(m:GC W' h j n d.1 d.2 G'):
  Ev T 31 [k,j] h (λv h'=>v= .bool (decide (c=d))/\Fr h h'):=by
 refine (Ve k j n n _ _ _ _ h l.ch m.ch l.small.1 m.small.1 l.small.2 m.small.2).mono ?_
 rintro _ o ⟨rfl,f⟩
 have inj: ∀{a b:LN},a.map zi=b.map zi->a=b:=λh=>map_inj (λ_ _=>Vl) h
 have i: ∀{a b:jI},a.map (List.map zi)=b.map (List.map zi)->a=b:=λh=>map_inj (λ_ _=>inj) h
 exact⟨congrArg V.bool (decide_eq_decide.2 ⟨λ⟨_,a,b⟩=>Prod.ext (inj a) (i b),λe=>by rw[e];exact⟨rfl,rfl,rfl⟩⟩),f⟩
set_option maxRecDepth 100000
set_option maxHeartbeats 16000000
set_option maxRecDepth 100000
structure Sml (d:Int)(O:List (List Int))(R:List (List (List Int))):Prop where
 deg:d<=6∨64<d
 lo:O.length<=12
 lr:R.length<=12
 ro: ∀i,i<O.length->(O.getD i []).length<=12
 rr: ∀i,i<R.length->(R.getD i []).length<=12/\ ∀k,k<(R.getD i []).length->((R.getD i []).getD k []).length<=12
theorem Sml.small {d:Int}{O:List (List Int)}{R:List (List (List Int))}(s:Sml d O R):zV O/\Mf R:=
 ⟨⟨by have:=s.lo;omega,λi hi=>by have:=s.ro i hi;omega⟩,⟨by have:=s.lr;omega,λi hi=>by have:=(s.rr i hi).1;omega⟩⟩
set_option maxRecDepth 100000
theorem afP (h:H)(x y z w u:Int):lQ h 1 [aC 0] 5 [(0,1,aC x),(1,1,aC y),(2,1,aC z),(3,1,aC w),(4,1,aC u)]=some (.sl h.next 0 5 (.kn 5),h.new (.cells false (ints [x,y,z,w,u]))):=by
 have e:cX [aC 0] 5= [aC 0,aC 0,aC 0,aC 0,aC 0]:=rfl;simp [lQ,iS,e,putAt,V.cells,V.one,ints]
abbrev DD:LN:= [[1,2,3,0], [1,0,2,3]]
theorem Wz: ∀g∈DD,bE 4 g:=by
 intro g a;simp only[DD,zH,List.not_mem_nil,or_false] at a;rcases a with rfl|rfl<;>exact⟨rfl,by decide,by decide⟩
abbrev Ij:LN:= [[1,0,3,2], [2,3,0,1]]
theorem Su: ∀g∈Ij,bE 4 g:=by
 intro g a;simp only[Ij,zH,List.not_mem_nil,or_false] at a;rcases a with rfl|rfl<;>exact⟨rfl,by decide,by decide⟩
abbrev D4g:LN:= [[1,2,3,0], [2,1,0,3]]
theorem TC: ∀g∈D4g,bE 4 g:=by
 intro g a;simp only[D4g,zH,List.not_mem_nil,or_false] at a;rcases a with rfl|rfl<;>exact⟨rfl,by decide,by decide⟩
abbrev HH:LN:= [[1,2,0,3,4], [1,2,3,4,0]]
theorem HN: ∀g∈HH,bE 5 g:=by
 intro g a;simp only[HH,zH,List.not_mem_nil,or_false] at a;rcases a with rfl|rfl<;>exact⟨rfl,by decide,by decide⟩
theorem Ke (h:H):Ev T 28 [] h (λv h'=> ∃c0 c1 c2 c3 O0 R0 O1 R1 O2 R2 O3 R3,v= .tup [c0,c1,c2,c3]/\GC (λid=>id<h.next) h' c0 4 O0 R0 (bX 4 (· ∈DD))/\GC (λid=>id<h.next) h' c1 4 O1 R1 (bX 4 (· ∈Ij))/\GC (λid=>id<h.next) h' c2 4 O2 R2 (bX 4 (· ∈D4g))/\GC (λid=>id<h.next) h' c3 5 O3 R3 (bX 5 (· ∈HH))/\Fr h h'):=by
 refine cV Bv rfl ?_;obtain⟨B,hB⟩:=exI h.next;obtain⟨c,e1,n1,g1,o1,f1⟩:=dF hB [aC 0,.aE,.aE];obtain⟨x,e2,n2,g2,o2,f2⟩:=dF n1 [aC 0,.aE,.aE];obtain⟨h3,e3,n3,g3,o3,f3⟩:=dF n2 [aC 0,.aE,.aE];obtain⟨h4,e4,n4,g4,o4,f4⟩:=dF n3 [aC 0,.aE,.aE];have j5:=((f1.trans f2).trans f3).trans f4;have i6:h4.get B=aZ [aC 0,.aE,.aE]:=by rw[o4 _ om,o3 _ om,o2 _ om];exact g1
 have o5:h4.get (B+1)=aZ [aC 0,.aE,.aE]:=by rw[o4 _ om,o3 _ om];exact g2
 have q5:h4.get (B+1+1)=aZ [aC 0,.aE,.aE]:=by rw[o4 _ om];exact g3
 have m9:h4.get (B+1+1+1)=aZ [aC 0,.aE,.aE]:=by exact g4
 obtain⟨Q0,h0⟩: ∃Q,h4.next=Q:=⟨_,rfl⟩
 obtain⟨i0,k2,d3,s5,k3⟩:=mkI h0 [1,2,3,0];obtain⟨j0,n5,e6,r6,c6⟩:=mkI d3 [1,0,2,3];obtain⟨x0,o6,t6,o7,s9,f8⟩:=dF e6 [.sl Q0 0 4 (.kn 4),.sl (Q0+1) 0 4 (.kn 4)];have r5:Fr h4 x0:=(k3.trans c6).trans f8;have KI:SP x0 (.sl (Q0+1+1) 0 2 (.kn 2)) DD:=SP.two (a:= [1,2,3,0]) (b:= [1,0,2,3]) (h:=j0) (s5.mono c6) r6 om f8 o7 _;simp(disch:=omega)only[go_sem,Bv,aD,hB,e1,n1,e2,n2,e3,n3,e4,h0,Ec,k2,d3,n5,e6,Tm _ (mW ..) (mW ..),o6];refine (afJ _ 4 DD x0 om om (by decide) KI Wz).mono ?_;rintro _ m0 ⟨c0,O0,R0,rfl,d7,e0⟩;have k9:=d7.sl;obtain⟨i,l,rfl,a0,b0,j4,m7⟩:=k9;have m:Fr h4 m0:=r5.trans e0;have t7:=m.next;have u9:=e0.next;have r3:m0.get B=aZ [aC 0,.aE,.aE]:=by rw[m.get _ om];exact i6
 obtain⟨U,m5,u6,n8,r⟩:=pJ m0 B [aC (4:Nat),i,l];have n9:=bW m0 B 0 (v:= aC (4:Nat)) (u:=i) (w:=l) rfl a0 b0;have l2:U.get B=aZ [aC (4:Nat),i,l]:=n8;have p8:U.get (B+1)=aZ [aC 0,.aE,.aE]:=by rw[r _ om,m.get _ om];exact o5
 have k6:U.get (B+1+1)=aZ [aC 0,.aE,.aE]:=by rw[r _ om,m.get _ om];exact q5
 have r0:U.get (B+1+1+1)=aZ [aC 0,.aE,.aE]:=by rw[r _ om,m.get _ om];exact m9
 have G0:GC (λid=>id<B+4) U _ 4 O0 R0 _:=d7.go (⟨om,λid c x=>r id om⟩:Fx (λid=>id<x0.next) m0 U) (λid c x=>om)
 have X0:Fx (λid=>id<B+4) h4 U:=⟨om,λid c x=>by rw[r id om,m.get id c]⟩
 obtain⟨Q1,c4⟩: ∃Q,U.next=Q:=⟨_,rfl⟩
 obtain⟨i1,j7,d6,i4,s8⟩:=mkI c4 [1,0,3,2];obtain⟨j1,s6,f9,i5,d9⟩:=mkI d6 [2,3,0,1];obtain⟨x1,q7,v3,l4,t8,f5⟩:=dF f9 [.sl Q1 0 4 (.kn 4),.sl (Q1+1) 0 4 (.kn 4)];have k7:Fr U x1:=(s8.trans d9).trans f5;have k0:SP x1 (.sl (Q1+1+1) 0 2 (.kn 2)) Ij:=SP.two (a:= [1,0,3,2]) (b:= [2,3,0,1]) (h:=j1) (i4.mono d9) i5 om f5 l4 _;simp(disch:=omega)only[go_sem,n9,r3,cF,m5,c4,Ec,j7,d6,s6,f9,Tm _ (mW ..) (mW ..),q7];refine (afJ _ 4 Ij x1 om om (by decide) k0 Su).mono ?_;rintro _ m1 ⟨c1,O1,R1,rfl,g0,f6⟩;have h9:=g0.sl;obtain⟨p,o,rfl,a1,b1,s0,l1⟩:=h9;have k:Fr U m1:=k7.trans f6;have t9:=k.next;have u4:=f6.next;have r2:m1.get (B+1)=aZ [aC 0,.aE,.aE]:=by rw[k.get _ om];exact p8
 obtain⟨L,p6,v1,s7,A⟩:=pJ m1 (B+1) [aC (4:Nat),p,o];have st1:=bW m1 (B+1) 0 (v:= aC (4:Nat)) (u:=p) (w:=o) rfl a1 b1;have k5:L.get B=aZ [aC (4:Nat),i,l]:=by rw[A _ om,k.get _ om];exact l2
 have i8:L.get (B+1)=aZ [aC (4:Nat),p,o]:=s7;have n6:L.get (B+1+1)=aZ [aC 0,.aE,.aE]:=by rw[A _ om,k.get _ om];exact k6
 have s1:L.get (B+1+1+1)=aZ [aC 0,.aE,.aE]:=by rw[A _ om,k.get _ om];exact r0
 have G1:GC (λid=>id<B+4) L _ 4 O1 R1 _:=g0.go (⟨om,λid c x=>A id om⟩:Fx (λid=>id<x1.next) m1 L) (λid c x=>om)
 have X1:Fx (λid=>id<B+4) U L:=⟨om,λid c x=>by rw[A id om,k.get id c]⟩
 obtain⟨Q2,g5⟩: ∃Q,L.next=Q:=⟨_,rfl⟩
 obtain⟨i2,k1,e7,m8,q4⟩:=mkI g5 [1,2,3,0];obtain⟨j2,i7,h8,q6,c9⟩:=mkI e7 [2,1,0,3];obtain⟨x2,l5,t4,p4,v0,g6⟩:=dF h8 [.sl Q2 0 4 (.kn 4),.sl (Q2+1) 0 4 (.kn 4)];have l9:Fr L x2:=(q4.trans c9).trans g6;have r8:SP x2 (.sl (Q2+1+1) 0 2 (.kn 2)) D4g:=SP.two (a:= [1,2,3,0]) (b:= [2,1,0,3]) (h:=j2) (m8.mono c9) q6 om g6 p4 _;simp(disch:=omega)only[go_sem,st1,r2,cF,p6,g5,Ec,k1,e7,i7,h8,Tm _ (mW ..) (mW ..),l5];refine (afJ _ 4 D4g x2 om om (by decide) r8 TC).mono ?_;rintro _ m2 ⟨c2,O2,R2,rfl,d5,f0⟩;have uA:=d5.sl;obtain⟨s,q,rfl,a2,b2,q9,o0⟩:=uA;have j:Fr L m2:=l9.trans f0;have v5:=j.next;have v8:=f0.next;have j9:m2.get (B+1+1)=aZ [aC 0,.aE,.aE]:=by rw[j.get _ om];exact n6
 obtain⟨W,p7,t5,p9,z⟩:=pJ m2 (B+1+1) [aC (4:Nat),s,q];have s2:=bW m2 (B+1+1) 0 (v:= aC (4:Nat)) (u:=s) (w:=q) rfl a2 b2;have k8:W.get B=aZ [aC (4:Nat),i,l]:=by rw[z _ om,j.get _ om];exact k5
 have l6:W.get (B+1)=aZ [aC (4:Nat),p,o]:=by rw[z _ om,j.get _ om];exact i8
 have l3:W.get (B+1+1)=aZ [aC (4:Nat),s,q]:=p9;have p0:W.get (B+1+1+1)=aZ [aC 0,.aE,.aE]:=by rw[z _ om,j.get _ om];exact s1
 have G2:GC (λid=>id<B+4) W _ 4 O2 R2 _:=d5.go (⟨om,λid c x=>z id om⟩:Fx (λid=>id<x2.next) m2 W) (λid c x=>om)
 have X2:Fx (λid=>id<B+4) L W:=⟨om,λid c x=>by rw[z id om,j.get id c]⟩
 obtain⟨Q3,d8⟩: ∃Q,W.next=Q:=⟨_,rfl⟩
 obtain⟨i3,m6,d4,r9,k4⟩:=mkI d8 [1,2,0,3,4];obtain⟨j3,r1,h7,p2,d2⟩:=mkI d4 [1,2,3,4,0];obtain⟨x3,s4,u7,i9,v4,c7⟩:=dF h7 [.sl Q3 0 5 (.kn 5),.sl (Q3+1) 0 5 (.kn 5)];have l7:Fr W x3:=(k4.trans d2).trans c7;have j6:SP x3 (.sl (Q3+1+1) 0 2 (.kn 2)) HH:=SP.two (a:= [1,2,0,3,4]) (b:= [1,2,3,4,0]) (h:=j3) (r9.mono d2) p2 om c7 i9 _;simp(disch:=omega)only[go_sem,s2,j9,cF,p7,d8,afP,m6,d4,r1,h7,Tm _ (mW ..) (mW ..),s4];refine (afJ _ 5 HH x3 om om (by decide) j6 HN).mono ?_;rintro _ m3 ⟨c3,O3,R3,rfl,f7,c8⟩;have l8:=f7.sl;obtain⟨J,F,rfl,a3,b3,m4,n7⟩:=l8;have d:Fr W m3:=l7.trans c8;have v9:=d.next;have u8:=c8.next;have r4:m3.get (B+1+1+1)=aZ [aC 0,.aE,.aE]:=by rw[d.get _ om];exact p0
 obtain⟨f,p5,v7,p1,t⟩:=pJ m3 (B+1+1+1) [aC (5:Nat),J,F];have st3:=bW m3 (B+1+1+1) 0 (v:= aC (5:Nat)) (u:=J) (w:=F) rfl a3 b3;have d0:f.get B=aZ [aC (4:Nat),i,l]:=by rw[t _ om,d.get _ om];exact k8
 have g7:f.get (B+1)=aZ [aC (4:Nat),p,o]:=by rw[t _ om,d.get _ om];exact l6
 have g9:f.get (B+1+1)=aZ [aC (4:Nat),s,q]:=by rw[t _ om,d.get _ om];exact l3
 have d1:f.get (B+1+1+1)=aZ [aC (5:Nat),J,F]:=p1;have G3:GC (λid=>id<B+4) f _ 5 O3 R3 _:=f7.go (⟨om,λid c x=>t id om⟩:Fx (λid=>id<x3.next) m3 f) (λid c x=>om)
 have X3:Fx (λid=>id<B+4) W f:=⟨om,λid c x=>by rw[t id om,d.get id c]⟩
 obtain⟨Q4,v2⟩: ∃Q,f.next=Q:=⟨_,rfl⟩
 obtain⟨y,ey,ny⟩: ∃y:H,H.mk f.tr (f.next+8)=y/\y.next=f.next+8:=⟨_,rfl,rfl⟩
 have fy:Fr f y:=by rw[←ey];exact (Fr.refl f).bA om
 have g8:y.get B=aZ [aC (4:Nat),i,l]:=by rw[fy.get _ om];exact d0
 have e9:y.get (B+1)=aZ [aC (4:Nat),p,o]:=by rw[fy.get _ om];exact g7
 have c5:y.get (B+1+1)=aZ [aC (4:Nat),s,q]:=by rw[fy.get _ om];exact g9
 have e5:y.get (B+1+1+1)=aZ [aC (5:Nat),J,F]:=by rw[fy.get _ om];exact d1
 obtain⟨y0,p3,w4,q8,N⟩:=pJ y B [aC (4:Nat),i,l];have b4:y0.get B=aZ [aC (4:Nat),i,l]:=q8;have b6:y0.get (B+1)=aZ [aC (4:Nat),p,o]:=by rw[N _ om];exact e9
 have a6:y0.get (B+1+1)=aZ [aC (4:Nat),s,q]:=by rw[N _ om];exact c5
 have a4:y0.get (B+1+1+1)=aZ [aC (5:Nat),J,F]:=by rw[N _ om];exact e5
 have t0:=bW y B 0 (v:= aC (4:Nat)) (u:=i) (w:=l) rfl a0 b0;obtain⟨y1,l0,u5,n0,Y⟩:=pJ y0 (B+1) [aC (4:Nat),p,o];have b8:y1.get B=aZ [aC (4:Nat),i,l]:=by rw[Y _ om];exact b4
 have Z:y1.get (B+1)=aZ [aC (4:Nat),p,o]:=n0;have b5:y1.get (B+1+1)=aZ [aC (4:Nat),s,q]:=by rw[Y _ om];exact a6
 have a9:y1.get (B+1+1+1)=aZ [aC (5:Nat),J,F]:=by rw[Y _ om];exact a4
 have t1:=bW y0 (B+1) 0 (v:= aC (4:Nat)) (u:=p) (w:=o) rfl a1 b1;obtain⟨y2,s3,w5,j8,P⟩:=pJ y1 (B+1+1) [aC (4:Nat),s,q];have a5:y2.get B=aZ [aC (4:Nat),i,l]:=by rw[P _ om];exact b8
 have a8:y2.get (B+1)=aZ [aC (4:Nat),p,o]:=by rw[P _ om];exact Z
 have b7:y2.get (B+1+1)=aZ [aC (4:Nat),s,q]:=j8;have a7:y2.get (B+1+1+1)=aZ [aC (5:Nat),J,F]:=by rw[P _ om];exact a9
 have t2:=bW y1 (B+1+1) 0 (v:= aC (4:Nat)) (u:=s) (w:=q) rfl a2 b2;obtain⟨y3,o9,v6,r7,K⟩:=pJ y2 (B+1+1+1) [aC (5:Nat),J,F];have b9:y3.get B=aZ [aC (4:Nat),i,l]:=by rw[K _ om];exact a5
 have h5:y3.get (B+1)=aZ [aC (4:Nat),p,o]:=by rw[K _ om];exact a8
 have e8:y3.get (B+1+1)=aZ [aC (4:Nat),s,q]:=by rw[K _ om];exact b7
 have h6:y3.get (B+1+1+1)=aZ [aC (5:Nat),J,F]:=r7;have t3:=bW y2 (B+1+1+1) 0 (v:= aC (5:Nat)) (u:=J) (w:=F) rfl a3 b3;have q0:dE (.agg [aC (4:Nat),i,l]) (.agg [aC (4:Nat),i,l])=true:=by simp [dE,aoW,j4,m7]
 have q1:dE (.agg [aC (4:Nat),p,o]) (.agg [aC (4:Nat),p,o])=true:=by simp [dE,aoW,s0,l1]
 have q2:dE (.agg [aC (4:Nat),s,q]) (.agg [aC (4:Nat),s,q])=true:=by simp [dE,aoW,q9,o0]
 have q3:dE (.agg [aC (5:Nat),J,F]) (.agg [aC (5:Nat),J,F])=true:=by simp [dE,aoW,m4,n7]
 simp(disch:=omega)only[go_sem,st3,r4,cF,p5,aI d0,aI g7,aI g9,aI d1];rw[ey];simp(disch:=omega)only[go_sem,t0,g8,p3,t1,b6,l0,t2,b5,s3,t3,a7,o9,cF,aI g8,aI e9,aI c5,aI e5,aI b4,aI b6,aI a6,aI a4,aI b8,aI Z,aI b5,aI a9,aI a5,aI a8,aI b7,aI a7,aI b9,aI h5,aI e8,aI h6,q0,q1,q2,q3]
 have Xe:Fx (λid=>id<B+4) f y3:=⟨om,λid c x=>by rw[K id om,P id om,Y id om,N id om,fy.get id om]⟩
 have low: ∀{v n O R G},GC (λid=>id<B+4) f v n O R G->GC (λid=>id<B) y3 v n O R G:=λg=>g.go Xe (λid _ o8=>om)
 refine⟨_,_,_,_,O0,R0,O1,R1,O2,R2,O3,R3,rfl,low (((G0.go X1 λ_ _ h=>h).go X2 λ_ _ h=>h).go X3 λ_ _ h=>h),low ((G1.go X2 λ_ _ h=>h).go X3 λ_ _ h=>h),low (G2.go X3 λ_ _ h=>h),low G3,⟨om,λid o8=>?_⟩⟩;rw[K id om,P id om,Y id om,N id om,fy.get id om,t id om,d.get id om,z id om,j.get id om,A id om,k.get id om,r id om,m.get id om];exact j5.get id om
section
variable {n:Nat} {w:Bool} {c d:nE} {l:List nE} {Gc Gd:List Nat->Prop} {A C D:LN} {ws:List (List (Nat×Nat))}
theorem To {G K:List Nat->Prop}(E:dW G A)(F:dW K A)(x:List Nat):G x↔K x:=(E.mem x).symm.trans (F.mem x)
structure Mem (n:Nat)(d:nE)(Gd:List Nat->Prop)(A:LN):Prop where
 dN:iX n Gd
 isc:bC n Gd d.1 d.2
 el:dW Gd A
theorem Mem.sz (m:Mem n d Gd A):kI d.1 n 0=A.length:=by
 obtain⟨E,e⟩:=dM m.dN m.isc;rw[←e,E.uniq m.el]
theorem Mem.nx (a:Mem n c Gc C)(m:Mem n d Gd A)(h:Cq n A (if w then C else A) D ws=true):iX n (Kf n w c d)/\dW (Kf n w c d) D:=by
 unfold Kf
 cases w with
 |false=>exact⟨Ad.dN m.dN m.dN m.isc m.isc,Cq.Xz m.dN m.dN m.isc m.isc m.el m.el h⟩
 |true=>exact⟨Ad.dN m.dN a.dN m.isc a.isc,Cq.Xz m.dN a.dN m.isc a.isc m.el a.el h⟩
theorem vZ (s:uC n w c l)(p:Mem n c Gc C){k:Nat}(b:l[k]? =some d)(m:Mem n d Gd A)(h:Cq n A (if w then C else A) D ws=true)(a:D≠A): ∃e,l[k+1]? =some e/\Mem n e (Kf n w c d) D:=by
 obtain⟨g,E⟩:=p.nx m h;have t:k<l.length:=(Ax.1 b).1
 by_cases j:k+1<l.length
 ·have i:=dD j
  exact⟨_,i,g,(s.st k _ _ b i).1,E⟩
 ·have f:k=l.length- 1:=om
  have r:=s.en d (by rw[←f];exact b);obtain⟨q,_⟩:=dM m.dN m.isc;obtain⟨o,_⟩:=dM g r;exact absurd ((E.uniq o).trans (q.uniq m.el)) a
theorem Ua (s:uC n w c l)(j:Mem n c Gc C){k:Nat}(f:l[k]? =some d)(m:Mem n d Gd A)(h:Cq n A (if w then C else A) A ws=true):l.length=k+1:=by
 obtain⟨g,E⟩:=j.nx m h;have r:k<l.length:=(Ax.1 f).1
 by_cases q:k+1<l.length
 ·have o:=dD q
  obtain⟨i,p⟩:=s.st k _ _ f o;obtain⟨a,b⟩:=(i.congr (To E m.el)).uniq m.isc;exact absurd (Prod.ext a b) p
 ·omega
end
abbrev DH:LN:= [[0,1,2,3], [0,1,3,2], [0,2,1,3], [0,2,3,1], [0,3,1,2], [0,3,2,1], [1,0,2,3], [1,0,3,2], [1,2,0,3], [1,2,3,0], [1,3,0,2], [1,3,2,0], [2,0,1,3], [2,0,3,1], [2,1,0,3], [2,1,3,0], [2,3,0,1], [2,3,1,0], [3,0,1,2], [3,0,2,1], [3,1,0,2], [3,1,2,0], [3,2,0,1], [3,2,1,0]]
theorem Am:dW (bX 4 (· ∈DD)) DH:=Ze.Xz (ws:= [[], [0,0,1,0,0], [0,0,0,1,0], [0,1], [0,1,0,1], [1,0,0,1,0], [1], [0,0,1,0,0,1], [0,0,0,1,0,1], [0], [0,1,0], [0,0,0,1,0,0], [0,1,0,0], [1,0,1], [0,1,0,0,1], [1,0], [0,0], [0,0,1], [0,0,0], [0,0,1,0], [0,0,0,1], [0,0,1,0,1], [1,0,0], [1,0,0,1]]) (by decide+kernel)
abbrev MQ:LN:= [[0,1,2,3], [0,2,3,1], [0,3,1,2], [1,0,3,2], [1,2,0,3], [1,3,2,0], [2,0,1,3], [2,1,3,0], [2,3,0,1], [3,0,2,1], [3,1,0,2], [3,2,1,0]]
abbrev qB:LN:= [[0,1,2,3], [1,0,3,2], [2,3,0,1], [3,2,1,0]]
abbrev aaK:LN:= [[0,1,2,3]]
theorem agW:Cq 4 DH (if false then DH else DH) MQ [[], [(1,4)], [(1,2)], [(1,16)], [(2,12)], [(3,18)], [(2,6)], [(1,10)], [(3,19)], [(4,6)], [(1,8)], [(2,7)]]=true:=by decide+kernel
theorem ahO:Cq 4 MQ (if false then DH else MQ) qB [[], [(1,6)], [(1,9)], [(1,3)]]=true:=by decide+kernel
theorem ahZ:Cq 4 qB (if false then DH else qB) aaK [[]]=true:=by decide+kernel
theorem ahV:Cq 4 aaK (if false then DH else aaK) aaK [[]]=true:=by decide+kernel
theorem Zi {c:nE}{l:List nE}(p:bC 4 (bX 4 (· ∈DD)) c.1 c.2)(s:uC 4 false c l):l.map (λe=>kI e.1 4 0)= [24,12,4,1]:=by
 have a:Mem 4 c _ DH:=⟨bX.dN Wz,p,Am⟩
 have f:=s.hd;obtain⟨r,b,o⟩:=vZ s a f a agW (by decide);obtain⟨q,k,m⟩:=vZ s a b o ahO (by decide);obtain⟨u,h,j⟩:=vZ s a k m ahZ (by decide);have t:=Ua s a h j ahV;refine List.ext_getElem? λi=>?_
 rw[Ol]
 match i with
 |0=>rw[f];exact congrArg some a.sz
 |1=>rw[b];exact congrArg some o.sz
 |2=>rw[k];exact congrArg some m.sz
 |3=>rw[h];exact congrArg some j.sz
 |i+4=>rw[List.getElem?_eq_none om];rfl
abbrev ZQ:LN:= [[0,1,2,3], [0,3,2,1], [1,0,3,2], [1,2,3,0], [2,1,0,3], [2,3,0,1], [3,0,1,2], [3,2,1,0]]
theorem BT:dW (bX 4 (· ∈D4g)) ZQ:=Ze.Xz (ws:= [[], [0,0,1], [0,1], [0], [1], [0,0], [0,0,0], [1,0]]) (by decide+kernel)
abbrev aeU:LN:= [[0,1,2,3], [2,3,0,1]]
abbrev XG:LN:= [[0,1,2,3]]
theorem aiI:Cq 4 ZQ (if true then ZQ else ZQ) aeU [[], [(1,2)]]=true:=by decide+kernel
theorem ahY:Cq 4 aeU (if true then ZQ else aeU) XG [[]]=true:=by decide+kernel
theorem aiJ:Cq 4 XG (if true then ZQ else XG) XG [[]]=true:=by decide+kernel
theorem Xs {c:nE}{l:List nE}(m:bC 4 (bX 4 (· ∈D4g)) c.1 c.2)(s:uC 4 true c l):l.map (λe=>kI e.1 4 0)= [8,2,1]:=by
 have a:Mem 4 c _ ZQ:=⟨bX.dN TC,m,BT⟩
 have f:=s.hd;obtain⟨p,b,k⟩:=vZ s a f a aiI (by decide);obtain⟨o,h,j⟩:=vZ s a b k ahY (by decide);have q:=Ua s a h j aiJ;refine List.ext_getElem? λi=>?_
 rw[Ol]
 match i with
 |0=>rw[f];exact congrArg some a.sz
 |1=>rw[b];exact congrArg some k.sz
 |2=>rw[h];exact congrArg some j.sz
 |i+3=>rw[List.getElem?_eq_none om];rfl
section
variable {Rp Cg:List Nat}
def agR (s:List Nat)(gs a:LN):LN:=gs.foldl (λa g=>if a.contains (aX s g) then a else a++ [aX s g]) a
def Yy (gs:LN):Nat->Nat->LN->LN
 |0,_,S=>S
 |f+1,i,S=>match S[i]? with
  |none=>S
  |some s=>Yy gs f (i+1) (agR s gs S)
theorem Ma {P:List Nat->Prop}{d:LN}(j: ∀x,P x-> ∀g∈d,P (aX x g)): ∀(f i:Nat) (S:LN),(∀x∈S,P x)-> ∀x∈Yy d f i S,P x
 |0,_,_,h=>h
 |f+1,i,S,h=>by
  unfold Yy;split
  ·exact h
  ·rename_i s m
   refine Ma j f _ _ ?_
   have n: ∀(l:LN),(∀g∈l,g∈d)-> ∀a:LN,(∀x∈a,P x)-> ∀x∈agR s l a,P x:=by
    intro l
    induction l with
    |nil=>exact λ_ a c=>c
    |cons g l ih=>
     intro k a c;refine ih (λg o=>k g (Cu _ o)) _ ?_;dsimp only;split
     ·exact c
     ·intro x b
      rcases pH.1 b with b|b
      ·exact c x b
      ·rw[List.mem_singleton.1 b];exact j s (h s (AW m)) g (k g Ab)
   exact n d (λg h=>h) S h
def pmL (L:LN)(N:List Nat):LN:=N.map λi=>L.getD i []
def FG (n:Nat)(L:LN)(N:List Nat):Bool:=
 decide (N.Pairwise (· < ·))&&N.all (λi=>decide (i<L.length))&&(pmL L N).all (λx=>(pmL L N).all λy=>(pmL L N).contains (aX x y))&&(pmL L N).all (λx=>(pmL L N).contains (dA x))&&(pmL L N).contains (bL n)&&(pmL L N).all λy=>L.all λg=>(pmL L N).contains (cW y g)
def NxB (n:Nat)(L:LN)(Rp Cg N N':List Nat):Bool:=
 (N.all λi=>N'.contains i)&&(List.range L.length).all (λi=>N.contains i||Rp.any λr=>!N.contains r&&(L.map (cW (L.getD r []))).contains (L.getD i []))&&Rp.all (λr=>decide (r<L.length)&&(N.contains r||(pmL L N').all λx=>(Yy (pmL L N++Cg.map λg=>cW (L.getD r []) (L.getD g [])) L.length 0 [bL n]).contains x))&&Cg.all (λg=>decide (g<L.length))&&N'.any λi=>!N.contains i
def WL (n:Nat)(L:LN)(Rp Cg:List Nat):LN->Bool
 |a::b::r=>(b==List.range L.length||FG n L b)&&NxB n L Rp Cg a b&&decide (a.length<L.length)&&WL n L Rp Cg (b::r)
 | [a]=>decide (a.length=L.length)
 | []=>false
section
variable {n:Nat} {G:List Nat->Prop} {L:LN} {K N N' r:List Nat} {rs:LN}
theorem Nv {x:List Nat}:x∈pmL L N↔RG L N x:=by
 unfold pmL;rw[uF];exact Iff.rfl
variable (hG:iX n G) (E:dW G L)
include hG E
theorem FG.ok (h:FG n L N=true):xJ n G L N:=by
 unfold FG at h;simp only[vN,Kv,Qf,List.contains_iff_mem,Nv] at h;obtain⟨⟨⟨⟨⟨f,d⟩,k⟩,p⟩,l⟩,s⟩:=h;have le: ∀x,RG L N x->G x:=λx ⟨i,hi,e⟩=>by rw[←e];exact oS E (d i hi)
 refine⟨⟨f,λi=>⟨λhi=>⟨d i hi,i,hi,rfl⟩,λ⟨hi,j,hj,e⟩=>?_⟩⟩,⟨λm=>hG.cU (le _ m),l,λ{a b} c t=>k a c b t,λ{a} c=>p a c⟩,λy g q o=>s y q g ((E.mem g).2 o),le⟩;rw[←yK E.nodup (d j hj) hi e];exact hj
theorem RF:xJ n G L (List.range L.length):=by
 have e:RG L (List.range L.length)=G:=funext λx=>propext ⟨λ⟨i,hi,e⟩=>by rw[←e];exact oS E (Gu.1 hi),λh=>by
  obtain⟨i,hi,e⟩:=zF.1 ((E.mem x).2 h)
  exact⟨i,Gu.2 hi,by rw[List.getD,dD hi];exact e⟩⟩
 refine⟨⟨List.pairwise_lt_range,λi=>?_⟩,by rw[e];exact hG,by rw[e];exact λy g b a=>hG.mul (hG.mul (hG.inv a) b) a,by rw[e];exact λx h=>h⟩;rw[Gu,e];exact⟨λh=>⟨h,oS E h⟩,λh=>h.1⟩
theorem NxB.ok (k:xJ n G L N)(o:xJ n G L N')(Y:Cm n G L K)(hl:N.length<L.length)(h:NxB n L Rp Cg N N'=true):Pw n G L K N=N':=by
 unfold NxB at h;simp only[vN,Kv,List.any_eq_true,Bool.or_eq_true,Bool.not_eq_true',Qf,List.contains_iff_mem,Nv,Gu] at h;obtain⟨⟨⟨⟨h1,Q⟩,l⟩,hC⟩,W,v,A⟩:=h;have Z: ∀{i:Nat},N.contains i=false->i∉N:=λh Q=>by rw[List.contains_iff_mem.2 Q] at h;cases h
 obtain⟨⟨i,hi,hn,e⟩,B,_,O⟩:=Fv hG E k Y hl;have p:=Y.lt hi
 have up: ∀t∈N',t∈Pw n G L K N:=λt f=>by
  rw[e];refine (Bj t).2 ⟨((o.rk.mem t).1 f).1,?_⟩;rcases Q i p with h|⟨r,hr,J,F⟩
  ·exact absurd h hn
  ·obtain⟨s,l⟩:=l r hr
   rcases l with l|l
   ·exact absurd l (Z J)
   ·obtain⟨g,d,q⟩:=uF.1 F
    have gr:=Lb.dN hG k.le (oS E p);have m:=(E.mem g).1 d
    have rx:Lb n G (RG L N) (L.getD i []) (L.getD r []):=by
     have:=NC.cj (n:=n) (NC.of (.inr rfl):Lb n G (RG L N) (L.getD i []) (L.getD i [])) (hG.inv m);rw[←q,←nX (lY hG E s) (hG.cU m) (hG.cU m).inv,fC (hG.cU m),mG (lY hG E s)] at this;rwa [←q]
    refine Ma (P:=Lb n G (RG L N) (L.getD i [])) (λx z g d=>gr.mul z ?_) L.length 0 [bL n] (λx z=>by rw[List.mem_singleton.1 z];exact gr.one) _ (l _ ⟨t,f,rfl⟩);rcases pH.1 d with d|d
    ·exact NC.of (.inl (Nv.1 d))
    ·obtain⟨c,F,rfl⟩:=uF.1 d
     exact NC.cj rx (oS E (hC c F))
 have u:=((o.rk.mem W).1 v).1;obtain⟨y,a0,hR,g,d,q⟩:=Vo hG E u;have U:y∈K:=Y.perm.mem_iff.2 (kV.2 ⟨om,hR⟩)
 have yN:y∉N:=λh=>Z A (by
  obtain⟨t,f,R⟩:=k.nm _ _ ⟨y,h,rfl⟩ d;have:t=W:=yK E.nodup ((k.rk.mem t).1 f).1 u (R.trans q)
  rw[←this];exact f)
 have w:RG L N' (L.getD y []):=by
  have:=o.nm _ _ ⟨W,v,rfl⟩ (hG.inv d);rwa [←q,←nX (lY hG E om) (hG.cU d) (hG.cU d).inv,fC (hG.cU d),mG (lY hG E om)] at this
 have dn: ∀t∈yR n G L N y,t∈N':=λt f=>by
  obtain⟨l,h4⟩:=(Bj t).1 f;have:RG L N' (L.getD t []):=NC.le h4 o.dN (λa h=>h.elim (λ⟨j,hj,e⟩=>⟨j,h1 j hj,e⟩) λe=>by rw[e];exact w) λa b ha hb=>o.nm a b ha hb
  exact (o.rk.mem t).2 ⟨l,this⟩
 have R:=O y U yN λt f=>up t (dn t f)
 refine VD B.rk.asc o.rk.asc λt=>⟨λf=>dn t (by rw[R];exact f),up t⟩
theorem WL.ok (c:Ql n G L K rs r)(o:r.length=L.length)(j:Cm n G L K): ∀(Ns:LN) (N:List Nat) (k:Nat),rs[k]? =some N->xJ n G L N->WL n L Rp Cg (N::Ns)=true->rs.drop k=N::Ns
 | [],N,k,hk,kN,h=>by
  have d:N.length=L.length:=of_decide_eq_true h;have b:=(Ax.1 hk).1
  have: ¬k+1<rs.length:=λa=>by
   have:=(c.st k _ _ hk (dD a)).1;omega
  rw[AR b,List.drop_eq_nil_of_le om];rw[dD b] at hk;rw[Option.some.inj hk]
 |N'::Ns,N,k,hk,kN,h=>by
  unfold WL at h;simp only[vN,Qf] at h;obtain⟨⟨⟨a,p⟩,l⟩,m⟩:=h
  have f:xJ n G L N':=by
   rw[Bool.or_eq_true] at a;rcases a with a|a
   ·rw[beq_iff_eq.1 a];exact RF hG E
   ·exact FG.ok hG E a
  have b:=(Ax.1 hk).1
  have i:k+1<rs.length:=Nat.lt_of_not_le λh=>by
   have d:=c.la;rw[show rs.length- 1=k by omega,hk] at d;cases d;omega
  have e:=(c.st k _ _ hk (dD i)).2;rw[NxB.ok hG E kN f j l p] at e;have:=WL.ok c o j Ns N' (k+1) (by rw[dD i,e]) f m;rw[dD b] at hk;rw[AR b,this,Option.some.inj hk]
omit hG E in
theorem DT (b:xJ n G L [0])(a:L.getD 0 []=bL n):Pz L (λx=>x=bL n)= [0]:=by
 refine (Dy L _).uniq (K:=λx=>x=bL n) ⟨b.rk.asc,λi=>?_⟩;rw[b.rk.mem i]
 refine and_congr_right λ_=>⟨λ⟨j,hj,e⟩=>?_,λe=>⟨0,List.mem_singleton.2 rfl,?_⟩⟩
 ·rw[List.mem_singleton.1 hj] at e;rw[←e,a]
 ·rw[a,e]
theorem OZ (j:Ky n G L K rs)(k:Cm n G L K){a:LN}(i:FG n L [0]=true)(f:L.getD 0 []=bL n)(h:WL n L Rp Cg ([0]::a)=true):rs= [0]::a:=by
 obtain⟨r,c,l⟩:=j.ex;have b:=FG.ok hG E i;have e:=DT b f;have d:=c.hd;rw[e] at d;exact WL.ok hG E c l k a [0] 0 d b h
end
theorem RC {K:List Nat}{rs:LN}(b:Ky 4 (bX 4 (· ∈DD)) DH K rs)(a:Cm 4 (bX 4 (· ∈DD)) DH K):rs= [[0], [0,7,16,23], [0,3,4,7,8,11,12,15,16,19,20,23],List.range 24]:=OZ (Rp:= [1,3,7,9]) (Cg:= [0,2,8]) (bX.dN Wz) Am b a (by decide+kernel) rfl (by decide+kernel)
theorem Ah:dW (bX 4 (· ∈Ij)) qB:=Ze.Xz (ws:= [[], [0], [1], [0,1]]) (by decide+kernel)
theorem acU {i:Nat}(f:i<4)(l:i∉ [0]):yR 4 (bX 4 (· ∈Ij)) qB [0] i= [0,i]/\xJ 4 (bX 4 (· ∈Ij)) qB [0,i]/\WL 4 qB [1,2,3] [0] [[0,i],List.range 4]=true:=by
 have hG:=bX.dN Su;have E:=Ah;have m:xJ 4 (bX 4 (· ∈Ij)) qB [0]:=FG.ok hG E (by decide+kernel);have k: ∀i,i<4->i∉ [0]->FG 4 qB [0,i]=true/\WL 4 qB [1,2,3] [0] [[0,i],List.range 4]=true:=by decide+kernel
 obtain⟨p,v⟩:=k i f l;have d:xJ 4 (bX 4 (· ∈Ij)) qB [0,i]:=FG.ok hG E p;refine⟨VD (akE hG E m f).rk.asc d.rk.asc λt=>?_,d,v⟩;obtain⟨s,u,_⟩:=Gw m f l;refine⟨λc=>?_,λc=>?_⟩
 ·obtain⟨q,w⟩:=(Bj t).1 c
  refine (d.rk.mem t).2 ⟨q,NC.le w d.dN (λa h=>h.elim (λ⟨j,hj,e⟩=>⟨j,by rw[List.mem_singleton.1 hj];exact Ab,e⟩) λe=>by rw[e];exact⟨i,by simp,rfl⟩) λa b o x=>d.nm a b o x⟩
 ·rcases zH.1 c with rfl|c
  ·exact s 0 Ab
  ·rw[List.mem_singleton.1 c];exact u
theorem VC {K:List Nat}{rs:LN}(t:Ky 4 (bX 4 (· ∈Ij)) qB K rs)(d:Cm 4 (bX 4 (· ∈Ij)) qB K): ∃i,i<4/\i∉ [0]/\rs= [[0], [0,i],List.range 4]/\Pw 4 (bX 4 (· ∈Ij)) qB K [0]= [0,i]:=by
 obtain⟨r,c,j⟩:=t.ex;have hG:=bX.dN Su;have E:=Ah;have l:xJ 4 (bX 4 (· ∈Ij)) qB [0]:=FG.ok hG E (by decide+kernel);have a:=c.hd;rw[DT l rfl] at a;have p:=(Ax.1 a).1
 have m:0+1<rs.length:=Nat.lt_of_not_le λh=>by
  have o:=c.la;rw[show rs.length- 1=0 by omega,a] at o;cases o;cases j
 have e:=(c.st 0 _ _ a (dD m)).2;obtain⟨⟨i,hi,k,b⟩,_⟩:=Fv hG E l d (show 1<4 by omega);have f:i<4:=d.lt hi;obtain⟨q,u,s⟩:=acU f k;rw[q] at b;rw[b] at e;have:=WL.ok hG E c j d [List.range 4] [0,i] 1 (by rw[dD m,e]) u s;refine⟨i,f,k,?_,b⟩;rw[←List.take_append_drop 1 rs,this,List.take_succ_eq_append_getElem p];rw[dD p] at a;rw[Option.some.inj a]
 rfl
theorem agL {K:List Nat}{rs:LN}(b:Ky 4 (bX 4 (· ∈Ij)) qB K rs)(a:Cm 4 (bX 4 (· ∈Ij)) qB K):rs.map List.length= [1,2,4]:=by
 obtain⟨i,_,_,e,_⟩:=VC b a;rw[e];rfl
abbrev LA5:LN:= [[0,1,2,3,4], [0,1,3,4,2], [0,1,4,2,3], [0,2,1,4,3], [0,2,3,1,4], [0,2,4,3,1], [0,3,1,2,4], [0,3,2,4,1], [0,3,4,1,2], [0,4,1,3,2], [0,4,2,1,3], [0,4,3,2,1], [1,0,2,4,3], [1,0,3,2,4], [1,0,4,3,2], [1,2,0,3,4], [1,2,3,4,0], [1,2,4,0,3], [1,3,0,4,2], [1,3,2,0,4], [1,3,4,2,0], [1,4,0,2,3], [1,4,2,3,0], [1,4,3,0,2], [2,0,1,3,4], [2,0,3,4,1], [2,0,4,1,3], [2,1,0,4,3], [2,1,3,0,4], [2,1,4,3,0], [2,3,0,1,4], [2,3,1,4,0], [2,3,4,0,1], [2,4,0,3,1], [2,4,1,0,3], [2,4,3,1,0], [3,0,1,4,2], [3,0,2,1,4], [3,0,4,2,1], [3,1,0,2,4], [3,1,2,4,0], [3,1,4,0,2], [3,2,0,4,1], [3,2,1,0,4], [3,2,4,1,0], [3,4,0,1,2], [3,4,1,2,0], [3,4,2,0,1], [4,0,1,2,3], [4,0,2,3,1], [4,0,3,1,2], [4,1,0,3,2], [4,1,2,0,3], [4,1,3,2,0], [4,2,0,1,3], [4,2,1,3,0], [4,2,3,0,1], [4,3,0,2,1], [4,3,1,0,2], [4,3,2,1,0]]
theorem tT:dW (bX 5 (· ∈HH)) LA5:=Ze.Xz (ws:= [[], [1,0,0], [0,1,1,1,1], [1,0,1,0,0,1,1], [1,1,1,1,0,1], [0,1,1,1,0,1], [1,0,1,1,1], [0,1,0], [1,1,0], [1,0,1,0,1,1], [0,0,1,0,1,1], [0,1,0,1,0,0], [1,0,1,0,1,1,1], [0,0,1,0,1,1,1], [0,1,0,1,0,0,1], [0], [1], [1,0,0,1], [0,1,0,0], [1,0,1,1,1,0], [1,1,0,0], [1,1,0,1], [1,0,1,1,1,1], [0,1,0,1], [0,0], [1,0], [0,1,0,1,1], [0,1,0,1,0,0,1,1], [0,0,1,0,1,1,1,0], [0,0,1,0,1,1,1,1], [1,0,0,1,1], [0,1], [1,1], [1,1,0,0,1], [0,1,0,0,1], [0,1,0,1,0], [0,0,1,0,0], [0,1,0,0,1,1], [1,0,1,0,0], [0,1,0,1,1,1], [0,0,1], [1,0,1], [0,0,1,0], [0,1,0,1,1,1,0], [1,0,1,0], [1,1,1], [1,1,1,0], [0,1,1], [1,1,1,1], [1,1,1,0,1], [0,1,1,1], [1,0,1,0,0,1], [1,1,1,1,0], [0,1,1,1,0], [1,0,1,1], [0,1,0,1,1,1,1], [0,0,1,1], [1,0,1,0,1], [0,0,1,0,1], [0,0,1,0,1,0]]) (by decide+kernel)
theorem afY {K:List Nat}{rs:LN}(b:Ky 5 (bX 5 (· ∈HH)) LA5 K rs)(a:Cm 5 (bX 5 (· ∈HH)) LA5 K):rs= [[0],List.range 60]:=OZ (Rp:= [1,3,16,17]) (Cg:= [0,1,30]) (bX.dN HN) tT b a (by decide+kernel) rfl (by decide+kernel)
end
theorem PG {W:Nat->Prop}(Y:V)(n:Nat)(O:LN)(R:jI)(G:List Nat->Prop)(h:H)(r:GC W h Y n O R G):
  Ev T 42 [Y] h (λv h'=>v= aC (kI O n 0:Nat)/\Fr h h'):=by
 obtain⟨x,vR,k,a0,rfl,L,oO,Q,sR,oR,aR⟩:=r.cw
 refine cV Fl rfl ?_
 have s:=(SV.cK L).2.1
 have q:=(SV.cK sR).2.1
 have d:=r.isc
 have n7:=r.n7
 have a1:=jH r
 have lO:=aM.length Q
 rw[d.lo] at lO
 obtain⟨B,U⟩:=exI h.next
 obtain⟨P,e1,n1,Z,o1,N⟩:=dF U [aC n,x,vR]
 have p:bT x=some (aC n):=by unfold bT;rw[SV.len L (n:=n) om om];rfl
 obtain⟨K,t,y,o,cO⟩:=SV.shape L n om om
 simp(disch:=omega)only[go_sem,Fl,aD,bM h (v:= aC n) (u:=x) (w:=vR) rfl s q,U,e1]
 refine aH (λk' b z=> ∃(i a:Nat),(∃g:Nat->V,b= [g 0,.ptr B 0,g 2,aC a,aC i,g 5])/\i<=n/\a*kI O (n-i) i=kI O n 0/\z=P/\k'=n-i) n
  ⟨0,1,aB rfl,iJ _,by rw[Nat.one_mul];rfl,rfl,rfl⟩ ?_
 rintro k' b z ⟨i,a,⟨g,rfl⟩,hi,c,rfl,rfl⟩
 by_cases f:(i:Int)<(n:Int)
 case neg=>
  have A:=bH f;obtain rfl:i=n:=om
  simp(disch:=omega)only[go_sem,H.aF Z,p,A];rw[Nat.sub_self] at c;have:kI O 0 i=1:=rfl;rw[this,uW] at c;exact⟨by rw[c],N⟩
 have A:=bP f
 have l:i<n:=om
 have J:=aM.get Q i om (by rw[d.lo];exact l)
 rw[show O[i]'(by rw[d.lo];exact l)=O.getD i [] from rN _] at J
 have co:z.cell K (t+i)=some (k[i]'om):=by
  rw[N.cell (o om),cO i om,dD om]
 generalize k[i]'om=vo at J co
 have F:=(J.si.mono N).lens
 rw[aQ] at F
 have st:kI O (n-i) i=(O.getD i []).length*kI O (n-(i+1)) (i+1):=by
  rw[show n-i=(n-(i+1))+1 by omega];rfl
 have pos:=Ln (O:=O) (n-(i+1)) (i+1) (λj P h2=>(r.row om).1)
 obtain⟨m,hm⟩:=exI ((O.getD i []).length)
 rw[st,←Nat.mul_assoc,hm] at c
 rw[hm] at F
 have bd:a*m<=kI O n 0:=by rw[←c];exact Nat.le_mul_of_pos_right _ pos
 have em:(a:Int)*(m:Int)=((a*m:Nat):Int):=rfl
 obtain⟨w,hw⟩:=exI (a*m)
 rw[hw] at em bd c
 simp(disch:=omega)only[go_sem,H.aF Z,p,A,y.ixa,co,F,em]
 rw[eJ i]
 exact⟨n-(i+1),om,i+1,w,aB rfl,om,c,rfl⟩
theorem ZS {h:H}{id o:Nat}{a b c:V}(r:h.row id o 3=some [a,b,c]):h.cell id (o+1)=some b:=by
 unfold H.row at r;unfold H.cell;split at r
 ·rename_i d f e
  rw[e];simp only[sub] at r;split at r
  ·have r:=Option.some.inj r
   have:=congrArg (λl:List V=>l[1]?) r;simp at this;exact this
  ·cases r
 ·cases r
theorem lU {W:Nat->Prop}(x z:V)(n:Nat)(ls:List (V×V))(l:List nE)(a:List Nat)(h:H)(sv:SV h x 3 (Kr n ls))(al:aM (λp (e:nE)=> ∃G,GC W h (.agg [aC n,p.1,p.2]) n e.1 e.2 G) ls l)(l6:l.length<=6000)(R:SI h z (zi a))(L:l.map (λe=>kI e.1 n 0)=a):
  Ev T 29 [x,aC 0,z] h (λv h'=>v= .bool true/\Fr h h'):=by
 refine cV Du rfl ?_
 have la:=aM.length al
 have P:a.length=l.length:=by rw[←L,jV]
 have J:bT x=some (aC (l.length:Int)):=by unfold bT;rw[SV.len sv (n:=l.length) (by rw[lC,la]) om];rfl
 have s:=R.lens
 rw[aQ,P] at s
 have d0:decide ((0:Int)≠0)=false:=rfl
 have d1:decide ((l.length:Int)≠(l.length:Int))=false:=bH λh=>h rfl
 obtain⟨t,j,r,c,w⟩:=R.open
 rw[aQ,P] at r c w
 simp(disch:=omega)only[go_sem,Du,aD,d0,J,s,d1]
 refine aH (λO f m=> ∃(i:Nat),(∃g:Nat->V,f= [x,aC 0,z,g 3,aC i,g 5,g 6,g 7])/\i<=l.length/\Fr h m/\O=l.length-i) l.length
  ⟨0,aB rfl,iJ _,Fr.refl h,rfl⟩ ?_
 rintro O f m ⟨i,⟨g,rfl⟩,hi,F,rfl⟩
 by_cases q:(i:Int)<(l.length:Int)
 case neg=>
  have B:=bH q;simp(disch:=omega)only[go_sem,J,B];exact F
 have B:=bP q
 have o:i<l.length:=om
 obtain⟨r1,o1,A,K⟩:=Lw (sv.mono F) (i:=i) om
 obtain⟨G1,b⟩:=aM.get al i om o
 have u:a.getD i 0=kI l[i].1 n 0:=by rw[←L,List.getD,Ol,dD o];rfl
 generalize ls[i]'om=p1 at K b
 generalize l[i]=e at b u
 have U:m.cell t (j+i)=some (aC (kI e.1 n 0:Nat)):=by
  rw[F.cell (c om),w i o,←u];congr 2;exact nP (λk:Nat=>(k:Int)) (d:=0) om
 have Y:bT p1.1=some (aC n):=by
  obtain⟨vO,vR,a0,a1,N,sO,oO,Z,_⟩:=b.cw;simp only[V.agg.injEq,List.cons.injEq,true_and,and_true] at N;rw[N.1];have lO:=aM.length Z;rw[b.isc.lo] at lO;unfold bT;rw[SV.len sO (n:=n) om om];rfl
 have d3:decide ((n:Int)=0)=false:=bH (by have:=b.n0;omega)
 have d4:decide (((kI e.1 n 0:Nat):Int)≠((kI e.1 n 0:Nat):Int))=false:=bH λh=>h rfl
 have Q:Fr m (H.mk m.tr (m.next+19)):=(Fr.refl m).bA om
 simp(disch:=omega)only[go_sem,J,B,A.ixa,ZS K,Y,d3,K,r.ixa,U]
 refine (PG _ n e.1 e.2 G1 _ (b.mono (F.trans Q))).mono ?_
 rintro _ h2 ⟨rfl,f2⟩
 have F2:=Q.trans f2
 have y:h2.cell t (j+i)=some (aC (kI e.1 n 0:Nat)):=by rw[F2.cell (by have:=c om;have:=F.next;omega)];exact U
 simp(disch:=omega)only[go_sem,y,d4,dE]
 refine⟨by simp,?_⟩
 rw[eJ i]
 exact⟨l.length-(i+1),om,i+1,aB rfl,om,F.trans F2,rfl⟩
section
variable {L rs:LN} {K:List Nat}
def aeM (h:H)(neg:Bool)(x y:V):Option (V×H):=match x,y with
 | .str a,.str b=>some (.bool (if neg then !(a.map (· %256)==b.map (· %256)) else a.map (· %256)==b.map (· %256)),h)
 |_,_=>none
theorem XZ (ρ:X->V)(h:H)(neg:Bool)(x y:X):cI ρ h (.seq neg x y)=aeM h neg (ρ x) (ρ y):=by
 simp only[cI,aeM]
 rfl
theorem QH (h:H)(a:List Nat):aeM h true (.str a) (.str a)=some (.bool false,h):=by
 show some (V.bool (!(_==_)),h)=_;rw[beq_self_eq_true];rfl
theorem WV (f d:V)(l:LN)(h:H)(A:l.length<1000000)(u:SV h f 1 (l.map V.str))(r:SV h d 1 (l.map V.str)):
  Ev T 17 [f,d] h (λv h'=>v= .bool true/\Fr h h'):=by
 refine cV uX rfl ?_
 have j:(l.map V.str).length=l.length*1:=by rw[jV];omega
 have p:bT f=some (aC (l.length:Int)):=by unfold bT;rw[SV.len u j om];rfl
 have lb:bT d=some (aC (l.length:Int)):=by unfold bT;rw[SV.len r j om];rfl
 have z:decide ((l.length:Int)≠(l.length:Int))=false:=bH λh=>h rfl
 simp(disch:=omega)only[go_sem,uX,aD,p,lb,z]
 refine aH (λs a b=> ∃(i:Nat),(∃g:Nat->V,a= [f,d,g 2,aC i,g 4,g 5,g 6])/\i<=l.length/\Fr h b/\s=l.length-i) l.length
  ⟨0,aB rfl,iJ _,Fr.refl h,rfl⟩ ?_
 rintro s a b ⟨i,⟨g,rfl⟩,hi,F,rfl⟩
 by_cases c:(i:Int)<(l.length:Int)
 case neg=>
  have o:=bH c;simp(disch:=omega)only[go_sem,p,o];exact F
 have o:=bP c
 have n:i<l.length:=om
 obtain⟨B,J,k,_,w⟩:=(u.mono F).shape l.length j om
 obtain⟨N,G,m,_,y⟩:=(r.mono F).shape l.length j om
 have t:=w i om
 have q:=y i om
 rw[Ol,dD n] at t q
 have x:Fr b (H.mk b.tr (b.next+9)):=(Fr.refl b).bA om
 simp(disch:=omega)only[go_sem,p,o,k.ixa,t,m.ixa,q,XZ,QH]
 rw[eJ i]
 exact⟨l.length-(i+1),om,i+1,aB rfl,om,F.trans x,rfl⟩
theorem Ut {W:Nat->Prop}(i c:V)(n:Nat)(O:LN)(R:jI)(G:List Nat->Prop)(a:LN)(h:H)(b:GC W h i n O R G)(y:SV h c 1 (a.map V.str))(p: ∀L K rs,dW G L->Cm n G L K->Ky n G L K rs->akA rs=a):
  Ev T 45 [i,c] h (λv h'=>v= .bool true/\Fr h h'):=by
 obtain⟨k,l,rfl,t,q⟩:=b.shape
 refine cV yT rfl ?_
 obtain⟨A,j⟩:=exI h.next
 obtain⟨o,s,U,r,Q,f⟩:=dF j [aC n,k,l]
 simp(disch:=omega)only[go_sem,yT,aD,bM h (v:= aC n) (u:=k) (w:=l) rfl t q,j,s,aI r]
 refine (CR _ n O R G o (b.mono f)).mono ?_
 rintro _ x ⟨F,L,K,rs,rfl,N,J,B,sv,d,m⟩
 have E:=(dM b.dN b.isc).1
 rw[N] at E
 have e:=p L K rs E J B
 rw[e] at sv d
 simp(disch:=omega)only[go_sem,eq_self,decide_true]
 refine (WV F c a x om sv (y.mono (f.trans m))).mono ?_
 rintro _ P ⟨rfl,z⟩
 simp(disch:=omega)only[go_sem]
 exact f.trans (m.trans z)
theorem AH {n:Nat}(h:n<=9):vT n= [48+n]:=by unfold vT;rw[bI om]
theorem afW (E:dW (bX 4 (· ∈DD)) L)(a:Cm 4 (bX 4 (· ∈DD)) L K)(b:Ky 4 (bX 4 (· ∈DD)) L K rs):akA rs= [[67,50], [67,50], [67,50], [67,51]]:=by
 obtain rfl:=E.uniq Am;rw[RC b a];have e:akA=λrs=>(Lr (mU (rs.map List.length))).map Prod.snd:=rfl
 rw[e];simp [mU,iY,Eg,LY,stA,Lr,Ep,AH,List.replicate]
theorem afH (E:dW (bX 4 (· ∈Ij)) L)(a:Cm 4 (bX 4 (· ∈Ij)) L K)(b:Ky 4 (bX 4 (· ∈Ij)) L K rs):akA rs= [[67,50], [67,50]]:=by
 obtain rfl:=E.uniq Ah;unfold akA;rw[agL b a];simp [mU,iY,Eg,LY,stA,Lr,Ep,AH,List.replicate]
theorem afG (E:dW (bX 5 (· ∈HH)) L)(a:Cm 5 (bX 5 (· ∈HH)) L K)(b:Ky 5 (bX 5 (· ∈HH)) L K rs):akA rs= [[65,53]]:=by
 obtain rfl:=E.uniq tT;unfold akA;rw[afY b a];simp [mU,iY,Eg,LY,stA,Lr,Ep,Eh]
end
theorem adL (h:H)(x y z w:List Nat):lQ h 1 [.str []] 4 [(0,1,.str x),(1,1,.str y),(2,1,.str z),(3,1,.str w)]=some (.sl h.next 0 4 (.kn 4),h.new (.cells false [.str x,.str y,.str z,.str w])):=rfl
theorem aeS (h:H)(x y:List Nat):lQ h 1 [.str []] 2 [(0,1,.str x),(1,1,.str y)]=some (.sl h.next 0 2 (.kn 2),h.new (.cells false [.str x,.str y])):=rfl
theorem agM (h:H)(x:List Nat):lQ h 1 [.str []] 1 [(0,1,.str x)]=some (.sl h.next 0 1 (.kn 1),h.new (.cells false [.str x])):=rfl
theorem CQ (h:H):Ev T 11 [] h (λv h'=>v= .bool true/\Fr h h'):=by
 refine cV Da rfl ?_;simp(disch:=omega)only[go_sem,Da,aD];refine (Ke h).mono ?_;rintro _ h1 ⟨c0,c1,c2,c3,O0,R0,O1,R1,O2,R2,O3,R3,rfl,c,r,l,o,f1⟩;obtain⟨p0,q0,rfl,a0,b0⟩:=c.shape;obtain⟨Y,Q,rfl,a1,b1⟩:=r.shape;obtain⟨p2,q2,rfl,a2,b2⟩:=l.shape;obtain⟨p3,q3,rfl,a3,b3⟩:=o.shape;obtain⟨A,hA⟩:=exI h1.next;obtain⟨k1,e1,n1,g1,o1,F1⟩:=dF hA [aC 0,.aE,.aE];obtain⟨k2,e2,n2,g2,o2,F2⟩:=dF n1 [aC 0,.aE,.aE];obtain⟨k3,e3,n3,g3,o3,F3⟩:=dF n2 [aC 0,.aE,.aE];obtain⟨z,e4,n4,g4,F,F4⟩:=dF n3 [aC 0,.aE,.aE];have z1:z.get A=aZ [aC 0,.aE,.aE]:=by rw[F _ om,o3 _ om,o2 _ om];exact g1
 have z2:z.get (A+1)=aZ [aC 0,.aE,.aE]:=by rw[F _ om,o3 _ om];exact g2
 have z3:z.get (A+1+1)=aZ [aC 0,.aE,.aE]:=by rw[F _ om];exact g3
 obtain⟨k5,e5,n5,g5,N⟩:=pJ z A [aC (4:Nat),p0,q0];obtain⟨k6,e6,n6,g6,O⟩:=pJ k5 (A+1) [aC (4:Nat),Y,Q];obtain⟨k7,e7,n7,g7,P⟩:=pJ k6 (A+1+1) [aC (4:Nat),p2,q2];obtain⟨d,e8,n8,g8,J⟩:=pJ k7 (A+1+1+1) [aC (5:Nat),p3,q3];have y2:k5.get (A+1)=aZ [aC 0,.aE,.aE]:=by rw[N _ om];exact z2
 have y3:k6.get (A+1+1)=aZ [aC 0,.aE,.aE]:=by rw[O _ om,N _ om];exact z3
 have y4:k7.get (A+1+1+1)=aZ [aC 0,.aE,.aE]:=by rw[P _ om,O _ om,N _ om];exact g4
 have b:Fr h1 d:=⟨om,λq hq=>by rw[J q om,P q om,O q om,N q om,F q om,o3 q om,o2 q om,o1 q om]⟩
 have r1: ∀a,Fr d a->a.row A 0 3=some [aC (4:Nat),p0,q0]:=λa f=>aI (by rw[f.get A om,J _ om,P _ om,O _ om];exact g5)
 have r2: ∀a,Fr d a->a.row (A+1) 0 3=some [aC (4:Nat),Y,Q]:=λa f=>aI (by rw[f.get _ om,J _ om,P _ om];exact g6)
 have r3: ∀a,Fr d a->a.row (A+1+1) 0 3=some [aC (4:Nat),p2,q2]:=λa f=>aI (by rw[f.get _ om,J _ om];exact g7)
 have r4: ∀a,Fr d a->a.row (A+1+1+1) 0 3=some [aC (5:Nat),p3,q3]:=λa f=>aI (by rw[f.get _ om];exact g8)
 simp(disch:=omega)only[go_sem,hA,e1,n1,e2,n2,e3,n3,e4,bW z A 0 (v:= aC (4:Nat)) (u:=p0) (w:=q0) rfl a0 b0,z1,cF,e5,bW k5 (A+1) 0 (v:= aC (4:Nat)) (u:=Y) (w:=Q) rfl a1 b1,y2,e6,bW k6 (A+1+1) 0 (v:= aC (4:Nat)) (u:=p2) (w:=q2) rfl a2 b2,y3,e7,bW k7 (A+1+1+1) 0 (v:= aC (5:Nat)) (u:=p3) (w:=q3) rfl a3 b3,y4,e8,r1 d (Fr.refl _)];refine (Eu _ 4 O0 R0 _ d (c.mono b)).mono ?_;rintro _ h2 ⟨v2,b7,l2,rfl,s2,Z,uA,f2⟩;simp(disch:=omega)only[go_sem,r3 h2 f2];refine (Nq _ 4 O2 R2 _ h2 (l.mono (b.trans f2))).mono ?_;rintro _ h3 ⟨v3,c9,l3,rfl,s3,W,R,f3⟩;have w2:=Zi c.isc uA;have w3:=Xs l.isc R;have L2:l2.length<=6000:=by have:=congrArg List.length w2;rw[jV] at this;rw[this];decide
 have L3:l3.length<=6000:=by have:=congrArg List.length w3;rw[jV] at this;rw[this];decide
 obtain⟨h4,a8,d8,c8,d7,f4⟩:=dF (h:=h3) rfl (ints [24,12,4,1]);have s:=f3.trans f4;simp(disch:=omega)only[go_sem,Ec,a8];have b4: ∀q,Fr d q->Fr h q:=λq f=>f1.trans (b.trans f)
 refine (lU v2 _ 4 b7 l2 [24,12,4,1] h4 (s2.mono s) (aM.mono (λ_ _ ⟨G,g,_⟩=>⟨G,g.mono s⟩) Z) L2 (SV.all rfl om c8 _) w2).mono ?_;rintro _ h5 ⟨rfl,f5⟩;obtain⟨h6,c5,d1,a6,d6,f6⟩:=dF (h:=h5) rfl (ints [8,2,1]);have a9:=f5.trans f6;have m:=f4.trans a9;simp(disch:=omega)only[go_sem,SA,c5];refine (lU v3 _ 4 c9 l3 [8,2,1] h6 (s3.mono m) (aM.mono (λ_ _ ⟨G,g,_⟩=>⟨G,g.mono m⟩) W) L3 (SV.all rfl om a6 _) w3).mono ?_;rintro _ h7 ⟨rfl,f7⟩;have y:Fr d h7:=f2.trans (f3.trans (m.trans f7));obtain⟨h8,b9,d4,c7,e0,f8⟩:=dF (h:=h7) rfl [.str [67,50],.str [67,50],.str [67,50],.str [67,51]];have x:=y.trans f8;simp(disch:=omega)only[go_sem,r1 h7 y,adL,b9];refine (Ut _ _ 4 O0 R0 _ [[67,50], [67,50], [67,50], [67,51]] h8 (c.mono (b.trans x)) (SV.all (len:=4) rfl om c7 _) λL K rs E t p=>afW E t p).mono ?_;rintro _ h9 ⟨rfl,f9⟩;have B:=x.trans f9;obtain⟨c4,b6,d9,a5,d2,b5⟩:=dF (h:=h9) rfl [.str [67,50],.str [67,50]];have k:=B.trans b5;simp(disch:=omega)only[go_sem,r2 h9 B,aeS,b6];refine (Ut _ _ 4 O1 R1 _ [[67,50], [67,50]] c4 (r.mono (b.trans k)) (SV.all (len:=2) rfl om a5 _) λL K rs E t p=>afH E t p).mono ?_;rintro _ n ⟨rfl,c6⟩;have i:=k.trans c6;obtain⟨a7,b8,d3,U,e9,d0⟩:=dF (h:=n) rfl [.str [65,53]];have j:=i.trans d0;simp(disch:=omega)only[go_sem,r4 n i,agM,b8];refine (Ut _ _ 5 O3 R3 _ [[65,53]] a7 (o.mono (b.trans j)) (SV.all (len:=1) rfl om U _) λL K rs E t p=>afG E t p).mono ?_;rintro _ d5 ⟨rfl,a4⟩;simp(disch:=omega)only[go_sem];exact b4 _ (j.trans a4)
end Go.Proofs.YtcdbmkidaecdiaaGreat
namespace Go.Proofs.YtcdbmkidaecdiaaGreat
open Go Go.Ay Go.Pm Go.Sort
set_option maxRecDepth 100000
theorem Oc: ∀a:List Nat,kP a a=false
 | []=>rfl
 |a::l=>by unfold kP;rw[bF rfl];exact Oc l
theorem uD: ∀{a b c:List Nat},kP a b=true->kP b c=true->kP a c=true
 | [], [],_,h,_=>by cases h
 | [],_::_, [],_,h=>by cases h
 | [],_::_,_::_,_,_=>rfl
 |_::_, [],_,h,_=>by cases h
 |_::_,_::_, [],_,h=>by cases h
 |x::a,y::b,z::c,h1,h2=>by
  unfold kP at h1 h2 ⊢;split at h1
  ·rename_i e
   subst e;split at h2
   ·rename_i e;rw[bF e];exact uD h1 h2
   ·rename_i e;rw[bI e];exact h2
  ·rename_i e
   have:=of_decide_eq_true h1;split at h2
   ·rename_i d
    subst d;rw[bI e];exact h1
   ·have f:=of_decide_eq_true h2
    rw[bI om];exact bP om
theorem Hw: ∀{a b:List Nat},kP a b=false->kP b a=false->a=b
 | [], [],_,_=>rfl
 | [],_::_,h,_=>by cases h
 |_::_, [],_,h=>by cases h
 |x::a,y::b,h1,h2=>by
  unfold kP at h1 h2;split at h1
  ·rename_i e
   subst e;rw[bF rfl] at h2;rw[Hw h1 h2]
  ·rename_i e
   rw[bI (Ne.symm e)] at h2;have d:=of_decide_eq_false h1;have c:=of_decide_eq_false h2;omega
def ZD (a b:List Nat):Int:=if (a.length:Int)≠b.length then (a.length:Int)-b.length else Hx a b
def NI (a b:List Nat):Bool:=decide (ZD a b<0)
theorem EO (a b:List Nat):NI a b=true↔a.length<b.length∨a.length=b.length/\kP a b=true:=by
 unfold NI ZD;rw[Qf];split
 ·omega
 ·rw[Uq]
  constructor
  ·exact λh=> .inr ⟨om,h⟩
  ·rintro (h|h)
   ·omega
   ·exact h.2
theorem UZ (a b:List Nat):NI a b=false↔ ¬(a.length<b.length∨a.length=b.length/\kP a b=true):=by
 rw[←EO,Bool.not_eq_true]
theorem By:SWO NI where
 irrefl x:=by rw[UZ,Oc];simp
 trans x y z b c:=by
  rw[EO] at*;rcases b with b|⟨b,d⟩<;>rcases c with c|⟨c,a⟩
  ·exact .inl om
  ·exact .inl om
  ·exact .inl om
  ·exact .inr ⟨om,uD d a⟩
 ntrans x y z b c:=by
  rw[UZ] at*;rintro (h|⟨h,k⟩)
  ·omega
  ·have i:y.length=x.length:=om
   have j:z.length=y.length:=om
   have d:kP x y=false:=by
    rw[←Bool.not_eq_true];exact λk=>b (.inr ⟨i.symm,k⟩)
   have a:kP y z=false:=by
    rw[←Bool.not_eq_true];exact λk=>c (.inr ⟨j.symm,k⟩)
   by_cases f:kP y x=true
   ·have:=uD f k
    rw[this] at a;cases a
   ·have:=Hw d (by simpa using f)
    rw[this] at k;rw[k] at a;cases a
theorem abK {a b:List Nat}(c:NI a b=false)(h2:NI b a=false):a=b:=by
 rw[UZ] at c h2;have e:a.length=b.length:=om
 exact Hw (by rw[←Bool.not_eq_true];exact λk=>c (.inr ⟨e,k⟩)) (by rw[←Bool.not_eq_true];exact λk=>h2 (.inr ⟨e.symm,k⟩))
theorem RO {W W':Nat->Prop}{L:LN}{h:H}{p q:V×V×V}{a b:List Nat}(n:Nat)(P:L.length<=5040)(j:Nm W n L h p a)(l:Nm W' n L h q b):
  Ev T 84 [Zw n p,Zw n q] h (λv h'=>v= aC (ZD a b)/\Fr h h'):=by
 obtain⟨A,y,K⟩:=j.one
 obtain⟨F,N,G⟩:=l.one
 have la:=j.rk.short
 have lb:=l.rk.short
 have t:=j.si.lens
 rw[aQ] at t
 have o:=l.si.lens
 rw[aQ] at o
 refine cV oU rfl ?_
 obtain⟨B,r⟩:=exI h.next
 obtain⟨x,z,u,O,Z,m⟩:=dF r [aC n,p.1,p.2.1,p.2.2]
 obtain⟨Q,J,n2,s,U,k⟩:=dF u [aC n,q.1,q.2.1,q.2.2]
 have i:Q.get B=aZ (Bt n p):=by rw[U B om];exact O
 unfold ZD
 by_cases f:(a.length:Int)≠(b.length:Int)
 ·have w:=bP f
  simp(disch:=omega)only[go_sem,oU,aD,fZ h (a:= aC n) (b:=p.1) (c:=p.2.1) (d:=p.2.2) rfl A y K,r,z,fZ x (a:= aC n) (b:=q.1) (c:=q.2.1) (d:=q.2.2) rfl F N G,u,J,H.aF i,H.aF s,t,o,w,bF f]
  exact m.trans k
 ·have w:=bH f
  simp(disch:=omega)only[go_sem,oU,aD,fZ h (a:= aC n) (b:=p.1) (c:=p.2.1) (d:=p.2.2) rfl A y K,r,z,fZ x (a:= aC n) (b:=q.1) (c:=q.2.1) (d:=q.2.2) rfl F N G,u,J,H.aF i,H.aF s,t,o,w,gU i,gU s,bI f]
  refine (ET n P (j.mono (m.trans k)) (l.mono (m.trans k))).mono ?_
  rintro _ Y ⟨rfl,R⟩
  simp(disch:=omega)only[go_sem]
  exact m.trans (k.trans R)
structure NE where
 n:Nat
 p:V×V×V
 r:List Nat
 one:p.1.one=true/\p.2.1.one=true/\p.2.2.one=true
 eq:dE p.1 p.1=true/\dE p.2.1 p.2.1=true/\dE p.2.2 p.2.2=true
instance:Inhabited NE:=⟨⟨0,(.aE,.aE,.aE), [],⟨rfl,rfl,rfl⟩,⟨rfl,rfl,rfl⟩⟩⟩
def NE.enc (a:NE):List V:=Bt a.n a.p
def NE.lt (a b:NE):Bool:=NI a.r b.r
def NE.Pp (n:Nat)(L:LN)(hB:H)(b0 S:Nat)(a:NE):Prop:=a.n=n/\Nm (λq=>b0<=q∨q=S) n L hB a.p a.r
theorem ahA {a h:H}{c S:Nat}(d:a.next=c)(b:Cls.Bb a c S h):Fx (λq=>c<=q∨q=S) a h:=
 ⟨by rw[d];exact b.1,λq i f=>b.2 q om λe=>f (.inr e)⟩
def apJ (k:Nat):Nat:=if k=247 then 168 else if k=260 then 211 else if k=248 then 169 else if k=227 then 127 else if k=254 then 175 else if k=253 then 174 else if k=252 then 173 else if k=249 then 170 else if k=250 then 171 else if k=264 then 245 else if k=262 then 215 else if k=261 then 214 else if k=251 then 172 else if k=186 then 83 else k
theorem aoZ {ρ:Nat->Nat}{k m:Nat}{c d:Ay.Fn}(h:T k=some c)(h':T m=some d)(e:d=Cls.apE ρ c):T m=(T k).map (Cls.apE ρ):=by
 rw[h,h',e]
 rfl
theorem apG: ∀k,k∈Cls.sK->T (apJ k)=(T k).map (Cls.apE apJ):=by
 intro k a;simp only[Cls.sK,zH,List.not_mem_nil,or_false] at a;rcases a with rfl|rfl|rfl|rfl|rfl|rfl|rfl|rfl|rfl|rfl|rfl|rfl|rfl|rfl
 ·exact aoZ fK.ok fL.ok (by kernel_rfl)
 ·exact aoZ gJ.ok gO.ok (by kernel_rfl)
 ·exact aoZ gX.ok gW.ok (by kernel_rfl)
 ·exact aoZ iA.ok iB.ok (by kernel_rfl)
 ·exact aoZ gE.ok fN.ok (by kernel_rfl)
 ·exact aoZ sV.ok fE.ok (by kernel_rfl)
 ·exact aoZ dU.ok dV.ok (by kernel_rfl)
 ·exact aoZ dI.ok dJ.ok (by kernel_rfl)
 ·exact aoZ sH.ok cQ.ok (by kernel_rfl)
 ·exact aoZ iD.ok iH.ok (by kernel_rfl)
 ·exact aoZ iF.ok iI.ok (by kernel_rfl)
 ·exact aoZ fF.ok eZ.ok (by kernel_rfl)
 ·exact aoZ fP.ok fS.ok (by kernel_rfl)
 ·exact aoZ eU.ok eS.ok (by kernel_rfl)
@[reducible] def agT (n:Nat)(L:LN)(hL:L.length<=5040)(hB:H)(b0 S:Nat)(hb:hB.next=b0):Cls.aN NE where
 lt:=NE.lt
 enc:=NE.enc
 P:=NE.Pp n L hB b0 S
 B:=Cls.Bb hB b0 S
 f:=84
 b0:=b0
 S:=S
 swo:=⟨λx=>By.irrefl x.r,λx y z=>By.trans x.r y.r z.r,λx y z=>By.ntrans x.r y.r z.r⟩
 len _:=rfl
 one a:=by simp [NE.enc,Bt,a.one,show (aC (a.n:Int)).one=true from rfl]
 eqv a:=by simp [NE.enc,Bt,dE,aoW,a.eq]
 cmp h a b hb' pa pb:=by
  have fx:=ahA hb hb';obtain⟨ea,na⟩:=pa;obtain⟨eb,nb⟩:=pb;have:=RO n hL (na.go fx (W':=λ_=>False) λ_ _ h=>h.elim) (nb.go fx (W':=λ_=>False) λ_ _ h=>h.elim);unfold NE.enc;rw[ea,eb]
  exact this.mono λv h' ⟨e,f⟩=>⟨_,e,rfl,f⟩
 bfr h h' b f:=⟨mT b.1 f.next,λq h1 h2=>by rw[f.get q (iW h1 b.1)];exact b.2 q h1 h2⟩
 bS h h' b f:=⟨mT b.1 f.next,λq h1 h2=>by rw[f.get q (iW h1 b.1) h2];exact b.2 q h1 h2⟩
 bR h h' R b hR f:=⟨mT b.1 f.next,λq h1 h2=>by rw[f.get q (iW h1 b.1) (λe=>by have:q=R:=e;omega)];exact b.2 q h1 h2⟩
 bn h b:=b.1
 ρ:=apJ
 hT:=apG
 s1:=rfl
 s2:=rfl
 s3:=rfl
theorem IH {l:List NE}{N:Nat}(k:l.length=N){e:Array NE}(p:PermIn 0 N l.toArray e)(m:SortedIn NE.lt 0 N e):e.toList.Perm l/\e.toList.Pairwise (λa b=>NE.lt b a=false):=by
 obtain⟨n,u,q⟩:=p;have c:e.size=N:=by rw[n];simpa using k
 refine⟨?_,?_⟩
 ·have s:(e.extract 0 N).toList=e.toList:=by rw[←c];simp
  have o:(l.toArray.extract 0 N).toList=l:=by rw[←k];simp
  rwa [s,o] at q
 ·rw[JX]
  intro i j hi h d;have f:j<N:=by simpa [c] using h
  have:=m i j (iJ _) d f;have r:e[i]! =e.toList[i]:=by simp at hi;simp [hi]
  have t:e[j]! =e.toList[j]:=by simp at h;simp [h]
  rw[r,t] at this;exact this
theorem PA (n:Nat)(L:LN)(k:L.length<=5040)(h:H)(S:Nat)(l:List NE)(d:Kh)(f:l.length<60000)(m:h.get S=aZ (l.flatMap NE.enc))(r:S<h.next)(j: ∀a∈l,a.Pp n L h h.next S):
  Ev T 83 [.sl S 0 l.length d,.fn 84 [] []] h (λ_ h'=> ∃l':List NE,h'.get S=aZ (l'.flatMap NE.enc)/\l'.Perm l/\l'.Pairwise (λa b=>NE.lt b a=false)/\Fx (· =S) h h'):=by
 letI:=agT n L k h h.next S rfl
 have A:Cls.fD h S l.length l.toArray:=⟨m,by simp,r,rfl,⟨fM _,λ_ _ _=>rfl⟩,λi hi=>by
  have c:i<l.length:=by simpa using hi
  have:l.toArray[i]! =l[i]:=by simp [c]
  rw[this]
  exact j _ (zG c)⟩
 refine (Cls.zU h S l.length l.toArray d f A).mono ?_
 rintro _ h' ⟨e,q,p,s,F⟩
 obtain⟨o,t⟩:=IH rfl p s
 exact⟨e.toList,q.get,o,t,F⟩
end Go.Proofs.YtcdbmkidaecdiaaGreat
namespace Go.Proofs.YtcdbmkidaecdiaaGreat
open Go Go.Ay Go.Pm
set_option maxRecDepth 100000
structure Bm (n:Nat)(G:List Nat->Prop)(L:LN)(rs:LN):Prop where
 mem: ∀r,r∈rs↔xJ n G L r
 srt:rs.Pairwise λa b=>NI a b=true
theorem Bm.uniq {n:Nat}{G:List Nat->Prop}{L:LN}{rs c:LN}(a:Bm n G L rs)(b:Bm n G L c):rs=c:=by
 have nd: ∀{l:LN},(l.Pairwise λa b=>NI a b=true)->l.Nodup:=λh=>h.imp λ{a b} h e=>by
  rw[e,By.irrefl] at h;cases h
 have p:rs.Perm c:=(List.perm_ext_iff_of_nodup (nd a.srt) (nd b.srt)).2 λr=>(a.mem r).trans (b.mem r).symm
 exact p.eq_of_pairwise (λx y _ _ d f=>by have:=By.trans x y x d f;rw[By.irrefl] at this;cases this) a.srt b.srt
section
variable {n:Nat} {G:List Nat->Prop} {L:LN} {K:List Nat} {fs:LN} (hG:iX n G) (E:dW G L)
include hG E
theorem Sv (F:K.Perm (jW G L L.length))(z:(Pz L λx=>x=bL n)∈fs)(all: ∀r∈fs,xJ n G L r)(R: ∀r∈fs,∀k∈K,k∈r∨yR n G L r k∈fs)(M:List Nat)(c:xJ n G L M):M∈fs:=by
 have w: ∀(d:Nat) (N:List Nat),N∈fs->(∀x∈N,x∈M)->L.length<=N.length+d->M∈fs:=by
  intro d
  induction d with
  |zero=>
   intro N l u W;have i:=all N l
   have:N=M:=VD i.rk.asc c.rk.asc λx=>⟨u x,λf=>Jg λo=>by
    have:=List.Nodup.length_le_of_subset (List.nodup_cons.2 ⟨o,i.rk.asc.imp λh=>Nat.ne_of_lt h⟩) (l₂:=List.range L.length) λy A=>by
     rcases zH.1 A with rfl|A
     ·exact Gu.2 ((c.rk.mem y).1 f).1
     ·exact Gu.2 ((i.rk.mem y).1 A).1
    rw[List.length_cons,NM] at this
    omega⟩
   rw[←this];exact l
  |succ d ih=>
   intro N l u W;have i:=all N l
   by_cases h: ∃x,x∈M/\x∉N
   ·obtain⟨x,f,o⟩:=h
    have s:=((c.rk.mem x).1 f).1;obtain⟨k,hk,hR,g,m,e⟩:=Vo hG E s;have q:k∈K:=F.mem_iff.2 (kV.2 ⟨om,hR⟩)
    have p:k∉N:=λh=>o (by
     obtain⟨t,v,e2⟩:=i.nm _ _ ⟨k,h,rfl⟩ m;have:t=x:=yK E.nodup ((i.rk.mem t).1 v).1 s (e2.trans e)
     rw[←this];exact v)
    have B:RG L M (L.getD k []):=by
     have P:=lY hG E (show k<L.length by omega);have:=c.nm _ _ ⟨x,f,rfl⟩ (hG.inv m);rwa [←e,←nX P (hG.cU m) (hG.cU m).inv,fC (hG.cU m),mG P] at this
    rcases R N l k q with h|h
    ·exact absurd h p
    ·have gr:=Gw i ((kV.1 (F.mem_iff.1 q)).1) p
     refine ih _ h (λt v=>?_) om;obtain⟨Q,Y⟩:=(Bj t).1 v;exact (c.rk.mem t).2 ⟨Q,NC.le Y c.dN (λa h=>h.elim (λ⟨j,hj,e⟩=>⟨j,u j hj,e⟩) λe=>by rw[e];exact B) λa b J U=>c.nm a b J U⟩
   ·have:N=M:=VD i.rk.asc c.rk.asc λx=>⟨u x,λf=>Jg λo=>h ⟨x,f,o⟩⟩
    rw[←this];exact l
 refine w L.length _ z (λx f=>?_) om;obtain⟨O,Z⟩:=((Dy L _).mem x).1 f;exact (c.rk.mem x).2 ⟨O,by rw[Z];exact c.dN.one⟩
end
theorem acZ {W:Nat->Prop}{n:Nat}{L:LN}{h:H}: ∀{ps:List (V×V×V)} {rs:LN},aM (Nm W n L h) ps rs-> ∃l:List NE,l.flatMap NE.enc=zB n ps/\l.map NE.r=rs/\ ∀a∈l,a.n=n/\Nm W n L h a.p a.r
 | [], [],_=>⟨[],rfl,rfl,λa b=>by cases b⟩
 |p::ps,r::rs,⟨m,a⟩=>by
  obtain⟨l,c,f,d⟩:=acZ a;refine⟨⟨n,p,r,m.one,m.eq⟩::l,?_,by rw[List.map_cons,f],λa b=>?_⟩
  ·rw[List.flatMap_cons,c];rfl
  ·rcases zH.1 b with rfl|b
   ·exact⟨rfl,m⟩
   ·exact d a b
section
variable {n:Nat} {w:Bool} {c d:nE} {l:List nE} {Gc Gd:List Nat->Prop} {A C:LN}
theorem aiZ {x:Nat}{a:List Nat}(h:l.map (λe=>kI e.1 n 0)=a)(b:a[a.length- 1]? =some x):ajS n l=decide (x=1):=by
 have e:l.length=a.length:=by rw[←h,jV]
 unfold ajS;rw[e];rw[←h,Ol,jV,e] at b;split
 ·rename_i f;rw[f] at b;cases b
 ·rename_i e f
  rw[f] at b;cases b
  rfl
theorem amN (s:uC n w c l){k:Nat}(f:l[k]? =some d)(m:Mem n d Gd A)(g:iX n (Kf n w c d))(E:dW (Kf n w c d) A):l.length=k+1:=by
 have p:k<l.length:=(Ax.1 f).1
 by_cases h:k+1<l.length
 ·have j:=dD h
  obtain⟨i,o⟩:=s.st k _ _ f j;obtain⟨a,b⟩:=(i.congr (To E m.el)).uniq m.isc;exact absurd (Prod.ext a b) o
 ·omega
end
theorem aoF:Cq 4 MQ (if true then DH else MQ) MQ [[], [(1,1)], [(2,1)], [(1,12)], [(2,13)], [(1,18)], [(1,6)], [(2,18)], [(1,19)], [(2,6)], [(1,13)], [(1,7)]]=true:=by decide+kernel
theorem akQ {c:nE}{l:List nE}(j:bC 4 (bX 4 (· ∈DD)) c.1 c.2)(s:uC 4 true c l):l.map (λe=>kI e.1 4 0)= [24,12]:=by
 have a:Mem 4 c _ DH:=⟨bX.dN Wz,j,Am⟩
 have f:=s.hd;obtain⟨k,b,h⟩:=vZ s a f a agW (by decide);have m:=Ua s a b h aoF;refine List.ext_getElem? λi=>?_
 rw[Ol]
 match i with
 |0=>rw[f];exact congrArg some a.sz
 |1=>rw[b];exact congrArg some h.sz
 |i+2=>rw[List.getElem?_eq_none om];rfl
theorem ajO {c:nE}{l:List nE}(b:bC 5 (bX 5 (· ∈HH)) c.1 c.2)(s:uC 5 false c l):l.map (λe=>kI e.1 5 0)= [60]:=by
 have a:=bX.dN HN
 have k:Mem 5 c _ LA5:=⟨a,b,tT⟩
 have g:iX 5 (Kf 5 false c c):=Ad.dN a a b b
 have E:dW (Kf 5 false c c) LA5:=by
  have e:Kf 5 false c c=bX 5 (· ∈HH):=funext λx=>propext ⟨λh=>Ad.self a b h,λh=>bX.le g (λy f=>?_) h⟩
  ·rw[e];exact tT
  ·have o:jE (LA5.getD 3 []) (LA5.getD 24 [])= [1,2,0,3,4]:=by decide+kernel
   have m:jE (LA5.getD 2 []) (LA5.getD 57 [])= [1,2,3,4,0]:=by decide+kernel
   rcases zH.1 f with rfl|f
   ·rw[←o];exact Ad.all a a b b (oS tT (by decide)) (oS tT (by decide))
   ·rw[List.mem_singleton.1 f,←m];exact Ad.all a a b b (oS tT (by decide)) (oS tT (by decide))
 have j:=s.hd;have p:=amN s j k g E;refine List.ext_getElem? λi=>?_
 rw[Ol]
 match i with
 |0=>rw[j];exact congrArg some k.sz
 |i+1=>rw[List.getElem?_eq_none om];rfl
def NaB (n:Nat)(L:LN)(Rp Cg:List Nat)(Ns:LN):Bool:=
 Ns.all (λN=>N==List.range L.length||FG n L N)&&Ns.contains [0]&&decide (Ns.Pairwise λa b=>NI a b=true)&&(List.range L.length).all (λi=>i==0||Rp.any λr=>decide (r<L.length)&&(L.map (cW (L.getD r []))).contains (L.getD i []))&&Cg.all (λg=>decide (g<L.length))&&
  Ns.all λN=>N.contains 0&&Rp.all λr=>N.contains r||Ns.any λN'=>(N.all λi=>N'.contains i)&&N'.contains r&&(pmL L N').all λx=>(Yy (pmL L N++Cg.map λg=>cW (L.getD r []) (L.getD g [])) L.length 0 [bL n]).contains x
section
variable {n:Nat} {G:List Nat->Prop} {L:LN} {Ns rs:LN} (hG:iX n G) (E:dW G L)
include hG E
theorem NaB.ok {Rp Cg:List Nat}(Z:L.getD 0 []=bL n)(h:NaB n L Rp Cg Ns=true):Bm n G L Ns:=by
 unfold NaB at h;simp only[vN,Kv,List.any_eq_true,Bool.or_eq_true,Qf,List.contains_iff_mem,Nv,Gu,beq_iff_eq] at h;obtain⟨⟨⟨⟨⟨hN,Q⟩,hs⟩,J⟩,hC⟩,O⟩:=h;have all: ∀N∈Ns,xJ n G L N:=λN u=>(hN N u).elim (λe=>by rw[e];exact RF hG E) (FG.ok hG E)
 have k0:=all _ Q;refine⟨λr=>⟨all r,Sv hG E (List.Perm.refl _) (by rw[DT k0 Z];exact Q) all (λN u k hk=>?_) r⟩,hs⟩;have y:=all N u;have i:=(kV.1 hk).1
 by_cases p:k∈N
 ·exact .inl p
 refine .inr ?_;obtain⟨Y,hr⟩:=O N u;rcases J k i with e|⟨r,B,K,F⟩
 ·exact absurd (by rw[e];exact Y) p
 obtain⟨g,m,v⟩:=uF.1 F;have f:=(E.mem g).1 m;have P:=lY hG E K;rcases hr r B with h|⟨R,s,⟨h3,h4⟩,h5⟩
 ·exact absurd (by
   obtain⟨t,o,e2⟩:=y.nm _ _ ⟨r,h,rfl⟩ f;have:t=k:=yK E.nodup ((y.rk.mem t).1 o).1 i (e2.trans v)
   rw[←this];exact o) p
 have q:=all R s
 have e:yR n G L N k=R:=by
  refine VD (akE hG E y i).rk.asc q.rk.asc λt=>⟨λo=>?_,λo=>?_⟩
  ·obtain⟨h6,h7⟩:=(Bj t).1 o
   exact (q.rk.mem t).2 ⟨h6,NC.le h7 q.dN (λa h=>h.elim (λ⟨j,hj,e⟩=>⟨j,h3 j hj,e⟩) λe=>by rw[e,←v];exact q.nm _ _ ⟨r,h4,rfl⟩ f) λa b W hb=>q.nm a b W hb⟩
  ·refine (Bj t).2 ⟨((q.rk.mem t).1 o).1,?_⟩
   have U:=Lb.dN hG y.le (oS E i)
   have rx:Lb n G (RG L N) (L.getD k []) (L.getD r []):=by
    have:=NC.cj (n:=n) (NC.of (.inr rfl):Lb n G (RG L N) (L.getD k []) (L.getD k [])) (hG.inv f);rw[←v,←nX P (hG.cU f) (hG.cU f).inv,fC (hG.cU f),mG P] at this;rwa [←v]
   refine Ma (P:=Lb n G (RG L N) (L.getD k [])) (λx z g m=>U.mul z ?_) L.length 0 [bL n] (λx z=>by rw[List.mem_singleton.1 z];exact U.one) _ (h5 _ ⟨t,o,rfl⟩);rcases pH.1 m with m|m
   ·exact NC.of (.inl (Nv.1 m))
   ·obtain⟨c,J,rfl⟩:=uF.1 m
    exact NC.cj rx (oS E (hC c J))
 rw[e];exact s
end
theorem anP: ∀{l:LN} {x:List Nat},x∈l->kP x (NH l)=false
 |a::l,x,h=>by
  have k: ∀(l:LN) (a:List Nat),kP a (l.foldl (λm x=>if kP x m then x else m) a)=false/\ ∀x∈l,kP x (l.foldl (λm x=>if kP x m then x else m) a)=false:=by
   intro l
   induction l with
   |nil=>exact λa=>⟨Oc a,λx h=>by cases h⟩
   |cons b l ih=>
    intro a;rw[List.foldl_cons]
    cases hb:kP b a with
    |true=>
     rw[bF rfl];obtain⟨f,i⟩:=ih b;refine⟨?_,λx h=>(zH.1 h).elim (λe=>by rw[e];exact f) (i x)⟩
     cases h3:kP a (l.foldl (λm x=>if kP x m then x else m) b) with
     |false=>rfl
     |true=>rw[uD hb h3] at f;cases f
    |false=>
     rw[bI (by simp)];obtain⟨f,i⟩:=ih a;refine⟨f,λx h=>(zH.1 h).elim (λe=>?_) (i x)⟩;rw[e]
     cases h3:kP b (l.foldl (λm x=>if kP x m then x else m) a) with
     |false=>rfl
     |true=>
      have j:kP a b=true∨a=b:=by
       cases h5:kP a b with
       |true=>exact .inl rfl
       |false=>exact .inr (Hw h5 hb)
      rcases j with j|j
      ·rw[uD j h3] at f;cases f
      ·rw[←j,f] at h3;cases h3
  show kP x (l.foldl _ a)=false;obtain⟨f,i⟩:=k l a;exact (zH.1 h).elim (λe=>by rw[e];exact f) (i x)
theorem aoD:NaB 4 DH [1,3,7,9] [0,2,8] [[0], [0,7,16,23], [0,3,4,7,8,11,12,15,16,19,20,23],List.range 24]=true:=by decide+kernel
theorem anZ:NaB 4 qB [1,2,3] [0] [[0], [0,1], [0,2], [0,3],List.range 4]=true:=by decide+kernel
theorem anV:NaB 4 ZQ [1,2,3,5] [0,3] [[0], [0,5], [0,1,4,5], [0,2,5,7], [0,3,5,6],List.range 8]=true:=by decide+kernel
theorem anU:NaB 5 LA5 [1,3,16,17] [0,1,30] [[0],List.range 60]=true:=by decide+kernel
def agX (n:Nat)(G:List Nat->Prop)(L:LN)(h:H)(v:V)(h':H):Prop:=
 ((∃vl ls rs,v= .tup [vl,aC 0]/\Bm n G L rs/\rs.length<=200/\SV h' vl 3 (Kr n ls)/\aM (AV (λ_=>False) n L h') ls rs)∨
  (v= .tup [.aE,aC 5]/\ ∃fs:LN,fs.Nodup/\(∀r∈fs,xJ n G L r)/\200<fs.length))/\Fr h h'
structure NwJ (n:Nat)(G:List Nat->Prop)(L:LN)(K:List Nat)(b Q:Nat)(h0 hh:H)(fs:LN)(i j:Nat):Prop where
 ex: ∃vf,hh.get Q=aZ [vf]/\NmL (λq=>q=Q) n L b hh vf fs/\ ¬dO vf Q
 fr:Fr h0 hh
 nx:Q<hh.next
 bn:b<=hh.next
 nd:fs.Nodup
 all: ∀r∈fs,xJ n G L r
 bot:(Pz L λx=>x=bL n)∈fs
 il:i<fs.length∨(i=fs.length/\j=0)
 cl: ∀t k,(t<i∨t=i/\k∈K.take j)->t<fs.length->k∈K->k∈fs.getD t []∨yR n G L (fs.getD t []) k∈fs
theorem XK {l:LN}{a:List Nat}(h:l.Nodup):(tF l a).Nodup:=by
 unfold tF;split
 ·exact h
 ·rename_i c
  rw[List.nodup_append];exact⟨h,List.pairwise_singleton _ _,λx b y d e=>c (by rw[←List.mem_singleton.1 d,←e];exact b)⟩
theorem LQ {l:LN}{a:List Nat}{t:Nat}(h:t<l.length):(tF l a).getD t []=l.getD t []:=by
 unfold tF;split
 ·rfl
 ·rw[WN,WN,Dv h]
theorem TG (l:LN)(a:List Nat):l.length<=(tF l a).length/\(tF l a).length<=l.length+1:=by
 unfold tF;split
 ·omega
 ·rw[jZ];exact⟨Nat.le_add_right _ _,fM _⟩
theorem Cf {W0:Nat->Prop}(vc:V)(n:Nat)(O:LN)(R:jI)(G:List Nat->Prop)(h:H)(gc:GC W0 h vc n O R G):
  Ev T 26 [vc] h (λv h'=> ∃L,cZ O R n 0 (bL n)=L/\agX n G L h v h'):=by
 obtain⟨vO,vR,rfl,c9,f0⟩:=gc.shape
 refine cV yS rfl ?_
 obtain⟨A,hA⟩:=exI h.next
 obtain⟨o,e1,n1,g1,q1,f1⟩:=dF hA [aC n,vO,vR]
 simp(disch:=omega)only[go_sem,yS,aD,bM h (v:= aC n) (u:=vO) (w:=vR) rfl c9 f0,hA,e1,aI g1]
 refine (FX _ n O R G o (gc.mono f1)).mono ?_
 rintro _ z ⟨T0,L,K,rfl,zC,f2⟩
 obtain⟨ll,E,hG,l0,n0,n7⟩:=zC.few
 have ik:=zC.isK
 have eL:=zC.hL
 have F2:=f1.trans f2
 simp(disch:=omega)only[go_sem]
 refine aW (λhc=>(hc rfl).elim) (λ_=>?_)
 simp(disch:=omega)only[go_sem]
 refine (EU T0 n O R G L K z zC).mono ?_
 rintro _ h3 ⟨p0,rfl,b7,f3⟩
 obtain⟨o1,o2,o3⟩:=b7.one
 obtain⟨N,i2⟩:=exI h3.next
 obtain⟨h4,e4,n4,g4,q4,f4⟩:=dF i2 (Bt n p0)
 obtain⟨h5,e5,n5,g5,q5,f5⟩:=dF n4 [.sl N 0 1 (.kn 1)]
 have bx:Cv h4 (.agg [.sl N 0 1 (.kn 1)])=some (.ptr (N+1) 0,h5):=by rw[←e5,←n4];rfl
 simp(disch:=omega)only[go_sem,WD h3 (a:= aC n) (b:=p0.1) (c:=p0.2.1) (d:=p0.2.2) rfl o1 o2 o3,i2,e4,show rO [.aE] [(0,1,.sl N 0 1 (.kn 1))]=some (.agg [.sl N 0 1 (.kn 1)]) from rfl,bx]
 have m0:=f3.next
 have j6:Fr z h5:=⟨om,λq hq=>by rw[q5 q om,q4 q om,f3.get q hq]⟩
 have c4:h5.get N=aZ (Bt n p0):=by rw[q5 _ om];exact g4
 have h0:Nm (λq=>q=N+1∨dO (.sl N 0 1 (.kn 1)) q) n L h5 p0 (Pz L λx=>x=bL n):=
  ((b7.go (Fx.refl _ _) (W':=λq=>q=N+1∨dO (.sl N 0 1 (.kn 1)) q) λq o z=>by
   rcases z with e|⟨_,_,_,e⟩
   ·omega
   ·cases e;omega).mono f4).mono f5
 have J0:NwJ n G L K N (N+1) z h5 [Pz L λx=>x=bL n] 0 0:=by
  refine⟨⟨_,g5,⟨[p0],.inr ⟨N,1,_, [],rfl,rfl,.inr ⟨rfl,rfl⟩,fM _,om,c4⟩,⟨h0,trivial⟩,λid a5 m c e=>by cases e;exact c4⟩,λ⟨_,_,_,e⟩=>by cases e⟩,j6,om,om,List.pairwise_singleton _ _,λr hr=>by rw[List.mem_singleton.1 hr];exact WA hG E,List.mem_singleton.2 rfl,.inl (by show 0<1;omega),λt k o=>?_⟩;rcases o with o|⟨_,o⟩
  ·omega
  ·cases o
 obtain⟨Q,hQ⟩:=exI (N+1)
 rw[hQ] at J0 ⊢
 clear h0 b7 c4 bx
 obtain⟨lO,lR,M,lr,gT,gM,_,f6,nM⟩:=zC.ex
 have j8:=zC.nx
 have j3: ∀h',Fr z h'->h'.get T0=aZ [aC n,lO,lR,.mp M,lr]:=λh' f=>by rw[f.get T0 j8];exact gT
 have d7:=f6.lens
 simp only[jV] at d7
 have kl:K.length<=L.length:=by
  have:=List.Nodup.length_le_of_subset (l₂:=List.range L.length) ik.nd λx hx=>Gu.2 (ik.lt hx)
  rwa [NM] at this
 refine aH (λU s hh=> ∃(i:Nat) (fs:LN),(∃g:Nat->V,s= [g 0,g 1,g 2,g 3,.ptr T0 0,g 5,.ptr Q 0,aC i,g 8,g 9,g 10,g 11,g 12,g 13,g 14,g 15,g 16,g 17,g 18,g 19,g 20,g 21,g 22])/\NwJ n G L K N Q z hh fs i 0/\fs.length<=200/\i<=fs.length/\U=201-i) 201
  ⟨0,_,aB rfl,J0,by show 1<=200;omega,iJ _,rfl⟩ ?_
 clear J0
 rintro U s hh ⟨i,fs,⟨g,rfl⟩,J,l2,hi,rfl⟩
 obtain⟨vf,gQ,ml,nb⟩:=J.ex
 obtain⟨ps,ow,al,_⟩:=ml.ex
 have b1:=aM.length al
 have Y:=zP ow.sv
 rw[b1] at Y
 have F:=J.fr
 by_cases i1:(i:Int)<(fs.length:Int)
 case neg=>
  have d1:=bH i1;obtain rfl:i=fs.length:=om
  obtain⟨d0,b8,b0,j9⟩:=ml.ex;have b5:=aM.length b0;have k2:=HJ J.bot
  have a4: ∀M,xJ n G L M->M∈fs:=Sv hG E ik.perm J.bot J.all λr hr k hk=>by
   obtain⟨t,ht,rfl⟩:=zF.1 hr;have:=J.cl t k (.inl ht) ht hk;rwa [List.getD,dD ht] at this
  rcases b8 with ⟨_,e⟩|⟨S,m,a1,k3,rfl,e1,_,e3,e4,_⟩
  ·have:=congrArg List.length e
   rw[mH] at this;have:d0.length*4=0:=this;omega
  have gS:=j9 _ _ _ _ rfl;have SQ:S≠Q:=λe=>nb (by rw[e];exact⟨_,_,_,rfl⟩)
  obtain⟨l,l1,l3,l4⟩:=acZ b0;have l7:l.length=fs.length:=by rw[←l3,jV]
  have em:m=l.length:=by rw[mH] at e1;omega
  subst em;simp(disch:=omega)only[go_sem,H.aF gQ,Y,d1];refine (PA n L ll hh S l a1 om (by rw[l1];exact gS) e4 λa ha=>⟨(l4 a ha).1,(l4 a ha).2.go (Fx.refl _ _) λq o z=>?_⟩).mono ?_
  ·rcases z with z|z
   ·omega
   ·exact .inr (by rw[z];exact⟨_,_,_,rfl⟩)
  rintro _ P ⟨l',i8,pm,i5,F3⟩;have l6:=F3.next;have jn:=J.nx;have k0:P.get Q=aZ [.sl S 0 l.length a1]:=by rw[F3.get Q jn λe=>SQ e.symm];exact gQ
  have Z: ∀a∈l',a.n=n/\Nm (λ_=>False) n L P a.p a.r:=λa ha=>by
   obtain⟨x,y⟩:=l4 a (pm.mem_iff.1 ha);exact⟨x,y.go (Fx.wide F3 λq (e:q=S)=> .inr (by rw[e];exact⟨_,_,_,rfl⟩)) λ_ _ h=>h.elim⟩
  have b2:l'.length=l.length:=pm.length_eq
  have i7:Bm n G L (l'.map NE.r):=by
   have pr:(l'.map NE.r).Perm fs:=by rw[←l3];exact pm.map _
   refine⟨λr=>⟨λhr=>J.all r (pr.mem_iff.1 hr),λhr=>pr.mem_iff.2 (a4 r hr)⟩,?_⟩;have nd:(l'.map NE.r).Nodup:=pr.nodup_iff.2 J.nd;refine List.pairwise_map.2 ((List.pairwise_and_iff.2 ⟨i5,List.pairwise_map.1 nd⟩).imp λ{a b} h=>?_);obtain⟨o,z⟩:=h;have o:NI b.r a.r=false:=o
   cases h3:NI a.r b.r with
   |true=>rfl
   |false=>exact absurd (abK h3 o) z
  have i6:SV P (.sl S 0 l.length a1) 4 (l'.flatMap NE.enc):=SV.all (by rw[agV (k:=4) (f:=NE.enc) (λ_=>rfl),b2]) om i8 _
  have j4:Fr z P:=⟨by have:=F.next;omega,λq hq=>by rw[F3.get q (by have:=F.next;omega) om];exact F.get q hq⟩
  simp(disch:=omega)only[go_sem,H.aF k0,show bT (.sl S 0 l.length a1)=some (aC (l.length:Int)) from rfl];refine aH (λU s h'=> ∃(j:Nat) (w:V) (ls:List (V×V)),(∃g:Nat->V,s= [g 0,g 1,g 2,g 3,g 4,g 5,g 6,g 7,g 8,w,g 10,g 11,g 12,g 13,g 14,g 15,g 16,g 17,g 18,.sl S 0 l.length a1,aC (l.length:Int),aC j,g 22])/\j<=l.length/\cY h' w 3 (Kr n ls) P.next/\aM (AV (λ_=>False) n L P) ls ((l'.map NE.r).take j)/\Fr P h'/\U=l.length-j) l.length
   ⟨0,.aE, [],aB rfl,iJ _,cY.aE _ _ _,trivial,Fr.refl _,rfl⟩ ?_
  rintro U s b9 ⟨j,w,ls,⟨g,rfl⟩,hj,c1,all,F4,rfl⟩;have i9:=aM.length all;rw[Fj,jV,Nat.min_eq_left om] at i9
  by_cases d9:(j:Int)<(l.length:Int)
  case neg=>
   have d2:=bH d9;obtain rfl:j=l.length:=om
   rw[Tn (by rw[jV];omega)] at all;simp(disch:=omega)only[go_sem,d2];exact⟨L,eL,.inl ⟨w,ls,_,rfl,i7,by rw[jV];omega,c1.sv,aM.mono (λ_ _ x=>AV.go x (Fx.of F4) λ_ _ h=>h) all⟩,F2.trans (j4.trans F4)⟩
  have d2:=bP d9;have c5:j<l'.length:=om
  obtain⟨ij,oj,g3,rj,_⟩:=SV.rec (k:=4) (f:=NE.enc) om (λ_=>rfl) (i6.mono F4) c5;rw[b2] at g3;obtain⟨en,mj⟩:=Z _ (zG c5);have ej:(l'.map NE.r).take (j+1)=(l'.map NE.r).take j++ [l'[j].r]:=by rw[List.take_succ_eq_append_getElem (by rw[jV];exact c5),List.getElem_map]
  generalize l'[j]=a at rj en mj ej;have rj:b9.row ij (oj+j*4) 4=some [aC n,a.p.1,a.p.2.1,a.p.2.2]:=by rw[rj,←en];rfl
  obtain⟨o1,o2,o3⟩:=a.one;obtain⟨C,hC⟩:=exI b9.next;obtain⟨k5,e5,n5,g5,q5,f5⟩:=dF hC [aC 0,.aE,.aE,.aE];obtain⟨k6,e6,n6,g6,q6⟩:=pJ k5 C (Bt n a.p);obtain⟨k7,e7,l8,g7,q7,f7⟩:=dF (h:=k6) (n6.trans n5) [aC n,a.p.1,a.p.2.1]
  have c6:Fr b9 k7:=⟨om,λq hq=>by rw[q7 q om,q6 q om,q5 q om]⟩
  have l9:=F4.next;obtain⟨k8,a8,p8⟩:=((c1.fr c6).le (iJ _)).push (bytes:=56) (SV.all (sz:=3) (len:=1) (vs:= [aC n,a.p.1,a.p.2.1]) rfl om g7 (.kn 1)) (n:=ls.length) (m:=1) (lC n ls) rfl om om om;have n8:=p8.next;have j7: ∀{hh:H} {id:Nat} {a b c d:V},hh.get id=aZ [a,b,c,d]->hh.row id 0 3=some [a,b,c]:=λhg=>by simp [H.row,hg,sub]
  simp(disch:=omega)only[go_sem,d2,g3.ixa,rj,hC,e5,kL k5 C 0 (a:= aC n) (b:=a.p.1) (c:=a.p.2.1) (d:=a.p.2.2) rfl o1 o2 o3,g5,jS,e6,j7 g6,Vj k6 (d:=(n:Int)) o1 o2,n6,n5,e7,a8];rw[eJ j];refine⟨l.length-(j+1),om,j+1,_,ls++ [(a.p.1,a.p.2.1)],aB rfl,om,by rw[Tt];exact p8.own (b:=P.next) (lC n ls) rfl om,by rw[ej];exact aM.append all ⟨mj.ch,trivial⟩,⟨om,λq hq=>?_⟩,rfl⟩;rw[p8.old q om λid a5 m c e e2=>by have:=(c1.in _ _ _ _ e).2.1;omega,c6.get q om];exact F4.get q hq
 have d1:=bP i1
 have j1:i<fs.length:=om
 simp(disch:=omega)only[go_sem,H.aF gQ,Y,d1,H.aF (j3 hh F),d7]
 refine aH (λU s h'=> ∃(j:Nat) (c2:LN),(∃g:Nat->V,s= [g 0,g 1,g 2,g 3,.ptr T0 0,g 5,.ptr Q 0,aC i,g 8,g 9,g 10,g 11,g 12,lr,aC (K.length:Int),aC j,g 16,g 17,g 18,g 19,g 20,g 21,g 22])/\j<=K.length/\NwJ n G L K N Q z h' c2 i j/\i<c2.length/\c2.length<=200/\U=K.length-j) K.length
  ⟨0,fs,aB rfl,iJ _,J,j1,l2,rfl⟩ ?_
 rintro U s h7 ⟨j,W,⟨g,rfl⟩,k9,B,a0,e0,rfl⟩
 clear J al ow ml gQ b1 Y
 obtain⟨vf,gQ,ml,nb⟩:=B.ex
 obtain⟨ps,ow,al,_⟩:=ml.ex
 have b1:=aM.length al
 have F7:=B.fr
 by_cases c8:(j:Int)<(K.length:Int)
 case neg=>
  have d2:=bH c8;obtain rfl:j=K.length:=om
  simp(disch:=omega)only[go_sem,d2];rw[eJ i];refine⟨201-(i+1),om,i+1,W,aB rfl,⟨B.ex,B.fr,B.nx,B.bn,B.nd,B.all,B.bot,?_,λt k o z h3=>B.cl t k (o.elim (λh=>?_) λh=>?_) z h3⟩,e0,om,rfl⟩
  ·by_cases e:i+1<W.length
   ·exact .inl e
   ·exact .inr ⟨om,rfl⟩
  ·by_cases e:t=i
   ·exact .inr ⟨e,by rw[List.take_length];exact h3⟩
   ·exact .inl om
  ·cases h.2
 have d2:=bP c8
 have a2:j<K.length:=om
 obtain⟨ia,a5,ws,sh,g0,j5,hc,g8⟩:=f6.open
 simp only[jV] at sh g0 j5 hc
 have ci:h7.cell ia (a5+j)=some (ws.getD j .undef):=by rw[F7.cell (g0 om),hc j a2]
 have s0:=(Ml g8 (i:=j) (by rw[jV];exact a2)).mono F7
 have eK:(K.map λr=>L.getD r []).getD j []=L.getD K[j] []:=by rw[List.getD,Ol,dD a2];rfl
 rw[eK] at s0
 have i3:=zG a2
 have a7:=ik.lt i3
 have c0: ∀k,k∈K.take (j+1)->k∈K.take j∨k=K[j]:=λk hk=>by
  rw[List.take_succ_eq_append_getElem a2] at hk;exact (pH.1 hk).imp id List.mem_singleton.1
 generalize ws.getD j .undef=vx at ci s0
 generalize K[j]=k at s0 i3 a7 c0
 have c7:i<ps.length:=om
 obtain⟨is,os,g2,i0,i4⟩:=Lu ow.sv c7
 have mi:=aM.get al i c7 om
 have er:W.getD i []=W[i]:=by rw[List.getD,dD a0];rfl
 have kr:=B.all _ (zG a0)
 have a6:=B.cl
 generalize W[i]=r at mi er kr
 have Y:=zP ow.sv
 rw[b1] at Y
 simp(disch:=omega)only[go_sem,d2,sh.ixa,ci,H.aF gQ,g2.ixa,i0]
 refine (GQ T0 ps[i] vx n O R G L K r k h7 (zC.mono F7) mi a7 s0).mono ?_
 rintro _ h8 ⟨rfl,f8⟩
 have F8:=F7.trans f8
 have a9:h8.get Q=aZ [vf]:=by rw[f8.get Q B.nx];exact gQ
 have n8:=f8.next
 have jn:=B.nx
 have jb:=B.bn
 by_cases b6:k∈r
 ·have d3:=bP b6
  have d4:decide ((200:Int)<(W.length:Int))=false:=bH om
  simp(disch:=omega)only[go_sem,d3,Bool.not_true,H.aF a9,Y,d4]
  rw[eJ j]
  refine⟨K.length-(j+1),om,j+1,W,aB rfl,om,⟨⟨vf,a9,ml.mono f8,nb⟩,F8,om,om,B.nd,B.all,B.bot,.inl a0,λt U o z h3=>?_⟩,a0,e0,rfl⟩
  rcases o with o|⟨o,h4⟩
  ·exact a6 t U (.inl o) z h3
  ·rcases c0 U h4 with h4|rfl
   ·exact a6 t U (.inr ⟨o,h4⟩) z h3
   ·rw[o,er];exact .inl b6
 have d3:=bH b6
 have e8:h8.row is (os+i*4) 4=some [aC n,ps[i].1,ps[i].2.1,ps[i].2.2]:=by rw[DL f8 i4];exact i0
 simp(disch:=omega)only[go_sem,d3,Bool.not_false,H.aF a9,g2.ixa,e8]
 refine (Xn T0 ps[i] vx n O R G L K r k h8 (zC.mono F8) (mi.mono f8) a7 (s0.mono f8)).mono ?_
 rintro _ h9 ⟨q,rfl,nq,f9⟩
 have F9:=F8.trans f9
 have n9:=f9.next
 have j0:h9.get Q=aZ [vf]:=by rw[f9.get Q om];exact a9
 have d6: ∀q',dO vf q'->q'<h7.next/\N<=q':=λq' ⟨a5,m,c,e⟩=>by have:=ow.in _ _ _ _ e;omega
 have k1:Nm (λq=>q=Q∨dO vf q) n L h9 q (yR n G L r k):=nq.go (Fx.refl _ _) λq' _ h=>by
  rcases h with h|h
  ·show q'<h8.next
   omega
  ·have:=d6 q' h
   show q'<h8.next;omega
 simp(disch:=omega)only[go_sem]
 refine (FQ n L N Q vf W q _ h9 ((ml.mono f8).mono f9) om k1 j0 om nb rfl ll om).mono ?_
 rintro _ d5 ⟨rfl,j2,c3,e9,b4,d8⟩
 have k4:=b4.next
 obtain⟨d0,b8,b0,_⟩:=e9.ex
 have b5:=aM.length b0
 have a3:=zP b8.sv
 rw[b5] at a3
 have ln:=TG W (yR n G L r k)
 have l5:z.next<=N:=om
 have h6:Fr z d5:=⟨by have:=F9.next;omega,λq' hq=>by
  rw[b4.get q' (by have:=F9.next;omega) λh=>h.elim (λe=>om) λh=>by have:=d6 q' h;omega]
  exact F9.get q' hq⟩
 have Z: ∀r'∈tF W (yR n G L r k),xJ n G L r':=λr' hr=>(wF.1 hr).elim (B.all r') λe=>by rw[e];exact akE hG E kr a7
 have g9:NwJ n G L K N Q z d5 (tF W (yR n G L r k)) i (j+1):=by
  refine⟨⟨j2,c3,e9,λh=>(d8 Q h).elim nb λh=>om⟩,h6,om,om,XK B.nd,Z,wF.2 (.inl B.bot),.inl om,λt U o z h3=>?_⟩
  by_cases ht:t<W.length
  ·rw[LQ ht]
   rcases o with o|⟨o,h4⟩
   ·exact (a6 t U (.inl o) ht h3).imp id λh=>wF.2 (.inl h)
   ·rcases c0 U h4 with h4|rfl
    ·exact (a6 t U (.inr ⟨o,h4⟩) ht h3).imp id λh=>wF.2 (.inl h)
    ·rw[o,er];exact .inr (wF.2 (.inr rfl))
  ·rcases o with o|⟨o,h4⟩<;>omega
 by_cases b3:(200:Int)<((tF W (yR n G L r k)).length:Int)
 ·have d4:decide ((200:Int)<((tF W (yR n G L r k)).length:Int))=true:=bP b3
  simp(disch:=omega)only[go_sem,H.aF c3,a3,d4]
  exact⟨L,eL,.inr ⟨rfl,_,g9.nd,Z,om⟩,F2.trans h6⟩
 ·have d4:decide ((200:Int)<((tF W (yR n G L r k)).length:Int))=false:=bH b3
  simp(disch:=omega)only[go_sem,H.aF c3,a3,d4]
  rw[eJ j]
  exact⟨K.length-(j+1),om,j+1,_,aB rfl,om,g9,om,om,rfl⟩
theorem anR {K:List Nat}{rs:LN}(s:Ky 4 (bX 4 (· ∈Ij)) qB K rs)(f:Cm 4 (bX 4 (· ∈Ij)) qB K):rs= [[0], [0,1],List.range 4]:=by
 obtain⟨i,o,q,e,a⟩:=VC s f;have m:=bX.dN Su;have E:=Ah;have r:xJ 4 (bX 4 (· ∈Ij)) qB [0]:=FG.ok m E (by decide+kernel);have d:1∈K:=f.perm.mem_iff.2 (by rw[Za E];decide+kernel);have l:=(acU (i:=1) om (by decide)).1
 have n: [0,1]∈IN (XC 4 (bX 4 (· ∈Ij)) qB [0] K):=by
  refine CH.2 ⟨Ft.2 ⟨1,d,by decide,l.symm⟩,?_⟩;rw[Bool.not_eq_true'];refine List.any_eq_false.2 λb t=>?_
  obtain⟨j,p,c,rfl⟩:=Ft.1 t;have:=(Gw r (f.lt p) c).2.2;have:1<(yR 4 (bX 4 (· ∈Ij)) qB [0] j).length:=this;rw[vN,Qf];exact λh=>by have:_<2:=h.1;omega
 have k:=anP n;have a:NH (IN (XC 4 (bX 4 (· ∈Ij)) qB [0] K))= [0,i]:=a;rw[a] at k;have: ∀i,i<4->i∉ [0]->kP [0,1] [0,i]=false->i=1:=by decide
 obtain rfl:=this i o q k;exact e
theorem aiR {W:Nat->Prop}{n:Nat}{G:List Nat->Prop}{L:LN}{h:H}(E:dW G L): ∀{ls:List (V×V)} {rs:LN},aM (AV W n L h) ls rs->(∀r∈rs,xJ n G L r)-> ∃l:List nE,aM (λp (e:nE)=> ∃G,GC W h (.agg [aC n,p.1,p.2]) n e.1 e.2 G) ls l/\l.map (λe=>kI e.1 n 0)=rs.map List.length
 | [], [],_,_=>⟨[],trivial,rfl⟩
 |p::ls,r::rs,⟨⟨O,R,g⟩,a⟩,hk=>by
  obtain⟨l,b,d⟩:=aiR E a λr c=>hk r (Cu _ c)
  have k:=hk r Ab;exact⟨(O,R)::l,⟨⟨_,g⟩,b⟩,by rw[List.map_cons,List.map_cons,d,k.rk.len k.dN g.isc E k.le]⟩
theorem Ra {n:Nat}{G:List Nat->Prop}{L:LN}{c:LN}{h h':H}{v:V}(a:Bm n G L c)(l:c.length<=200)(r:agX n G L h v h'):(∃vl ls,v= .tup [vl,aC 0]/\SV h' vl 3 (Kr n ls)/\aM (AV (λ_=>False) n L h') ls c)/\Fr h h':=by
 obtain⟨r,f⟩:=r;refine⟨?_,f⟩;rcases r with ⟨vl,ls,j,e,b,_,s,d⟩|⟨_,m,nd,k,o⟩
 ·obtain rfl:=a.uniq b
  exact⟨vl,ls,e,s,d⟩
 ·have:=List.Nodup.length_le_of_subset nd λr i=>(a.mem r).2 (k r i)
  omega
theorem alR {l:List nE}{n:Nat}{w:List Nat}(h:l.map (λe=>kI e.1 n 0)=w)(a:w.length<=6000):l.length<=6000:=by
 rw[←h,jV] at a;exact a
theorem alY (h:H)(x y:Int):lQ h 1 [aC 0] 2 [(0,1,aC x),(1,1,aC y)]=some (.sl h.next 0 2 (.kn 2),h.new (.cells false (ints [x,y]))):=rfl
theorem anM (h:H)(x:Int):lQ h 1 [aC 0] 1 [(0,1,aC x)]=some (.sl h.next 0 1 (.kn 1),h.new (.cells false (ints [x]))):=rfl
theorem akT (h:H):Ev T 6 [] h (λv h'=>v= .bool true/\Fr h h'):=by
 refine cV rK rfl ?_;simp(disch:=omega)only[go_sem,rK,aD];refine (Ke h).mono ?_;rintro _ h1 ⟨c0,c1,c2,c3,O0,R0,O1,R1,O2,R2,O3,R3,rfl,d,R,t,o,f1⟩;obtain⟨p0,q0,rfl,a0,b0⟩:=d.shape;obtain⟨p1,q1,rfl,a1,b1⟩:=R.shape;obtain⟨p2,q2,rfl,a2,b2⟩:=t.shape;obtain⟨p3,q3,rfl,a3,b3⟩:=o.shape;obtain⟨A,hA⟩:=exI h1.next;obtain⟨k1,e1,n1,g1,o1,F1⟩:=dF hA [aC 0,.aE,.aE];obtain⟨k2,e2,n2,g2,o2,F2⟩:=dF n1 [aC 0,.aE,.aE];obtain⟨k3,e3,n3,g3,o3,F3⟩:=dF n2 [aC 0,.aE,.aE];obtain⟨k4,e4,n4,g4,o4,F4⟩:=dF n3 [aC 0,.aE,.aE];have z1:k4.get A=some (.cells false [aC 0,.aE,.aE]):=by rw[o4 _ om,o3 _ om,o2 _ om];exact g1
 have z2:k4.get (A+1)=some (.cells false [aC 0,.aE,.aE]):=by rw[o4 _ om,o3 _ om];exact g2
 have z3:k4.get (A+1+1)=some (.cells false [aC 0,.aE,.aE]):=by rw[o4 _ om];exact g3
 obtain⟨k5,e5,n5,g5,o5⟩:=pJ k4 A [aC (4:Nat),p0,q0];obtain⟨k6,e6,n6,g6,o6⟩:=pJ k5 (A+1) [aC (4:Nat),p1,q1];obtain⟨k7,e7,n7,g7,o7⟩:=pJ k6 (A+1+1) [aC (4:Nat),p2,q2];obtain⟨k8,e8,n8,g8,o8⟩:=pJ k7 (A+1+1+1) [aC (5:Nat),p3,q3];have y2:k5.get (A+1)=some (.cells false [aC 0,.aE,.aE]):=by rw[o5 _ om];exact z2
 have y3:k6.get (A+1+1)=some (.cells false [aC 0,.aE,.aE]):=by rw[o6 _ om,o5 _ om];exact z3
 have y4:k7.get (A+1+1+1)=some (.cells false [aC 0,.aE,.aE]):=by rw[o7 _ om,o6 _ om,o5 _ om];exact g4
 have c:Fr h1 k8:=⟨om,λq hq=>by rw[o8 q om,o7 q om,o6 q om,o5 q om,o4 q om,o3 q om,o2 q om,o1 q om]⟩
 have r1: ∀j,Fr k8 j->j.row A 0 3=some [aC (4:Nat),p0,q0]:=λj f=>aI (by rw[f.get A om,o8 _ om,o7 _ om,o6 _ om];exact g5)
 have r2: ∀j,Fr k8 j->j.row (A+1) 0 3=some [aC (4:Nat),p1,q1]:=λj f=>aI (by rw[f.get _ om,o8 _ om,o7 _ om];exact g6)
 have r3: ∀j,Fr k8 j->j.row (A+1+1) 0 3=some [aC (4:Nat),p2,q2]:=λj f=>aI (by rw[f.get _ om,o8 _ om];exact g7)
 have r4: ∀j,Fr k8 j->j.row (A+1+1+1) 0 3=some [aC (5:Nat),p3,q3]:=λj f=>aI (by rw[f.get _ om];exact g8)
 have E0:=dM d.dN d.isc;have E1:=dM R.dN R.isc;have E2:=dM t.dN t.isc;have E3:=dM o.dN o.isc;have L0:=E0.1.uniq Am;have L1:=E1.1.uniq Ah;have L2:=E2.1.uniq BT;have L3:=E3.1.uniq tT;simp(disch:=omega)only[go_sem,hA,e1,n1,e2,n2,e3,n3,e4,bW k4 A 0 (v:= aC (4:Nat)) (u:=p0) (w:=q0) rfl a0 b0,z1,cF,e5,bW k5 (A+1) 0 (v:= aC (4:Nat)) (u:=p1) (w:=q1) rfl a1 b1,y2,e6,bW k6 (A+1+1) 0 (v:= aC (4:Nat)) (u:=p2) (w:=q2) rfl a2 b2,y3,e7,bW k7 (A+1+1+1) 0 (v:= aC (5:Nat)) (u:=p3) (w:=q3) rfl a3 b3,y4,e8,r1 k8 (Fr.refl _)];refine (Nq _ 4 O0 R0 _ k8 (d.mono c)).mono ?_;rintro _ h2 ⟨v5,s8,l5,rfl,s5,t8,t6,f2⟩;simp(disch:=omega)only[go_sem,r4 h2 f2];refine (Eu _ 5 O3 R3 _ h2 (o.mono (c.trans f2))).mono ?_;rintro _ h3 ⟨v7,t3,l7,rfl,s7,x1,y0,f3⟩;have G3:=f2.trans f3;have w5:=akQ d.isc t6;have w7:=ajO o.isc y0;simp(disch:=omega)only[go_sem,r1 h3 G3];refine (aiX _ 4 O0 R0 _ h3 (d.mono (c.trans G3))).mono ?_;rintro _ h4 ⟨l9,x5,rfl,f4⟩;have G4:=G3.trans f4;have b9:ajS 4 l9=true:=aiZ (Zi d.isc x5) rfl;rw[b9];simp(disch:=omega)only[go_sem,r4 h4 G4];refine (aiX _ 5 O3 R3 _ h4 (o.mono (c.trans G4))).mono ?_;rintro _ h5 ⟨s2,l3,rfl,f5⟩;have G5:=G4.trans f5;have t4:ajS 5 s2=false:=aiZ (ajO o.isc l3) rfl;rw[t4];simp(disch:=omega)only[go_sem,r1 h5 G5];refine (PS _ 4 O0 R0 _ h5 (d.mono (c.trans G5))).mono ?_;rintro _ h6 ⟨w1,g0,rfl,f6⟩;have G6:=G5.trans f6;have v2:ajS 4 w1=false:=aiZ (akQ d.isc g0) rfl;rw[v2];simp(disch:=omega)only[go_sem,r3 h6 G6];refine (PS _ 4 O2 R2 _ h6 (t.mono (c.trans G6))).mono ?_;rintro _ h7 ⟨s6,k9,rfl,f7⟩;have G7:=G6.trans f7;have p7:ajS 4 s6=true:=aiZ (Xs t.isc k9) rfl;rw[p7];obtain⟨h8,w0,z7,x3,B2,f8⟩:=dF (h:=h7) rfl (ints [24,12]);have m6:Fr h2 h8:=f3.trans (f4.trans (f5.trans (f6.trans (f7.trans f8))));simp(disch:=omega)only[go_sem,alY,w0];refine (lU v5 _ 4 s8 l5 [24,12] h8 (s5.mono m6) (aM.mono (λ_ _ ⟨G,g,_⟩=>⟨G,g.mono m6⟩) t8) (alR w5 (by decide)) (SV.all rfl om x3 _) w5).mono ?_;rintro _ h9 ⟨rfl,f9⟩;obtain⟨j0,v0,A1,n9,A7,p6⟩:=dF (h:=h9) rfl (ints [60]);have W:Fr h3 j0:=f4.trans (f5.trans (f6.trans (f7.trans (f8.trans (f9.trans p6)))));simp(disch:=omega)only[go_sem,anM,v0];refine (lU v7 _ 5 t3 l7 [60] j0 (s7.mono W) (aM.mono (λ_ _ ⟨G,g,_⟩=>⟨G,g.mono W⟩) x1) (alR w7 (by decide)) (SV.all rfl om n9 _) w7).mono ?_;rintro _ c6 ⟨rfl,s4⟩;have b7:Fr k8 c6:=G3.trans (W.trans s4);simp(disch:=omega)only[go_sem,eq_self,decide_true,r1 c6 b7];have a9:Bm 4 (bX 4 (· ∈DD)) DH _:=NaB.ok (bX.dN Wz) Am rfl aoD;have j5:Bm 4 (bX 4 (· ∈Ij)) qB _:=NaB.ok (bX.dN Su) Ah rfl anZ;have q5:Bm 4 (bX 4 (· ∈D4g)) ZQ _:=NaB.ok (bX.dN TC) BT rfl anV;have j7:Bm 5 (bX 5 (· ∈HH)) LA5 _:=NaB.ok (bX.dN HN) tT rfl anU;refine (Cf _ 4 O0 R0 _ c6 (d.mono (c.trans b7))).mono ?_;rintro v c8 ⟨L,m,U⟩;obtain rfl:=m.symm.trans L0;obtain⟨⟨u5,g9,rfl,o0,m4⟩,t1⟩:=Ra a9 (by decide) U;clear m U;have d3:=b7.trans t1;simp(disch:=omega)only[go_sem,r2 c8 d3];refine (Cf _ 4 O1 R1 _ c8 (R.mono (c.trans d3))).mono ?_;rintro v i9 ⟨L,m,U⟩;obtain rfl:=m.symm.trans L1;obtain⟨⟨v6,y7,rfl,r8,j9⟩,e0⟩:=Ra j5 (by decide) U;clear m U;have d2:=d3.trans e0;simp(disch:=omega)only[go_sem,r3 i9 d2];refine (Cf _ 4 O2 R2 _ i9 (t.mono (c.trans d2))).mono ?_;rintro v i3 ⟨L,m,U⟩;obtain rfl:=m.symm.trans L2;obtain⟨⟨x4,y8,rfl,s1,l1⟩,f0⟩:=Ra q5 (by decide) U;clear m U;have d5:=d2.trans f0;simp(disch:=omega)only[go_sem,r4 i3 d5];refine (Cf _ 5 O3 R3 _ i3 (o.mono (c.trans d5))).mono ?_;rintro v j1 ⟨L,m,U⟩;obtain rfl:=m.symm.trans L3;obtain⟨⟨r7,d6,rfl,p8,i1⟩,j2⟩:=Ra j7 (by decide) U;clear m U;have s3:=d5.trans j2;obtain⟨t2,r5,m0⟩:=aiR Am m4 λr hr=>(a9.mem r).1 hr
 obtain⟨u0,u8,j3⟩:=aiR tT i1 λr hr=>(j7.mem r).1 hr
 have d8:bT v6=some (aC 5):=by
  have:=aM.length j9;unfold bT;rw[SV.len r8 (n:=5) (by rw[lC,this];rfl) om];rfl
 have l6:bT x4=some (aC 6):=by
  have:=aM.length l1;unfold bT;rw[SV.len s1 (n:=6) (by rw[lC,this];rfl) om];rfl
 obtain⟨m1,u3,A0,v8,A5,j6⟩:=dF (h:=j1) rfl (ints [1,4,12,24]);have Q:Fr c8 m1:=e0.trans (f0.trans (j2.trans j6));simp(disch:=omega)only[go_sem,Ec,u3];refine (lU u5 _ 4 g9 t2 [1,4,12,24] m1 (o0.mono Q) (aM.mono (λ_ _ ⟨G,g⟩=>⟨G,g.mono Q⟩) r5) (alR m0 (by decide)) (SV.all rfl om v8 _) m0).mono ?_;rintro _ m7 ⟨rfl,w3⟩;obtain⟨j4,w6,B1,w9,A9,i8⟩:=dF (h:=m7) rfl (ints [1,60]);have p:Fr j1 j4:=j6.trans (w3.trans i8);simp(disch:=omega)only[go_sem,d8,l6,eq_self,decide_true,alY,w6];refine (lU r7 _ 5 d6 u0 [1,60] j4 (p8.mono p) (aM.mono (λ_ _ ⟨G,g⟩=>⟨G,g.mono p⟩) u8) (alR j3 (by decide)) (SV.all rfl om w9 _) j3).mono ?_;rintro _ c9 ⟨rfl,u7⟩;have b6:Fr k8 c9:=s3.trans (p.trans u7);simp(disch:=omega)only[go_sem,r1 c9 b6];refine (Ph _ 4 O0 R0 _ c9 (d.mono (c.trans b6))).mono ?_;rintro _ b8 ⟨x2,l8,L,K,rs,rfl,m,ik,cl,o9,i2,w4⟩;obtain rfl:=m.symm.trans L0;obtain rfl:=RC cl ik;clear m;have d1:=b6.trans w4;simp(disch:=omega)only[go_sem,r2 b8 d1];refine (Ph _ 4 O1 R1 _ b8 (R.mono (c.trans d1))).mono ?_;rintro _ a5 ⟨m5,a7,L,K1,rs,rfl,m,x7,q7,e9,B,Z⟩;obtain rfl:=m.symm.trans L1;obtain rfl:=anR q7 x7;clear m;have p5:=d1.trans Z;obtain⟨I0,l4⟩:=exI a5.next;obtain⟨i0,q6,i5,x8,i6⟩:=mkI l4 [1,0,3,2];obtain⟨x0,u9,z5,v1,z0,c7⟩:=dF i5 [.sl I0 0 4 (.kn 4)];have KI:SP x0 (.sl (I0+1) 0 1 (.kn 1)) [[1,0,3,2]]:=SP.aoI (a:= [1,0,3,2]) (h:=i0) x8 om c7 v1 _;have p9:=p5.trans (i6.trans c7);simp(disch:=omega)only[go_sem,l4,Ec,q6,i5,cT i0 (z:= .aE) (mW ..).1 (mW ..).2,u9];refine (afJ _ 4 [[1,0,3,2]] x0 om om (by decide) KI λg hg=>Su g (by rw[List.mem_singleton.1 hg];exact Ab)).mono ?_;rintro _ d4 ⟨z8,O4,R4,rfl,d0,j8⟩;obtain⟨p4,q4,rfl,a4,b4⟩:=d0.shape;have t7:=p9.trans j8;obtain⟨D,hD⟩:=exI d4.next;obtain⟨y1,s0,A2,y5,u4,A6⟩:=dF hD [aC 0,.aE,.aE];obtain⟨b,x6,B0,w2,r6⟩:=pJ y1 D [aC (4:Nat),p4,q4]
 have fy:Fr d4 b:=⟨om,λq hq=>by rw[r6 q om,u4 q om]⟩
 have rD: ∀j,Fr b j->j.row D 0 3=some [aC (4:Nat),p4,q4]:=λj f=>aI (by rw[f.get D om];exact w2)
 have c4:Fr a5 d4:=(i6.trans c7).trans j8;simp(disch:=omega)only[go_sem,hD,s0,bW y1 D 0 (v:= aC (4:Nat)) (u:=p4) (w:=q4) rfl a4 b4,y5,cF,x6];refine (CQ _).mono ?_;rintro _ J ⟨rfl,m2⟩;have v4: ∀k,b.next<=k->Fr b (H.mk b.tr k):=λk hk=>(Fr.refl b).bA hk
 have y:Fr b J:=(v4 _ om).trans m2;have y6: ∀r∈ [[0], [0,7,16,23], [0,3,4,7,8,11,12,15,16,19,20,23],List.range 24],xJ 4 (bX 4 (· ∈DD)) DH r:=λr hr=>(a9.mem r).1 hr
 have l2: ∀r∈ [[0], [0,1],List.range 4],xJ 4 (bX 4 (· ∈Ij)) qB r:=λr hr=>(j5.mem r).1 (by
  simp only[zH,List.not_mem_nil,or_false] at hr
  rcases hr with rfl|rfl|rfl<;>simp)
 obtain⟨r9,q9,d7⟩:=aiR Am i2 y6;obtain⟨t0,q8,d9⟩:=aiR Ah B l2;obtain⟨b5,r0,A8,n0,w8⟩:=LF J (b.next+10) J.next (ints [1,4,12,24]);have A3:b.next+27<=J.next:=m2.next;have l:Fr a5 b:=c4.trans fy;have Y: ∀q,q<b.next->b5.get q=J.get q:=λq hq=>w8 q om
 have N:Fr b8 b5:=⟨by have:=(Z.trans (l.trans y)).next;omega,λq hq=>by rw[Y q (by have:=(Z.trans l).next;omega)];exact (Z.trans (l.trans y)).get q hq⟩
 simp(disch:=omega)only[go_sem,Ec,r0];refine (lU x2 _ 4 l8 r9 [1,4,12,24] b5 (o9.mono N) (aM.mono (λ_ _ ⟨G,g⟩=>⟨G,g.mono N⟩) q9) (alR d7 (by decide)) (SV.all rfl om n0 _) d7).mono ?_;rintro _ a8 ⟨rfl,l0⟩;have z4:=l0.next;obtain⟨c5,m8,z9,x9,s9⟩:=LF a8 (b.next+16) a8.next (ints [1,2,4])
 have i7:Fr b a8:=⟨om,λq hq=>by rw[l0.get q om,Y q hq];exact y.get q hq⟩
 have a6:Fr b c5:=⟨om,λq hq=>by rw[s9 q om];exact i7.get q hq⟩
 have O:Fr a5 c5:=l.trans a6;simp(disch:=omega)only[go_sem,SA,m8];refine (lU m5 _ 4 a7 t0 [1,2,4] c5 (e9.mono O) (aM.mono (λ_ _ ⟨G,g⟩=>⟨G,g.mono O⟩) q8) (alR d9 (by decide)) (SV.all rfl om x9 _) d9).mono ?_;rintro _ m3 ⟨rfl,t5⟩;have s:=a6.trans t5;have P:=l.trans s;have z6:a7.length=3:=aM.length B;obtain⟨t9,h0,k0,v9⟩:=Lw (e9.mono P) (i:=1) om;have F:=k0.ixa .i64 1 om om;obtain⟨Ob,Rb,i4⟩:=aM.get B 1 om (by decide);have F:Dz 3 m5 (aC 1)=some (.ptr t9 (h0+1*3)):=F;simp(disch:=omega)only[go_sem,F,v9,rD m3 s]
 have eG: ∀x,RG qB [0,1] x↔bX 4 (· ∈ [[1,0,3,2]]) x:=by
  have k1:=l2 [0,1] (by decide);have u6:=UA Ah k1;have m9:dW (bX 4 (· ∈ [[1,0,3,2]])) [[0,1,2,3], [1,0,3,2]]:=Ze.Xz (ws:= [[], [0]]) (by decide+kernel);exact To u6 m9
 obtain⟨u1,u2⟩:=(i4.isc.congr eG).uniq d0.isc;refine (acR _ _ 4 (Ob,Rb) (O4,R4) _ _ m3 (i4.mono P) (d0.mono (fy.trans s))).mono ?_;rintro _ y9 ⟨rfl,v3⟩;have dT:decide (((Ob,Rb):nE)=(O4,R4))=true:=bP (by rw[u1,u2]);simp(disch:=omega)only[go_sem,dT];exact f1.trans (c.trans (t7.trans (fy.trans (s.trans v3))))
def dgs:Nat->Nat->List Nat
 |0,_=> []
 |n+1,m=>m%10::dgs n (m/10)
def xN:List Nat->Nat
 | []=>0
 |d::l=>d+6*xN l
def mk1 {α:Type}(f:α->Nat):List α->Nat
 | []=>0
 |x::l=>f x|||mk1 f l
def alZ (n:Nat)(x:List Nat):Bool:=decide (x.length=n)&&decide x.Nodup&&x.all λi=>decide (i<n)
def amR (n:Nat)(L:List (List Nat)):Nat->Nat->List Nat
 |0,_=>bL n
 |f+1,w=>if w=0 then bL n else match L[w%10- 1]? with|some g=>aX g (amR n L f (w/10))|none=>bL n
structure yO where
 gens:List Nat
 els:List Nat
 certs:List (Nat×Nat×Nat×List Nat)
def yO.g (n:Nat)(r:yO):List (List Nat):=r.gens.map (dgs n)
def yO.e (n:Nat)(r:yO):List (List Nat):=r.els.map (dgs n)
def anD {α β:Type}(p:α->β->Bool):List α->List β->Bool
 | [], []=>true
 |a::l,b::m=>p a b&&anD p l m
 |_,_=>false
def anW (n:Nat)(Rs:List yO)(k:Nat)(G:List (List Nat))(c:Nat×Nat×Nat×List Nat):Bool:=
 decide (k<c.2.1)&&alZ n (dgs n c.1)&&alZ n (dgs n c.2.2.1)&&match Rs[c.2.1]? with|some r=>anD (λw g=>cW (amR n (G++ [dgs n c.1]) 30 w) (dgs n c.2.2.1)==g) c.2.2.2 (r.g n)|none=>false
def amC (n:Nat)(U:List (List Nat))(Rs:List yO)(k:Nat)(r:yO):Bool:=
 (Yy (r.g n) r.els.length 0 [bL n]==r.e n)&&(r.g n).all (alZ n)&&(r.certs.all λc=>anW n Rs k (r.g n) c)&&
  (mk1 (λx=>2^xN x) U&&&(mk1 (λx=>2^xN x) (r.e n)|||mk1 (λc=>mk1 (λa=>mk1 (λb=>2^xN (aX (aX a (dgs n c.1)) b)) (r.e n)) (r.e n)) r.certs)==mk1 (λx=>2^xN x) U)
theorem sI {α:Type}{f:α->Nat}{i:Nat}: ∀{l:List α},(mk1 f l).testBit i=true↔ ∃x,x∈l/\(f x).testBit i=true
 | []=>by simp [mk1]
 |x::l=>by
  rw[mk1,Nat.testBit_or,Bool.or_eq_true,sI];simp
theorem IW: ∀{x y:List Nat},x.length=y.length->(∀i∈x,i<6)->(∀i∈y,i<6)->xN x=xN y->x=y
 | [], [],_,_,_,_=>rfl
 | [],_::_,h,_,_,_=>by cases h
 |_::_, [],h,_,_,_=>by cases h
 |a::x,b::y,hl,h1,h2,e=>by
  have e:a+6*xN x=b+6*xN y:=e;have c:=h1 a Ab;have d:=h2 b Ab;rw[show a=b by omega,IW (by simpa using hl) (λi hi=>h1 i (Cu _ hi)) (λi hi=>h2 i (Cu _ hi)) om]
theorem akC {n:Nat}{x:List Nat}(h:alZ n x=true):bE n x:=by
 unfold alZ at h;simp only[vN,Qf,Kv] at h;exact⟨h.1.1,h.1.2,λi hi=>h.2 i hi⟩
section
variable {n:Nat} {P V:List Nat->Prop} {U:List (List Nat)} {Rs:List yO}
theorem alJ (a:iX n P){L:List (List Nat)}(b: ∀g∈L,P g): ∀f w,P (amR n L f w)
 |0,_=>a.one
 |f+1,w=>by
  unfold amR;split
  ·exact a.one
  ·split
   ·rename_i g c
    exact a.mul (b g (AW c)) (alJ a b f _)
   ·exact a.one
theorem alC {α β:Type}{p:α->β->Bool}: ∀{l:List α} {m:List β},anD p l m=true-> ∀b∈m,∃a∈l,p a b=true
 | [], [],_,b,d=>by cases d
 | [],_::_,h,_,_=>by cases h
 |_::_, [],h,_,_=>by cases h
 |a::l,c::m,h,b,d=>by
  rw[anD,vN] at h;rcases zH.1 d with e|d
  ·exact⟨a,Ab,by rw[e];exact h.1⟩
  ·obtain⟨x,f,i⟩:=alC h.2 b d
   exact⟨x,Cu _ f,i⟩
def mvG (n:Nat)(P:List Nat->Prop)(s x:List Nat):Prop:=bE n x/\P (cW x (dA s))
theorem mvG.dN (c:iX n P){s:List Nat}(S:bE n s):iX n (mvG n P s):=
 ⟨λh=>h.1,⟨bE.one n,by rw[Ro S.inv];exact c.one⟩,λa b=>⟨a.1.mul b.1,by rw[Ef a.1 b.1 S.inv];exact c.mul a.2 b.2⟩,λa=>⟨a.1.inv,by rw[NG a.1 S.inv];exact c.inv a.2⟩⟩
theorem mvG.anQ (b:iX n P){s x:List Nat}(S:bE n s)(a:P x):mvG n P s (cW x s):=⟨qG (b.cU a) S,by rw[MO (b.cU a) S];exact a⟩
theorem akR (n6:n<=6)(W: ∀x,V x->bE n x/\x∈U)(q: ∀x s,V x->bE n s->V (cW x s))(chk: ∀k (hk:k<Rs.length),amC n U Rs k Rs[k]=true):
  ∀(d k:Nat) (P:List Nat->Prop) (hk:k<Rs.length),Rs.length-k<=d->iX n P->(∀x,P x->V x)->(∀g∈(Rs[k].g n),P g)-> ∃k' s,∃hk':k'<Rs.length,bE n s/\ ∀x,bE n x->(P x↔cW x s∈Rs[k'].e n)
 |0,k,P,hk,hd,_,_,_=>om
 |d+1,k,P,hk,hd,hP,hPV,hg=>by
  have c:=chk k hk;generalize hr:Rs[k]=r at c hg;unfold amC at c;simp only[vN,beq_iff_eq,Kv] at c;obtain⟨⟨⟨c1,c2⟩,p⟩,c4⟩:=c
  have m: ∀x∈r.e n,P x:=by
   rw[←c1];exact Ma (λx j g h=>hP.mul j (hg g h)) _ 0 _ (λx j=>by rw[List.mem_singleton.1 j];exact hP.one)
  by_cases all: ∀x,P x->x∈r.e n
  ·exact⟨k,bL n,hk,bE.one n,λx X=>by rw[mG X,hr];exact⟨all x,m x⟩⟩
  ·obtain⟨x,j⟩:=Classical.not_forall.1 all
   obtain⟨j,hn⟩:=Classical.not_imp.1 j;have X:=hP.cU j
   have inj: ∀y,P y->(2^xN y).testBit (xN x)=true->y=x:=λy l h=>by
    rw[Nat.testBit_two_pow,Qf] at h;have Y:=hP.cU l;exact IW (by rw[X.len,Y.len]) (λi hi=>by have:=Y.lt i hi;omega) (λi hi=>by have:=X.lt i hi;omega) h
   have O:(mk1 (λx=>2^xN x) U).testBit (xN x)=true:=sI.2 ⟨x,(W x (hPV x j)).2,by rw[Nat.testBit_two_pow];exact decide_eq_true rfl⟩;rw[←c4,Nat.testBit_and,vN,Nat.testBit_or,Bool.or_eq_true] at O;rcases O.2 with h|h
   ·obtain⟨y,l,h2⟩:=sI.1 h
    exact absurd (inj y (m y l) h2▸l) hn
   ·obtain⟨f,K,h⟩:=sI.1 h
    obtain⟨a,N,h⟩:=sI.1 h;obtain⟨b,Q,h⟩:=sI.1 h;have p:=p f K;unfold anW at p;simp only[vN,Qf] at p;obtain⟨⟨⟨q1,q2⟩,q3⟩,F⟩:=p;have o:=akC q2;have S:=akC q3;have A:=hP.cU (m a N);have B:=hP.cU (m b Q)
    have L:aX (aX a (dgs n f.1)) b=x:=by
     rw[Nat.testBit_two_pow,Qf] at h;have Y:=(A.mul o).mul B;exact IW (by rw[X.len,Y.len]) (λi hi=>by have:=Y.lt i hi;omega) (λi hi=>by have:=X.lt i hi;omega) h
    have z:P (dgs n f.1):=by
     have:P (aX (aX (dA a) x) (dA b)):=hP.mul (hP.mul (hP.inv (m a N)) j) (hP.inv (m b Q));rw[←L,←aV A.inv (A.mul o) B,←aV A.inv A o,iE A,cL o,aV o B B.inv,fC B,bZ o] at this;exact this
    split at F
    ·rename_i r' v
     obtain⟨hk',J⟩:=Ax.1 v;have hL: ∀g∈r.g n++ [dgs n f.1],P g:=λg h=>(pH.1 h).elim (hg g) λe=>by rw[List.mem_singleton.1 e];exact z
     obtain⟨k2,t,G,R,ht⟩:=akR n6 W q chk d f.2.1 (mvG n P (dgs n f.2.2.1)) hk' om (mvG.dN hP S) (λy l=>by
       have:=q _ _ (hPV _ l.2) S;have Y:=l.1;have e:=MO Y S.inv
       have e2:dA (dA (dgs n f.2.2.1))=dgs n f.2.2.1:=by
        have h:=fC S.inv;have:=congrArg (aX (dgs n f.2.2.1)) h;rw[←aV S S.inv S.inv.inv,fC S,cL S.inv.inv,bZ S] at this;exact this
       rw[e2] at e
       rwa [e] at this) (λg u=>by
       rw[J] at u;obtain⟨w,_,Z⟩:=alC F g u;rw[←beq_iff_eq.1 Z]
       exact mvG.anQ hP S (alJ hP hL _ _))
     refine⟨k2,aX (dgs n f.2.2.1) t,G,S.mul R,λy Y=>?_⟩;rw[nX Y S R,←ht _ (qG Y S)];refine⟨λh=>mvG.anQ hP S h,λh=>?_⟩;have:=h.2;rwa [MO Y S] at this
    ·cases F
end
def oM:Nat->List Nat->List (List Nat)
 |0,_=> [[]]
 |f+1,l=>l.flatMap λa=>(oM f (l.erase a)).map (a:: ·)
theorem ajM: ∀(x l:List Nat),x.Perm l->x∈oM l.length l
 | [],l,h=>by
  rw[List.nil_perm.1 h];exact List.mem_singleton.2 rfl
 |a::x,l,h=>by
  have b:a∈l:=h.mem_iff.1 Ab;have c:x.Perm (l.erase a):=List.cons_perm_iff_perm_erase.1 h|>.2;have d:l.length=(l.erase a).length+1:=by rw[List.length_erase_of_mem b];have:=HJ b;omega
  rw[d];exact List.mem_flatMap.2 ⟨a,b,uF.2 ⟨x,ajM x _ c,rfl⟩⟩
theorem alP {n:Nat}{x:List Nat}(X:bE n x):x∈oM n (List.range n):=by
 have h:x.Perm (List.range n):=(List.perm_ext_iff_of_nodup X.nd List.nodup_range).2 λi=>⟨λhi=>Gu.2 (X.lt i hi),λhi=>X.mem (Gu.1 hi)⟩
 have:=ajM x _ h;rwa [NM] at this
def anY:List yO:= [
⟨[],[0],[]⟩]
def anX:List yO:= [
⟨[],[10],[(1,1,10,[1])]⟩,
⟨[1],[10,1],[]⟩]
def aoA:List yO:= [
⟨[],[210],[(120,1,210,[1]),(201,1,21,[1]),(21,2,210,[1]),(102,2,210,[11]),(12,1,201,[1])]⟩,
⟨[120],[210,120],[(201,3,210,[1,2])]⟩,
⟨[21],[210,21,102],[(120,3,210,[2,12])]⟩,
⟨[120,201],[210,120,201,21,102,12],[]⟩]
def aoB:List yO:= [
⟨[],[3210],[(2310,1,3210,[1]),(3120,1,1320,[1]),(1320,3,3210,[1]),(2130,3,3210,[11]),(1230,1,3120,[1]),(3201,1,1032,[1]),(2301,2,3210,[1]),(3021,3,321,[1]),(321,4,3210,[1]),(2031,4,2310,[1]),(231,3,3021,[1]),(3102,3,321,[11]),(1302,4,2310,[111]),(3012,1,1302,[1]),(312,3,3201,[1]),(1032,2,3120,[1]),(132,4,3120,[1]),(2103,4,3210,[111]),(1203,3,3021,[11]),(2013,3,3201,[11]),(213,1,3102,[1]),(1023,4,3120,[111]),(123,2,1320,[1])]⟩,
⟨[2310],[3210,2310],[(3120,7,3210,[1,2]),(3201,5,3210,[1,2]),(3021,10,3210,[1,2]),(3102,10,3210,[1,22]),(3012,7,3201,[1,2]),(1032,8,3210,[1,2])]⟩,
⟨[2301],[3210,2301],[(2310,5,3210,[2,21]),(3120,8,1320,[2,1]),(1320,9,3210,[2,1]),(2130,9,3210,[22,1]),(1230,8,3120,[2,1]),(1032,6,3210,[1,2]),(132,4,3120,[2])]⟩,
⟨[1320],[3210,1320,2130],[(2310,7,3210,[2,12]),(3201,10,3210,[2121121,12112]),(2301,9,3210,[1,2])]⟩,
⟨[321],[3210,321,1032,2103],[(2310,10,3210,[2,12]),(1230,8,3120,[2,12])]⟩,
⟨[2310,3201],[3210,2310,3201,2301],[(3120,10,3210,[1,23]),(1032,8,3210,[1,3])]⟩,
⟨[2301,1032],[3210,2301,1032,123],[(2310,8,3210,[3,2]),(3120,8,1320,[3,1]),(1320,9,3210,[3,1]),(2130,9,3210,[33,1]),(1230,8,3120,[3,1])]⟩,
⟨[2310,3120],[3210,2310,3120,1320,2130,1230],[(3201,10,3210,[1,32])]⟩,
⟨[2310,1032],[3210,2310,1032,132,1023,123,3201,2301],[(3120,10,3210,[1,132])]⟩,
⟨[1320,2301],[3210,1320,2301,2130,231,3102,3021,312,1203,2013,1032,123],[(2310,10,3210,[3,211])]⟩,
⟨[2310,3021],[3210,2310,3021,321,2031,3102,231,1302,132,2103,1032,1203,123,1230,213,1023,2130,2013,1320,312,3120,3012,2301,3201],[]⟩]
def aoC:List yO:= [
⟨[],[43210],[(34210,1,43210,[1]),(42310,1,24310,[1]),(24310,3,43210,[1]),(32410,3,43210,[11]),(23410,1,42310,[1]),(43120,1,21430,[1]),(34120,2,43210,[1]),(41320,3,14320,[1]),(14320,4,43210,[1]),(31420,4,34210,[1]),(13420,3,41320,[1]),(42130,3,14320,[11]),(24130,4,34210,[111]),(41230,1,24130,[1]),(14230,3,43120,[1]),(21430,2,42310,[1]),(12430,4,42310,[1]),(32140,4,43210,[111]),(23140,3,41320,[11]),(31240,3,43120,[11]),(13240,1,42130,[1]),(21340,4,42310,[111]),(12340,2,24310,[1]),(43201,1,21043,[1]),(34201,2,43021,[1]),(42301,2,4321,[1]),(24301,8,43210,[1]),(32401,8,43210,[11111]),(23401,2,40321,[1]),(43021,3,10432,[1]),(34021,8,10432,[1]),(40321,4,4321,[1]),(4321,7,43210,[1]),(30421,7,34210,[1]),(3421,4,40321,[1]),(42031,4,3421,[1]),(24031,7,32410,[1]),(40231,3,14032,[1]),(4231,4,43021,[1]),(20431,8,14032,[1]),(2431,7,42310,[1]),(32041,7,23410,[1]),(23041,4,30421,[1]),(30241,4,34021,[1]),(3241,3,41032,[1]),(20341,7,24310,[1]),(2341,8,41032,[1]),(43102,3,10432,[11]),(34102,8,10432,[11111]),(41302,4,3421,[111]),(14302,7,23410,[1111]),(31402,7,32410,[1111]),(13402,4,30421,[111]),(43012,1,21403,[1]),(34012,2,43201,[1]),(40312,3,14302,[1]),(4312,4,43201,[1]),(30412,4,34201,[1]),(3412,3,41302,[1]),(41032,2,4231,[1]),(14032,8,43120,[1]),(40132,4,4231,[1]),(4132,7,24310,[11]),(10432,7,43210,[111]),(1432,8,41302,[1]),(31042,8,43120,[11111]),(13042,2,40231,[1]),(30142,7,42310,[11]),(3142,4,40231,[1]),(10342,8,14302,[1]),(1342,7,34210,[111]),(42103,4,4321,[111]),(24103,7,34210,[1111]),(41203,3,14032,[11]),(14203,4,34021,[111]),(21403,8,14032,[11111]),(12403,7,24310,[1111]),(42013,3,14302,[11]),(24013,4,34201,[111]),(40213,1,24103,[1]),(4213,3,43102,[1]),(20413,2,42301,[1]),(2413,4,42301,[1]),(41023,4,4231,[111]),(14023,7,42310,[111]),(40123,2,2431,[1]),(4123,8,43102,[1]),(10423,8,41320,[1]),(1423,7,23410,[11]),(21043,7,43210,[11]),(12043,8,14302,[11111]),(20143,8,41320,[11111]),(2143,7,32410,[111]),(10243,2,42031,[1]),(1243,4,42031,[1]),(32104,7,43210,[1111]),(23104,4,40321,[111]),(31204,4,43021,[111]),(13204,3,41032,[11]),(21304,7,42310,[1111]),(12304,8,41032,[11111]),(32014,4,43201,[111]),(23014,3,41302,[11]),(30214,3,43102,[11]),(3214,1,42103,[1]),(20314,4,42301,[111]),(2314,2,24301,[1]),(31024,7,24310,[111]),(13024,4,40231,[111]),(30124,8,43102,[11111]),(3124,2,20431,[1]),(10324,7,32410,[11]),(1324,8,14320,[1]),(21034,8,41302,[11111]),(12034,7,34210,[11]),(20134,7,23410,[111]),(2134,8,14320,[11111]),(10234,4,42031,[111]),(1234,2,24031,[1])]⟩,
⟨[34210],[43210,34210],[(42310,9,43210,[1,2]),(43120,5,43210,[1,2]),(41320,16,43210,[1,2]),(42130,16,43210,[1,22]),(41230,9,43120,[1,2]),(21430,11,43210,[1,2]),(43201,5,43021,[1,2]),(42301,13,43210,[1,2]),(43021,8,10432,[21]),(40321,18,43210,[1,2]),(42031,18,43210,[1,122212122]),(40231,16,43021,[1,2]),(20431,18,43210,[1,22212]),(43102,8,10432,[221]),(41302,18,43210,[1,212221212]),(43012,5,43201,[1,2]),(40312,16,43201,[1,2]),(41032,13,43120,[1,2]),(40132,18,43210,[1,221222121]),(10432,18,43210,[1,2221]),(42103,18,43210,[1,222]),(41203,16,43021,[1,22]),(21403,18,43210,[1,1222122]),(42013,16,43201,[1,22]),(40213,9,43102,[1,2]),(20413,11,43201,[1,2]),(41023,18,43210,[1,221212221]),(40123,13,43102,[1,2]),(10423,18,43210,[1,1212221]),(21043,18,43210,[1,221]),(20143,18,43210,[1,1221222]),(10243,11,43021,[1,2])]⟩,
⟨[34120],[43210,34120],[(34210,5,43210,[2,21]),(42310,11,24310,[2,1]),(24310,14,43210,[2,1]),(32410,14,43210,[22,1]),(23410,11,42310,[2,1]),(21430,6,43210,[1,2]),(12430,4,42310,[2]),(43201,13,10432,[21212,12121]),(34201,10,10432,[21,1]),(42301,12,43210,[1,2]),(24301,18,43210,[222122212221,222122]),(32401,18,43210,[222122212221,22212222]),(23401,12,34210,[1,2]),(40321,15,43210,[1,2]),(4321,17,43210,[1222121,2212221]),(30421,17,43210,[212221,2212221]),(3421,15,34210,[1,2]),(20431,18,43210,[2212212,122121]),(2431,17,43210,[21221,1212222]),(42103,15,43210,[1,222]),(24103,17,43210,[1212221,2221221]),(41203,17,43210,[212122,2212212121]),(14203,15,34210,[1,2221]),(21403,18,43210,[2122122,12121222]),(12403,17,43210,[12212,1222212]),(40213,13,43102,[21212,12121]),(4213,10,43102,[2,1]),(20413,12,43210,[1,12121]),(2413,18,43210,[21222121222121,2121222]),(10423,18,43210,[22212221222,222212]),(1423,12,34210,[1,221])]⟩,
⟨[24310],[43210,24310,32410],[(34210,9,43210,[2,12]),(43120,16,43210,[2121121,12112]),(34120,14,43210,[1,2]),(43201,8,43210,[21]),(34201,10,43210,[1,2]),(43021,17,43210,[1,2]),(34021,18,43210,[222,211]),(43102,17,43210,[1,22]),(34102,18,43210,[222,121212]),(43012,16,43201,[2121121,12112]),(34012,14,43201,[1,2]),(41032,17,43210,[1,121211]),(14032,18,43210,[22212121,11221211]),(31042,18,43210,[2112112221,2221212]),(13042,17,43210,[1,2121211])]⟩,
⟨[14320],[43210,14320,21430,32140],[(34210,16,43210,[2,12]),(23410,11,42310,[2,12]),(43201,18,43210,[212121121,1112121]),(34201,15,42310,[11,2111]),(42301,15,32410,[11,21]),(24301,18,43210,[1112211,2122111]),(32401,18,43210,[11221,211]),(23401,18,43210,[121212,12112121])]⟩,
⟨[34210,43120],[43210,34210,43120,34120],[(42310,16,43210,[1,23]),(21430,11,43210,[1,3]),(43201,13,10432,[2,31]),(42301,18,43210,[1,32131321]),(40321,18,43210,[1,3]),(20431,18,43210,[1,33332]),(42103,18,43210,[1,333]),(21403,18,43210,[1,332]),(40213,13,43102,[1,32]),(20413,18,43210,[1,323213])]⟩,
⟨[34120,21430],[43210,34120,21430,12340],[(34210,11,43210,[3,2]),(42310,11,24310,[3,1]),(24310,14,43210,[3,1]),(32410,14,43210,[33,1]),(23410,11,42310,[3,1]),(43201,18,43210,[313131,2321313]),(34201,17,43210,[3232132,31]),(42301,17,43210,[313231,1323]),(24301,18,43210,[3213231,333332]),(32401,18,43210,[3232131,32]),(23401,17,43210,[1321313,13213])]⟩,
⟨[4321],[43210,4321,10432,21043,32104],[(34210,18,43210,[2,12]),(24310,17,43210,[2,122]),(23410,18,43210,[121212,1121212]),(34120,17,43210,[2111212,1121112]),(31420,15,23410,[22,1222]),(24130,15,23410,[22,12]),(12340,12,24310,[2,12])]⟩,
⟨[24301],[43210,24301,32410,43201,24310,32401],[(34210,13,43210,[2,12]),(43120,18,43210,[21211212111,12112]),(34120,18,43210,[211121112111,111211]),(41032,18,43210,[1121112,121111121])]⟩,
⟨[34210,42310],[43210,34210,42310,24310,32410,23410],[(43120,16,43210,[1,32]),(43201,13,43210,[1,32]),(43021,18,43210,[1,32]),(43102,18,43210,[1,332]),(43012,16,43201,[1,32]),(41032,18,43210,[1,2132131])]⟩,
⟨[24310,34201],[43210,24310,34201,32410,23401,42301],[(34210,13,43210,[3,12]),(43120,18,43210,[323232,2311]),(34120,17,43210,[1,23]),(41032,17,43210,[1,131311]),(14032,18,43210,[33313131,33312])]⟩,
⟨[34210,21430],[43210,34210,21430,12430,21340,12340,43120,34120],[(42310,16,43210,[1,132]),(43201,18,43210,[1,2323212]),(42301,18,43210,[1,132])]⟩,
⟨[34120,42301],[43210,34120,42301,24031,31402,13042,20413,2143,10324,1234],[(34210,18,43210,[3,212321]),(24310,17,43210,[3,231]),(12430,15,34210,[1,23])]⟩,
⟨[34210,42301],[43210,34210,42301,24301,32401,23401,23410,32410,24310,42310,34201,43201],[(43120,18,43210,[1,23121231]),(41032,18,43210,[1,213131])]⟩,
⟨[24310,34120],[43210,24310,34120,32410,13420,42130,41320,14230,23140,31240,21430,12340],[(34210,16,43210,[3,211]),(43201,18,43210,[323232,3211]),(34201,17,43210,[1,32])]⟩,
⟨[34120,40321],[43210,34120,40321,4231,30412,41032,3142,14302,1423,32041,42103,10243,23401,24013,2314,12430,31204,20134,21340,13024],[(34210,18,43210,[3,2])]⟩,
⟨[34210,41320],[43210,34210,41320,14320,31420,42130,13420,24130,12430,32140,21430,23140,12340,23410,13240,21340,32410,31240,24310,14230,42310,41230,34120,43120],[(43201,18,43210,[1,32])]⟩,
⟨[24310,43021],[43210,24310,43021,32410,4321,24031,43102,30421,2431,14302,32041,4132,24103,40231,31402,3241,10432,12403,30142,2143,14230,32104,4213,20341,41032,41203,13042,10243,21430,13204,20413,40123,31240,3124,12340,30214,2314,14023,1342,21043,42130,21304,42013,23140,10324,23014,1423,20134,41320,13420,40312,31024,3412,12034,34120,34012,1234,42301,23401,34201],[(34210,18,43210,[3,213])]⟩,
⟨[34210,40321],[43210,34210,40321,4321,30421,41032,3421,14032,1432,31042,42103,10432,13042,24103,1342,12403,2143,32104,10342,21403,20143,23104,12043,12304,23410,2134,13240,3214,21043,21304,32410,20134,31240,30214,12034,23140,23014,24310,13204,14230,20341,4213,10324,21034,32140,32014,42310,31204,41230,2341,40213,1324,24130,30241,24013,30124,34021,14203,20314,24301,20431,14320,10423,42130,3241,42013,3124,43021,41203,2314,42301,2431,41320,1423,34201,40231,34120,40123,1234,4132,20413,31024,23401,34012,31402,13420,24031,21430,43201,4231,43120,4123,10234,40132,2413,13024,32401,43012,13402,31420,42031,12430,4312,41302,1243,3142,41023,30412,23041,34102,21340,40312,14302,10243,30142,14023,3412,32041,43102,12340],[]⟩]
def akW (n:Nat)(U:List (List Nat))(Rs:List yO):Bool:=(List.range Rs.length).all λk=>match Rs[k]? with|some r=>amC n U Rs k r|none=>true
theorem alH {n:Nat}{U:List (List Nat)}{a:List yO}(h:akW n U a=true): ∀k (hk:k<a.length),amC n U a k a[k]=true:=λk hk=>by
 have:=Kv.1 h k (Gu.2 hk);rwa [dD hk] at this
theorem amY:akW 1 (oM 1 (List.range 1)) anY=true:=by decide+kernel
theorem anF:akW 2 (oM 2 (List.range 2)) anX=true:=by decide+kernel
theorem anE:akW 3 (oM 3 (List.range 3)) aoA=true:=by decide+kernel
theorem amS:akW 4 (oM 4 (List.range 4)) aoB=true:=by decide+kernel
theorem anC:akW 5 (oM 5 (List.range 5)) aoC=true:=by decide+kernel
def anO (n:Nat)(E C:List (List Nat)):Bool:=decide (C.length<=7)&&(mk1 (λx=>2^xN x) E&&&mk1 (λc=>mk1 (λg=>2^xN (cW c g)) E) C==mk1 (λx=>2^xN x) E)&&C.all λc=>E.contains c
def alQ (n:Nat)(Rs:List yO)(Cs:List (List Nat)):Bool:=(List.range Rs.length).all λk=>match Rs[k]? with|some r=>anO n (r.e n) ((Cs.getD k []).map (dgs n))|none=>true
def akX:Nat->List (List Bool)
 |0=> [[]]
 |m+1=>(akX m).map (true:: ·)++(akX m).map (false:: ·)
theorem akL: ∀m,(akX m).length=2^m
 |0=>rfl
 |m+1=>by
  rw[akX,jZ,jV,jV,akL m,Nat.pow_succ];omega
theorem ajI: ∀l:List Bool,l∈akX l.length
 | []=>List.mem_singleton.2 rfl
 |b::l=>by
  rw[List.length_cons,akX];cases b
  ·exact pH.2 (.inr (uF.2 ⟨l,ajI l,rfl⟩))
  ·exact pH.2 (.inl (uF.2 ⟨l,ajI l,rfl⟩))
section
variable {n:Nat} {P:List Nat->Prop} {L E C:List (List Nat)} {s:List Nat} {fs:List (List Nat)}
open Classical in
theorem anG (n6:n<=6)(l:iX n P)(EL:dW P L)(S:bE n s)(A: ∀x,bE n x->(P x↔cW x s∈E))(u: ∀x∈E,bE n x)(h:anO n E C=true)(nd:fs.Nodup)(all: ∀r∈fs,xJ n P L r):fs.length<=200:=by
 unfold anO at h;simp only[vN,Qf,beq_iff_eq,Kv,List.contains_iff_mem] at h;obtain⟨⟨Q,R⟩,N⟩:=h
 have U:dA (dA s)=s:=by
  have h:=fC S.inv;have:=congrArg (aX s) h;rw[←aV S S.inv S.inv.inv,fC S,cL S.inv.inv,bZ S] at this;exact this
 have back: ∀x,bE n x->cW (cW x (dA s)) s=x:=λx X=>by
  have:=MO X S.inv;rwa [U] at this
 have q: ∀x∈E,P (cW x (dA s)):=λx f=>(A _ (qG (u x f) S.inv)).2 (by rw[back x (u x f)];exact f)
 have w: ∀x,P x-> ∃c∈C,∃g,P g/\cW (cW c (dA s)) g=x:=λx f=>by
  have X:=l.cU f;have m:=(A x X).1 f;have Y:=qG X S;have B:(mk1 (λx=>2^xN x) E).testBit (xN (cW x s))=true:=sI.2 ⟨_,m,by rw[Nat.testBit_two_pow];exact decide_eq_true rfl⟩;rw[←R,Nat.testBit_and,vN] at B;obtain⟨c,t,O⟩:=sI.1 B.2;obtain⟨g,d,J⟩:=sI.1 O;rw[Nat.testBit_two_pow,Qf] at J;have F:=u c (N c t);have K:=u g d;have Z:=qG F K;have e:=IW (by rw[Z.len,Y.len]) (λi hi=>by have:=Z.lt i hi;omega) (λi hi=>by have:=Y.lt i hi;omega) J;refine⟨c,t,cW g (dA s),q g d,?_⟩;rw[ajN F K S.inv,e,MO X S]
 have G: ∀r,xJ n P L r-> ∀y g,P g->P y->(RG L r (cW y g)↔RG L r y):=λr k y g d m=>⟨λh=>by
  have:=k.nm _ _ h (l.inv d)
  rwa [←nX (l.cU m) (l.cU d) (l.cU d).inv,fC (l.cU d),mG (l.cU m)] at this,λh=>k.nm _ _ h d⟩
 have inj: ∀a∈fs,∀b∈fs,(C.map λc=>decide (RG L a (cW c (dA s))))=(C.map λc=>decide (RG L b (cW c (dA s))))->a=b:=λa o b p e=>by
  have j: ∀x,P x->(RG L a x↔RG L b x):=λx f=>by
   obtain⟨c,t,g,d,rfl⟩:=w x f;have m:=q c (N c t);rw[G a (all a o) _ _ d m,G b (all b p) _ _ d m];have:=List.map_inj_left.1 e c t;exact decide_eq_decide.1 this
  have:RG L a=RG L b:=funext λx=>propext ⟨λh=>(j x ((all a o).le x h)).1 h,λh=>(j x ((all b p).le x h)).2 h⟩
  have z:=(all a o).rk;have W:=(all b p).rk;rw[this] at z;exact z.uniq W
 have v:(fs.map λr=>C.map λc=>decide (RG L r (cW c (dA s)))).Nodup:=by
  rw[nPN,List.pairwise_map];rw[nPN] at nd;exact nd.imp_of_mem λ{a b} o p ne e=>ne (inj a o b p e)
 have:=List.Nodup.length_le_of_subset v (l₂:=akX C.length) λx f=>by
  obtain⟨r,_,rfl⟩:=uF.1 f;have:=ajI (C.map λc=>decide (RG L r (cW c (dA s))));rwa [jV] at this
 rw[jV,akL] at this;have:=mT this (Nat.pow_le_pow_right (show 0<2 by omega) Q);have e:2^7=128:=rfl;omega
theorem ajE {a:List yO}{m:List (List Nat)}(l:n<=6)(chk:akW n (oM n (List.range n)) a=true)(j:a.length≠0)(o: ∀r,a[0]? =some r->r.gens= [])(few:alQ n a m=true)(h:iX n P)(t:dW P L)(nd:fs.Nodup)(all: ∀r∈fs,xJ n P L r):fs.length<=200:=by
 have j:0<a.length:=om
 obtain⟨k,s,i,S,p⟩:=akR (V:=bE n) (U:=oM n (List.range n)) l (λx X=>⟨X,alP X⟩) (λx s X S=>qG X S) (alH chk) _ 0 P j (fM _) h (λx d=>h.cU d) (λg b=>by
  have:=o a[0] (dD j);unfold yO.g at b;rw[this] at b
  cases b)
 have c:=alH chk k i;have f:=Kv.1 few k (Gu.2 i);rw[dD i] at f
 have q: ∀x∈a[k].e n,bE n x:=by
  unfold amC at c;simp only[vN,beq_iff_eq,Kv] at c;rw[←c.1.1.1];exact Ma (λx X g b=>X.mul (akC (c.1.1.2 g b))) _ 0 _ λx d=>by rw[List.mem_singleton.1 d];exact bE.one n
 exact anG l h t S p q f nd all
end
theorem aoJ:alQ 1 anY [[0]]=true:=by decide+kernel
theorem aoK:alQ 2 anX [[10],[10,1]]=true:=by decide+kernel
theorem aoH:alQ 3 aoA [[210],[210,120],[210,21,102],[210,120,21]]=true:=by decide+kernel
theorem aoG:alQ 4 aoB [[3210],[3210,2310],[3210,2301],[3210,1320,2130],[3210,321,1032,2103],[3210,2310,3201,2301],[3210,2301,1032,123],[3210,2310,1320],[3210,2310,2301,1032,132],[3210,1320,2130,2301],[3210,2310,1320,2301,321]]=true:=by decide+kernel
theorem aoE:alQ 5 aoC [[43210],[43210,34210],[43210,34120],[43210,24310,32410],[43210,14320,21430,32140],[43210,34210,43120,34120],[43210,34120,21430,12340],[43210,4321,10432,21043,32104],[43210,24310,32410,43201,24301,32401],[43210,34210,24310],[43210,24310,34201],[43210,34210,34120,21430,12430],[43210,34120,24031,2143],[43210,34210,24310,43201,34201,24301],[43210,24310,32410,34120],[43210,34120,12430,21340,32041],[43210,34210,24310,34120,14320],[43210,24310,34120,4321,30421],[43210,34210,24310,34120,14320,24301,4321]]=true:=by decide+kernel
theorem amQ {n:Nat}{P:List Nat->Prop}{L fs:List (List Nat)}(c:1<=n)(b:n<=5)(a:iX n P)(E:dW P L)(nd:fs.Nodup)(all: ∀r∈fs,xJ n P L r):fs.length<=200:=by
 rcases (show n=1∨n=2∨n=3∨n=4∨n=5 by omega) with rfl|rfl|rfl|rfl|rfl
 ·exact ajE om amY (by decide) (λr h=>by cases h;rfl) aoJ a E nd all
 ·exact ajE om anF (by decide) (λr h=>by cases h;rfl) aoK a E nd all
 ·exact ajE om anE (by decide) (λr h=>by cases h;rfl) aoH a E nd all
 ·exact ajE om amS (by decide) (λr h=>by cases h;rfl) aoG a E nd all
 ·exact ajE om anC (by decide) (λr h=>by cases h;rfl) aoE a E nd all
theorem ajG {α:Type}(p:α->Bool): ∀A:List α,A.length=(A.filter p).length+(A.filter λx=>!p x).length
 | []=>rfl
 |a::A=>by
  have b:=ajG p A;cases h:p a<;>simp [List.filter_cons,h]<;>omega
section
variable {n:Nat} {G K:List Nat->Prop} {L M:List (List Nat)}
theorem alD (b:iX n K)(F:dW K M): ∀(m:Nat) (A:List (List Nat)),A.length<=m->A.Nodup->(∀x∈A,bE n x)->(∀x∈A,∀k,K k->aX k x∈A)->M.length∣A.length
 |_, [],_,_,_,_=>Nat.dvd_zero _
 |0,a::A,h,_,_,_=>by simp at h
 |m+1,a::A,h,nd,hP,cl=>by
  have c:=hP a Ab
  obtain⟨C,q⟩: ∃C,M.map (λk=>aX k a)=C:=⟨_,rfl⟩
  have l: ∀x,x∈C↔ ∃k,K k/\aX k a=x:=λx=>by
   rw[←q,uF];exact exists_congr λk=>and_congr_left λ_=>F.mem k
  have o:C.Nodup:=by
   rw[←q,nPN,List.pairwise_map];refine (nPN.1 F.nodup).imp_of_mem λ{x y} f v ne e=>ne ?_
   have X:=b.cU ((F.mem x).1 f);have Y:=b.cU ((F.mem y).1 v);have:=congrArg (λz=>aX z (dA a)) e;rwa [aV X c c.inv,aV Y c c.inv,fC c,bZ X,bZ Y] at this
  have u:((a::A).filter λx=>C.contains x).length=M.length:=by
   have p:((a::A).filter λx=>C.contains x).Perm C:=(List.perm_ext_iff_of_nodup (nd.filter _) o).2 λx=>by
    rw[CH,List.contains_iff_mem];refine⟨λh=>h.2,λh=>⟨?_,h⟩⟩;obtain⟨k,i,rfl⟩:=(l x).1 h;exact cl a Ab k i
   rw[p.length_eq,←q,jV]
  rw[ajG (λx=>C.contains x) (a::A),u];refine Nat.dvd_add (Nat.dvd_refl _) (alD b F m _ ?_ (nd.filter _) (λx f=>hP x (CH.1 f).1) λx f k i=>?_)
  ·have:=ajG (λx=>C.contains x) (a::A)
   have pos:=HJ ((F.mem _).2 b.one);rw[List.length_cons] at h this;omega
  ·obtain⟨r,t⟩:=CH.1 f
   refine CH.2 ⟨cl x r k i,?_⟩;rw[Bool.not_eq_true'] at t ⊢;refine Bool.eq_false_iff.2 λs=>Bool.eq_false_iff.1 t ?_
   rw[List.contains_iff_mem] at s ⊢;obtain⟨w,d,e⟩:=(l _).1 s;have X:=hP x r;have j:=b.cU i;refine (l x).2 ⟨aX (dA k) w,b.mul (b.inv i) d,?_⟩;rw[aV j.inv (b.cU d) c,e,←aV j.inv j X,iE j,cL X]
theorem lag (b:iX n G)(d:iX n K)(E:dW G L)(F:dW K M)(le: ∀x,K x->G x):M.length∣L.length:=
 alD d F _ L (fM _) E.nodup (λx a=>b.cU ((E.mem x).1 a)) λx a k c=>(E.mem _).2 (b.mul (le k c) ((E.mem x).1 a))
end
theorem amD {p:Nat->Option Ay.Fn}{rd:Option Nat}{a b c:C}{k:Nat}{d:List V}{h:H}{Q:E->List V->H->Prop}{v:V}(J:List V->H->Prop)(i:Nh p rd a b d h (λe vs h'=>e= .norm/\J vs h') v)(h2: ∀vs h',J vs h'->Wp p rd c vs h' Q):Nh p rd a b d h (vH k (On p rd c Q)) v:=by
 have f: ∀e vs h',(e= .norm/\J vs h')->vH k (On p rd c Q) e vs h':=λe vs h' q=>by
  obtain⟨rfl,q⟩:=q;exact h2 vs h' q
 cases v with
 |bool t=>
  cases t
  ·exact Wp.mono (show Wp p rd b d h _ from i) f
  ·exact Wp.mono (show Wp p rd a d h _ from i) f
 |_=>exact (show False from i).elim
structure PrM (n:Nat)(G:List Nat->Prop)(hh:H)(p q:V×V)(last:Bool):Prop where
 ex: ∃K K' O R O' R',GC (λ_=>False) hh (.agg [.int .i64 (n:Int),p.1,p.2]) n O R K/\GC (λ_=>False) hh (.agg [.int .i64 (n:Int),q.1,q.2]) n O' R' K'/\(∀x,K x->K' x)/\(∀x,K x-> ∀g,G g->K (cW x g))/\(last=true-> ∀x,K x↔G x)
theorem PrM.mono {n:Nat}{G:List Nat->Prop}{h h':H}{p q:V×V}{d:Bool}(m:PrM n G h p q d)(f:Fr h h'):PrM n G h' p q d:=by
 obtain⟨K,i,O,R,k,j,a,b,c⟩:=m.ex;exact⟨K,i,O,R,k,j,a.mono f,b.mono f,c⟩
theorem ajA {h:H}{v:V}{n:Nat}{ls:List (V×V)}(s:SV h v 3 (Kr n ls)): ∃id off,Sl v 3 ls.length id off/\ ∀i (hi:i<ls.length) (hh:H),Fr h hh->hh.row id (off+i*3) 3=some [.int .i64 (n:Int),ls[i].1,ls[i].2]:=by
 obtain⟨id,off,c,a,k⟩:=SV.shape s ls.length (lC n ls) om;refine⟨id,off,c,λi hi hh f=>?_⟩;obtain⟨j,l,b,d⟩:=Lw s hi;obtain⟨rfl,rfl⟩:=abC c b om;rw[DL f (a om)];exact d
theorem st3 {hz:H}{D:Nat}{x y z a b:V}{d:Int}(g:hz.get D=some (.cells false [x,y,z]))(c:a.one=true)(h:b.one=true): ∃h',Wj hz 3 (.ptr D 0) (.agg [.int .i64 d,a,b])=some h'/\h'.next=hz.next/\h'.get D=some (.cells false [.int .i64 d,a,b])/\ ∀q,q≠D->h'.get q=hz.get q:=by
 obtain⟨h',k,f,i,j⟩:=pJ hz D [.int .i64 d,a,b];exact⟨h',by rw[bW hz D 0 (v:= .int .i64 d) rfl c h,g,cF,k],f,i,j⟩
theorem alA (u:V)(l:List Int)(m k:Int)(h:H)(hu:SI h u l)(hl:(l.length:Int)<=2^63- 1):
  Ev T 7 [u,.int .i64 m,.int .i64 k] h (λv h'=>v= .bool true/\Fr h h'):=by
 refine cV oQ rfl ?_
 simp(disch:=omega)only[go_sem,oQ,aD]
 refine (akT h).mono ?_
 rintro _ h1 ⟨rfl,f1⟩
 simp(disch:=omega)only[go_sem]
 refine (akY u l 5 h1 (hu.mono f1) om om om).mono ?_
 rintro _ h2 ⟨n,vg,a9,rfl,k7,c0,F5,gP,sg,f2⟩
 obtain⟨B,hB⟩: ∃B,h2.next=B:=⟨_,rfl⟩
 obtain⟨h3,e3,n3,g3,o3,f3⟩:=dF hB [.int .i64 0,.aE]
 obtain⟨h4,e4,n4,g4,o4⟩:=pJ h3 B [.int .i64 (n:Int),vg]
 have i8:Fr h2 h4:=⟨om,λid z7=>by rw[o4 id om,o3 id om]⟩
 have wg:vg.one=true/\dE vg vg=true:=by obtain⟨ws,s,_⟩:=sg;exact⟨s.cK.2.1,s.dE⟩
 have B0:h4.cell B 0=some (.int .i64 (n:Int)):=by rw[H.aF g4];rfl
 have C5:h4.cell B 1=some vg:=by rw[H.aF g4];rfl
 have A9:=(f1.trans f2).trans i8
 simp(disch:=omega)only[go_sem,hB,e3,Go.Ay.Gv h3 B 0 (v:= .int .i64 (n:Int)) (u:=vg) rfl wg.1,g3,TJ,e4,B0,C5]
 refine (ajJ n vg a9 h4 k7 c0 gP om (sg.mono i8)).mono ?_
 rintro v6 h5 ⟨o,EA,lA,s6,f5⟩
 have g5:h5.get B=some (.cells false [.int .i64 (n:Int),vg]):=by rw[f5.get B om];exact g4
 simp(disch:=omega)only[go_sem,PB g5]
 refine (anL vg n a9 h5 k7 om om (sg.mono (i8.trans f5)) gP).mono ?_
 rintro _ h6 ⟨vc,O,R,rfl,s3,f6⟩
 obtain⟨u1,w1,rfl,a1,b1,_,_⟩:=s3.sl
 obtain⟨C,hC⟩: ∃C,h6.next=C:=⟨_,rfl⟩
 obtain⟨h7,e7,n7,g7,o7,f7⟩:=dF hC [.int .i64 0,.aE,.aE]
 obtain⟨h8,e8,n8,g8,o8⟩:=pJ h7 C [.int .i64 (n:Int),u1,w1]
 have d9:Fr h6 h8:=⟨om,λid z7=>by rw[o8 id om,o7 id om]⟩
 have gc:GC (λ_=>False) h8 (.agg [.int .i64 (n:Int),u1,w1]) n O R (bX n (· ∈a9)):=(s3.lH λ_ _ h=>h.elim).mono d9
 obtain⟨G,w4⟩: ∃G,bX n (· ∈a9)=G:=⟨_,rfl⟩
 rw[w4] at gc EA
 have gG: ∀g∈a9,G g:=λg hg=>by rw[←w4];exact bX.of gP hg
 have hG:=gc.dN
 have hI:=gc.isc
 have F0:=f5.next
 have G4:=f6.next
 have rC: ∀U,Fr h8 U->U.row C 0 3=some [.int .i64 (n:Int),u1,w1]:=λU f=>aI (by rw[f.get C om];exact g8)
 have cB: ∀U,Fr h8 U->U.get B=some (.cells false [.int .i64 (n:Int),vg]):=λU f=>by rw[f.get B om,d9.get B om,f6.get B om];exact g5
 simp(disch:=omega)only[go_sem,hC,e7,bW h7 C 0 (v:= .int .i64 (n:Int)) (u:=u1) (w:=w1) rfl a1 b1,g7,cF,e8,rC h8 (Fr.refl _)]
 refine (Eu _ n O R G h8 gc).mono ?_
 rintro _ h9 ⟨vd,pd,ld,rfl,sd,ad,qd,f9⟩
 simp(disch:=omega)only[go_sem,rC h9 f9]
 refine (Nq _ n O R G h9 (gc.mono f9)).mono ?_
 rintro _ s4 ⟨vw,pw,lw,rfl,sw,aw,qw,r6⟩
 have q6:=f9.trans r6
 simp(disch:=omega)only[go_sem,rC s4 q6]
 refine (Ph _ n O R G s4 (gc.mono q6)).mono ?_
 rintro _ v8 ⟨vh,ph,L,K,Q,rfl,eL,ik,cl,sh,ah,m9⟩
 have p7:=q6.trans m9
 simp(disch:=omega)only[go_sem,rC v8 p7]
 refine (Cf _ n O R G v8 (gc.mono p7)).mono ?_
 rintro vn i5 ⟨L',D4,Tj⟩
 obtain rfl:=eL.symm.trans D4
 have E:=(dM gc.dN gc.isc).1
 have C6:=(dM gc.dN gc.isc).2
 rw[eL] at E C6
 have y4:o=L:=EA.uniq E
 subst y4
 obtain⟨Tj,e0⟩:=Tj
 have J:=p7.trans e0
 rcases Tj with ⟨vl,pn,ns,rfl,q3,l2,sn,an⟩|⟨rfl,fs,C0,t3,E3⟩
 case inr=>exact absurd (amQ k7 c0 hG E C0 t3) om
 have d0:decide ((0:Int)≠0)=false:=rfl
 have p9:=aM.length ad
 have p0:=aM.length aw
 have v3:=aM.length ah
 have E7:0<ld.length:=(Ax.1 qd.hd).1
 have E5:0<lw.length:=(Ax.1 qw.hd).1
 obtain⟨rl,cb,z8⟩:=cl.ex
 have H3:0<Q.length:=(Ax.1 cb.hd).1
 have bd:ld.length<=6000:=qd.short hG hI ad
 have bw:lw.length<=6000:=qw.short hG hI aw
 have bh:Q.length<=6000:=by have:=cb.len;omega
 have c9:bT vd=some (.int .i64 (ld.length:Int)):=by unfold bT;rw[SV.len sd (n:=ld.length) (by rw[lC,p9]) om];rfl
 have o6:bT vw=some (.int .i64 (lw.length:Int)):=by unfold bT;rw[SV.len sw (n:=lw.length) (by rw[lC,p0]) om];rfl
 have b8:bT vh=some (.int .i64 (Q.length:Int)):=by unfold bT;rw[SV.len sh (n:=Q.length) (by rw[lC,v3]) om];rfl
 have z1:decide ((ld.length:Int)=0)=false:=decide_eq_false om
 have z2:decide ((lw.length:Int)=0)=false:=decide_eq_false om
 have z3:decide ((Q.length:Int)=0)=false:=decide_eq_false om
 have Fd:=r6.trans (m9.trans e0)
 have Fw:=m9.trans e0
 obtain⟨C1,x5,o9,i2⟩:=ajA (sd.mono Fd)
 obtain⟨B6,x7,n2,i0⟩:=ajA (sw.mono Fw)
 obtain⟨F6,H0,n1,l4⟩:=ajA (sh.mono e0)
 rw[p9] at o9
 rw[p0] at n2
 rw[v3] at n1
 have G2:=J.next
 have D0:0<=(n:Int):=om
 have a7:dE u1 u1=true/\dE w1 w1=true:=by
  obtain⟨_,_,_,_,e,sO,_,_,sR,_,_⟩:=gc.cw;cases e;exact⟨SV.dE sO,SV.dE sR⟩
 simp(disch:=omega)only[go_sem,d0,Ag,c9,o6,b8,z1,z2,z3]
 refine bJ (λvs U=>(∃g:Nat->V,vs= [g 0,.int .i64 m,.int .i64 k,g 3,.bool true,.ptr B 0,v6,g 7,g 8,g 9,g 10,g 11,g 12,g 13,vl,g 15,g 16,g 17,g 18,g 19,g 20,g 21,g 22,g 23,g 24,g 25,g 26,g 27,g 28,g 29,g 30,g 31,g 32,g 33,g 34,g 35,g 36,g 37,g 38,g 39,g 40,g 41,g 42,g 43,g 44,g 45,g 46,g 47])/\Fr i5 U) ?_ ?_
 ·refine aH (λk' vs U=> ∃(i:Nat),(∃g:Nat->V,vs= [g 0,.int .i64 m,.int .i64 k,g 3,.bool true,.ptr B 0,v6,.ptr C 0,vd,g 9,vw,g 11,vh,g 13,vl,g 15,.int .i64 (i:Int),g 17,g 18,g 19,g 20,g 21,g 22,g 23,g 24,g 25,g 26,g 27,g 28,g 29,g 30,g 31,g 32,g 33,g 34,g 35,g 36,g 37,g 38,g 39,g 40,g 41,g 42,g 43,g 44,g 45,g 46,g 47])/\i<=Q.length+ld.length+lw.length/\Fr i5 U/\k'=Q.length+ld.length+lw.length-i) (Q.length+ld.length+lw.length)
   ⟨0,aB rfl,iJ _,Fr.refl _,rfl⟩ ?_
  rintro k' a5 U ⟨i,⟨g,rfl⟩,hi,F,rfl⟩
  have es:((Q.length:Int)+(ld.length:Int))+(lw.length:Int)=((Q.length+ld.length+lw.length:Nat):Int):=om
  by_cases t6:(i:Int)<((Q.length+ld.length+lw.length:Nat):Int)
  case neg=>
   have d1:decide ((i:Int)<((Q.length+ld.length+lw.length:Nat):Int))=false:=decide_eq_false t6;simp(disch:=omega)only[go_sem,c9,o6,b8,es,d1];exact⟨aB rfl,F⟩
  have d1:decide ((i:Int)<((Q.length+ld.length+lw.length:Nat):Int))=true:=decide_eq_true t6
  have q1:i<Q.length+ld.length+lw.length:=om
  obtain⟨D,hD⟩: ∃D,U.next=D:=⟨_,rfl⟩
  obtain⟨k1,y7,r3,D6,G7,r0⟩:=dF hD [.int .i64 0,.aE,.aE]
  obtain⟨k2,B9,H5,t7,C2,p3⟩:=dF r3 [.int .i64 0,.aE,.aE]
  have F2:=F.trans (r0.trans p3)
  have w5:k2.get D=some (.cells false [.int .i64 0,.aE,.aE]):=by rw[C2 D om];exact D6
  simp(disch:=omega)only[go_sem,c9,o6,b8,es,d1,hD,y7,r3,B9]
  refine amD (λvs P=> ∃(p q:V×V) (b5:Bool),(∃g:Nat->V,vs= [g 0,.int .i64 m,.int .i64 k,g 3,.bool true,.ptr B 0,v6,.ptr C 0,vd,g 9,vw,g 11,vh,g 13,vl,g 15,.int .i64 (i:Int),.ptr D 0,.ptr (D+1) 0,.bool b5,g 20,g 21,g 22,g 23,g 24,g 25,g 26,g 27,g 28,g 29,g 30,g 31,g 32,g 33,g 34,g 35,g 36,g 37,g 38,g 39,g 40,g 41,g 42,g 43,g 44,g 45,g 46,g 47])/\P.get D=some (.cells false [.int .i64 (n:Int),p.1,p.2])/\P.get (D+1)=some (.cells false [.int .i64 (n:Int),q.1,q.2])/\PrM n G P p q b5/\Fr U P/\D+2<=P.next) ?_ ?_
  ·by_cases c1:(i:Int)<(Q.length:Int)
   ·have d2:decide ((i:Int)<(Q.length:Int))=true:=decide_eq_true c1
    have j8:i<Q.length:=om
    have r1:=l4 i om k2 F2
    obtain⟨Oi,Ri,gi⟩:=aM.get ah i om j8
    generalize ph[i]'(show i<ph.length by omega)=p at r1 gi
    obtain⟨_,p1,p2⟩:=gi.one
    have H6:=F2
    have p4:Fr U k2:=r0.trans p3
    obtain⟨x1,b3,g2,p5,i3⟩:=st3 (hz:=H.mk k2.tr (k2.next+13)) (d:=(n:Int)) w5 p1 p2
    have a6:Fr U x1:=⟨by rw[g2];show U.next<=k2.next+13;omega,λq hq=>by rw[i3 q om];exact p4.get q hq⟩
    have i7:x1.get (D+1)=some (.cells false [.int .i64 0,.aE,.aE]):=by rw[i3 _ om];exact t7
    obtain⟨x2,b2,i9,b9,j4⟩:=st3 (d:=(n:Int)) i7 a1 b1
    have t4:x1.next=k2.next+13:=g2
    have f8:x2.next=k2.next+13:=i9.trans g2
    have Z:Fr U x2:=⟨om,λq hq=>by rw[j4 q om];exact a6.get q hq⟩
    have a3:x2.get D=some (.cells false [.int .i64 (n:Int),p.1,p.2]):=by rw[j4 _ om];exact p5
    have nF:=F.next
    have eb:decide ((i:Int)+1=(Q.length:Int))=decide (i+1=Q.length):=decide_eq_decide.2 om
    have ki:=cb.all _ (zG j8)
    have v0: ∀x,RG o Q[i] x-> ∀g,G g->RG o Q[i] (cW x g):=λx P g hg=>ki.nm x g P hg
    by_cases m1:i+1=Q.length
    ·have n6:decide ((i:Int)+1=(Q.length:Int))=true:=by rw[eb];exact decide_eq_true m1
     simp(disch:=omega)only[go_sem,d2,n1.ixa,r1,rC k2 (J.trans F2),b8,n6,b3,rC x1 (J.trans (F.trans a6)),a7.1,a7.2,b2,Bool.not_true]
     refine⟨p,(u1,w1),true,aB rfl,a3,b9,⟨_,G,Oi,Ri,O,R,gi.mono (e0.trans (F.trans Z)),gc.mono (J.trans (F.trans Z)),ki.le,v0,λ_ x=>?_⟩,Z,om⟩
     have e:=cb.la
     rw[show Q.length- 1=i by omega,dD j8] at e
     have e:Q[i]=rl:=Option.some.inj e
     have:=abY E (UA E ki) ki.le (by rw[jV,e];exact z8) x
     exact this.symm
    ·have n6:decide (((i+1:Nat):Int)=(Q.length:Int))=false:=decide_eq_false om
     have u3:i+1<Q.length:=om
     have r2:=l4 (i+1) om x2 (F.trans Z)
     obtain⟨Oj,Rj,gj⟩:=aM.get ah (i+1) om u3
     generalize ph[i+1]'(show i+1<ph.length by omega)=p' at r2 gj
     obtain⟨_,q0,q9⟩:=gj.one
     obtain⟨x3,f4,j3,c7,i6⟩:=st3 (d:=(n:Int)) b9 q0 q9
     have B3:(i:Int)+1=((i+1:Nat):Int):=om
     have l7:x3.next=k2.next+13:=j3.trans f8
     have a8:Fr U x3:=⟨om,λq hq=>by rw[i6 q om];exact Z.get q hq⟩
     simp(disch:=omega)only[go_sem,d2,n1.ixa,r1,rC k2 (J.trans F2),b8,n6,b3,rC x1 (J.trans (F.trans a6)),a7.1,a7.2,b2,Bool.not_false,B3,r2,f4]
     obtain⟨t1,t2⟩:=cb.st i _ _ (dD j8) (dD u3)
     obtain⟨⟨j,hj,A8,ej⟩,_⟩:=Fv hG E ki ik t1
     have gw:=(Gw ki (ik.lt hj) A8).1
     rw[←ej,←t2] at gw
     refine⟨p,p',false,aB rfl,by rw[i6 D om];exact a3,c7,⟨_,_,Oi,Ri,Oj,Rj,gi.mono (e0.trans (F.trans a8)),gj.mono (e0.trans (F.trans a8)),λx ⟨j,hj,e⟩=>⟨j,gw j hj,e⟩,v0,λh=>by cases h⟩,a8,om⟩
   have d2:decide ((i:Int)<(Q.length:Int))=false:=decide_eq_false c1
   have H1:Fr i5 k2:=F2
   have p4:Fr U k2:=r0.trans p3
   have nF:=F.next
   have l5: ∀(vv:V) (w:Bool) (g1:List nE) (ps:List (V×V)) (id a0 j:Nat) (hj:j<g1.length) (D2:ps.length=g1.length) (hp: ∀a (ha:a<ps.length) (hz:H),Fr i5 hz->hz.row id (a0+a*3) 3=some [.int .i64 (n:Int),ps[a].1,ps[a].2]) (hs:uC n w (O,R) g1) (o1:aM (GD (λ_=>False) i5 n w G) ps g1),
     ∃x1 x2,(Wj (H.mk k2.tr (k2.next+7)) 3 (.ptr D 0) (.agg [.int .i64 (n:Int),(ps[j]'om).1,(ps[j]'om).2])=some x1)/\Fr U x1/\(Wj x1 3 (.ptr (D+1) 0) (.agg [.int .i64 (n:Int),u1,w1])=some x2)/\Fr U x2/\x2.next=k2.next+7/\
      x2.get D=some (.cells false [.int .i64 (n:Int),(ps[j]'om).1,(ps[j]'om).2])/\x2.get (D+1)=some (.cells false [.int .i64 (n:Int),u1,w1])/\PrM n G x2 (ps[j]'om) (u1,w1) false/\
      (∀(h0:0<j),∃x3,Wj x2 3 (.ptr (D+1) 0) (.agg [.int .i64 (n:Int),(ps[j- 1]'om).1,(ps[j- 1]'om).2])=some x3/\Fr U x3/\x3.next=k2.next+7/\x3.get D=some (.cells false [.int .i64 (n:Int),(ps[j]'om).1,(ps[j]'om).2])/\x3.get (D+1)=some (.cells false [.int .i64 (n:Int),(ps[j- 1]'om).1,(ps[j- 1]'om).2])/\PrM n G x3 (ps[j]'om) (ps[j- 1]'om) false):=by
    intro vv w g1 ps id a0 j hj D2 hp hs o1
    obtain⟨Kj,gj,_⟩:=aM.get o1 j om hj
    obtain⟨_,p1,p2⟩:=gj.one
    obtain⟨Sj,mj⟩:=akB hG hI hs j _ (dD hj)
    obtain⟨x1,b3,g2,p5,i3⟩:=st3 (hz:=H.mk k2.tr (k2.next+7)) (d:=(n:Int)) w5 p1 p2
    have t4:x1.next=k2.next+7:=g2
    have a6:Fr U x1:=⟨om,λq hq=>by rw[i3 q om];exact p4.get q hq⟩
    have i7:x1.get (D+1)=some (.cells false [.int .i64 0,.aE,.aE]):=by rw[i3 _ om];exact t7
    obtain⟨x2,b2,i9,b9,j4⟩:=st3 (d:=(n:Int)) i7 a1 b1
    have f8:x2.next=k2.next+7:=i9.trans g2
    have Z:Fr U x2:=⟨om,λq hq=>by rw[j4 q om];exact a6.get q hq⟩
    have a3:x2.get D=some (.cells false [.int .i64 (n:Int),(ps[j]'om).1,(ps[j]'om).2]):=by rw[j4 _ om];exact p5
    have eK:Kj=Sj:=aiU.uniq ⟨gj.dN,gj.isc,λx h=>mj.le x ((Ti mj.dN mj.isc x).1 ((Ti gj.dN gj.isc x).2 h)),λy g hy hg=>(Ti gj.dN gj.isc _).1 ((Ti mj.dN mj.isc _).2 (mj.nm y g ((Ti mj.dN mj.isc _).1 ((Ti gj.dN gj.isc _).2 hy)) hg))⟩ mj
    subst eK
    have v7: ∀x,Kj x-> ∀g,G g->Kj (cW x g):=λx P g hg=>mj.nm x g P hg
    refine⟨x1,x2,b3,a6,b2,Z,f8,a3,b9,⟨Kj,G,_,_,O,R,gj.mono (F.trans Z),gc.mono (J.trans (F.trans Z)),mj.le,v7,λh=>by cases h⟩,λh0=>?_⟩
    have u8:j- 1<g1.length:=om
    obtain⟨Ki,gi,_⟩:=aM.get o1 (j- 1) om u8
    obtain⟨_,q0,q9⟩:=gi.one
    obtain⟨x3,f4,j3,c7,i6⟩:=st3 (d:=(n:Int)) b9 q0 q9
    have l7:x3.next=k2.next+7:=j3.trans f8
    have a8:Fr U x3:=⟨om,λq hq=>by rw[i6 q om];exact Z.get q hq⟩
    obtain⟨A',B',ma,mb,le⟩:=anK hG hI hs (dD u8) (by rw[show j- 1+1=j by omega];exact dD hj)
    obtain rfl:=mb.uniq mj
    have D7: ∀x,A' x->Ki x:=λx P=>(Ti gi.dN gi.isc x).1 ((Ti ma.dN ma.isc x).2 P)
    exact⟨x3,f4,a8,l7,by rw[i6 D om];exact a3,c7,⟨_,Ki,_,_,_,_,gj.mono (F.trans a8),gi.mono (F.trans a8),λx P=>D7 x (le x P),v7,λh=>by cases h⟩⟩
   by_cases c2:(i:Int)<(Q.length:Int)+(ld.length:Int)
   ·have d3:decide ((i:Int)<(Q.length:Int)+(ld.length:Int))=true:=decide_eq_true c2
    obtain⟨j,hj⟩: ∃j,i-Q.length=j:=⟨_,rfl⟩
    have o0:j<ld.length:=om
    have ej:(i:Int)-(Q.length:Int)=(j:Int):=om
    have r1:=i2 j om k2 F2
    obtain⟨x1,x2,b3,a6,b2,Z,i9,a3,b9,pm,o5⟩:=l5 vd false ld pd C1 x5 j o0 p9 i2 qd (aM.mono (λ_ _ x=>x.go (Fx.of Fd) λ_ _ h=>h) ad)
    by_cases h0:0<j
    ·have d4:decide ((0:Int)<(j:Int))=true:=decide_eq_true om
     obtain⟨x3,f4,a8,j3,j7,c7,m0⟩:=o5 h0
     have n9:(j:Int)- 1=((j- 1:Nat):Int):=om
     have r2:=i2 (j- 1) om x2 (F.trans Z)
     simp(disch:=omega)only[go_sem,d2,b8,c9,d3,ej,o9.ixa,r1,rC k2 (J.trans F2),b3,rC x1 (J.trans (F.trans a6)),a7.1,a7.2,b2,d4,n9,r2,f4]
     exact⟨_,_,false,aB rfl,j7,c7,m0,a8,om⟩
    ·have d4:decide ((0:Int)<(j:Int))=false:=decide_eq_false om
     simp(disch:=omega)only[go_sem,d2,b8,c9,d3,ej,o9.ixa,r1,rC k2 (J.trans F2),b3,rC x1 (J.trans (F.trans a6)),a7.1,a7.2,b2,d4]
     exact⟨_,_,false,aB rfl,a3,b9,pm,Z,om⟩
   ·have d3:decide ((i:Int)<(Q.length:Int)+(ld.length:Int))=false:=decide_eq_false c2
    obtain⟨j,hj⟩: ∃j,i-Q.length-ld.length=j:=⟨_,rfl⟩
    have o0:j<lw.length:=om
    have ej:(i:Int)-(Q.length:Int)-(ld.length:Int)=(j:Int):=om
    have r1:=i0 j om k2 F2
    obtain⟨x1,x2,b3,a6,b2,Z,i9,a3,b9,pm,o5⟩:=l5 vw true lw pw B6 x7 j o0 p0 i0 qw (aM.mono (λ_ _ x=>x.go (Fx.of Fw) λ_ _ h=>h) aw)
    by_cases h0:0<j
    ·have d4:decide ((0:Int)<(j:Int))=true:=decide_eq_true om
     obtain⟨x3,f4,a8,j3,j7,c7,m0⟩:=o5 h0
     have n9:(j:Int)- 1=((j- 1:Nat):Int):=om
     have r2:=i0 (j- 1) om x2 (F.trans Z)
     simp(disch:=omega)only[go_sem,d2,b8,c9,d3,ej,n2.ixa,r1,rC k2 (J.trans F2),b3,rC x1 (J.trans (F.trans a6)),a7.1,a7.2,b2,d4,n9,r2,f4]
     exact⟨_,_,false,aB rfl,j7,c7,m0,a8,om⟩
    ·have d4:decide ((0:Int)<(j:Int))=false:=decide_eq_false om
     simp(disch:=omega)only[go_sem,d2,b8,c9,d3,ej,n2.ixa,r1,rC k2 (J.trans F2),b3,rC x1 (J.trans (F.trans a6)),a7.1,a7.2,b2,d4]
     exact⟨_,_,false,aB rfl,a3,b9,pm,Z,om⟩
  rintro a5 P ⟨p,q,b5,⟨g,rfl⟩,gD,r4,pm,fx,nx⟩
  obtain⟨K1,K2,O1,R1,O2,R2,k9,m5,z0,y2,m1⟩:=pm.ex
  have a4:=J.trans (F.trans fx)
  have C9:=cB P a4
  have w3:dE q.1 q.1=true/\dE q.2 q.2=true:=by
   obtain⟨_,_,_,_,e,sO,_,_,sR,_,_⟩:=m5.cw;simp only[V.agg.injEq,List.cons.injEq,and_true,true_and] at e;rw[e.1,e.2];exact⟨SV.dE sO,SV.dE sR⟩
  have fb:=(Fr.refl P).bA (n:=P.next+10) om
  simp(disch:=omega)only[go_sem,aI gD,H.aF C9,aI r4]
  refine (ajQ _ n O1 R1 K1 _ (k9.mono fb) c0).mono ?_
  rintro q8 hy ⟨A1,E1,l1,s1,fy⟩
  have b6:=fb.trans fy
  have F9:=b6.next
  have s7:hy.get (D+1)=some (.cells false [.int .i64 (n:Int),q.1,q.2]):=by rw[b6.get _ om];exact r4
  simp(disch:=omega)only[go_sem,H.aF (cB hy (a4.trans b6)),aI s7,w3.1,w3.2]
  refine (ajQ _ n O2 R2 K2 _ (m5.mono b6) c0).mono ?_
  rintro w2 hz ⟨A2,E2,H2,s2,fz⟩
  have k0:=b6.trans fz
  have m4:=s1.mono fz
  have b4:=m4.lens
  rw[jV] at b4
  have c4:=(s6.mono (f6.trans (d9.trans (a4.trans k0)))).lens
  rw[jV] at c4
  have l8:0<A1.length:=HJ ((E1.mem _).2 k9.dN.one)
  have d5:decide ((A1.length:Int)=0)=false:=decide_eq_false om
  simp(disch:=omega)only[go_sem,Ag,b4,d5,H.aF (cB hz (a4.trans k0))]
  refine (akM q8 vg n A1 a9 K1 hz c0 k9.dN E1 om om m4 (sg.mono (i8.trans (f5.trans (f6.trans (d9.trans (a4.trans k0)))))) gP λx P g hg=>y2 x P g (gG g hg)).mono ?_
  rintro _ hw ⟨rfl,fw⟩
  have g6:=k0.trans fw
  simp(disch:=omega)only[go_sem,Ag,Bool.not_true]
  obtain⟨_,_,x8,z9,D9,D1,c1⟩:=akV (m4.mono fw)
  refine bJ (λvs hv=>(∃g:Nat->V,vs= [g 0,.int .i64 m,.int .i64 k,g 3,.bool true,.ptr B 0,v6,.ptr C 0,vd,g 9,vw,g 11,vh,g 13,vl,g 15,.int .i64 (i:Int),g 17,g 18,.bool b5,g 20,g 21,q8,g 23,g 24,g 25,g 26,g 27,g 28,g 29,g 30,g 31,g 32,g 33,g 34,g 35,g 36,g 37,g 38,g 39,g 40,g 41,g 42,g 43,g 44,g 45,g 46,g 47])/\Fr hw hv) ?_ ?_
  ·refine aH (λk' vs hv=> ∃(t:Nat),(∃g:Nat->V,vs= [g 0,.int .i64 m,.int .i64 k,g 3,.bool true,.ptr B 0,v6,.ptr C 0,vd,g 9,vw,g 11,vh,g 13,vl,g 15,.int .i64 (i:Int),g 17,g 18,.bool b5,g 20,g 21,q8,w2,.int .i64 (t:Int),g 25,g 26,g 27,g 28,g 29,g 30,g 31,g 32,g 33,g 34,g 35,g 36,g 37,g 38,g 39,g 40,g 41,g 42,g 43,g 44,g 45,g 46,g 47])/\t<=A1.length/\Fr hw hv/\k'=A1.length-t) A1.length
    ⟨0,aB rfl,iJ _,Fr.refl _,rfl⟩ ?_
   rintro k' a5 hv ⟨t,⟨g,rfl⟩,ht,fv,rfl⟩
   by_cases i4:(t:Int)<(A1.length:Int)
   case neg=>
    have d6:decide ((t:Int)<(A1.length:Int))=false:=decide_eq_false i4;simp(disch:=omega)only[go_sem,b4,d6];exact⟨aB rfl,fv⟩
   have d6:decide ((t:Int)<(A1.length:Int))=true:=decide_eq_true i4
   have v9:t<A1.length:=om
   obtain⟨b1,ct,st⟩:=c1 t v9
   have kx:=(E1.mem _).1 (bD (d:= []) v9)
   generalize A1.getD t []=x at st kx
   generalize D9.getD t V.undef=vx at ct st
   have B1:hv.cell x8 (z9+t)=some vx:=by rw[fv.cell b1];exact ct
   simp(disch:=omega)only[go_sem,b4,d6,D1.ixa,B1]
   refine (anI w2 vx n A2 x hv om om (λg hg=>m5.dN.cU ((E2.mem g).1 hg)) (k9.dN.cU kx) E2.asc (s2.mono (fw.trans fv)) (st.mono fv)).mono ?_
   rintro _ F7 ⟨C4,C7⟩
   rcases C4 with ⟨jj,rfl,_,_⟩|⟨x9,_⟩
   ·have d7:decide ((jj:Int)<0)=false:=decide_eq_false om
    simp(disch:=omega)only[go_sem,d7]
    rw[show (t:Int)+1=((t+1:Nat):Int) from om]
    exact⟨A1.length-(t+1),om,t+1,aB rfl,om,fv.trans C7,rfl⟩
   ·exact absurd ((E2.mem x).2 (z0 x kx)) x9
  rintro a5 hv ⟨⟨g,rfl⟩,fv⟩
  have ei:(i:Int)+1=((i+1:Nat):Int):=om
  cases b5 with
  |true=>
   have e1:A1=o:=E1.uniq ⟨E.asc,λx=>(E.mem x).trans (m1 rfl x).symm⟩;have d8:decide ((A1.length:Int)≠(o.length:Int))=false:=decide_eq_false (by rw[e1];simp);simp(disch:=omega)only[go_sem,Ag,b4,c4,d8];rw[ei];exact⟨Q.length+ld.length+lw.length-(i+1),om,i+1,aB rfl,om,F.trans (fx.trans (g6.trans fv)),rfl⟩
  |false=>
   simp(disch:=omega)only[go_sem,Ag];rw[ei];exact⟨Q.length+ld.length+lw.length-(i+1),om,i+1,aB rfl,om,F.trans (fx.trans (g6.trans fv)),rfl⟩
 rintro a5 U ⟨⟨g,rfl⟩,F⟩
 have s5:=J.trans F
 have D3:=s6.mono (f6.trans (d9.trans s5))
 obtain⟨c4,e6,B2,B5,m8,c5,c6⟩:=akV D3
 have E4:0<o.length:=HJ ((E.mem _).2 hG.one)
 have pk: ∀z:Int,∃j:Nat,z%(o.length:Int)=(j:Int)/\j<o.length:=λz=>by
  have h1:=Int.emod_nonneg z (b:=(o.length:Int)) om;have h2:=Int.emod_lt_of_pos z (b:=(o.length:Int)) om;exact⟨(z%(o.length:Int)).toNat,om,om⟩
 obtain⟨jx,B4,r7⟩:=pk m
 obtain⟨jy,y5,r5⟩:=pk k
 obtain⟨bx,cx,sx⟩:=c6 jx r7
 obtain⟨E6,cy,sy⟩:=c6 jy r5
 have gx:G (o.getD jx []):=(E.mem _).1 (bD r7)
 have gy:G (o.getD jy []):=(E.mem _).1 (bD r5)
 obtain⟨x,P⟩: ∃x,o.getD jx []=x:=⟨_,rfl⟩
 obtain⟨y,hy⟩: ∃y,o.getD jy []=y:=⟨_,rfl⟩
 rw[P] at sx gx
 rw[hy] at sy gy
 generalize m8.getD jx V.undef=vx at cx sx
 generalize m8.getD jy V.undef=vy at cy sy
 have j9:=SV.dE sx
 have v2:=(Fr.refl U).bA (n:=U.next+16) om
 simp(disch:=omega)only[go_sem,c4]
 refine (akK m (o.length:Int) _ om om).mono ?_
 rintro _ _ ⟨rfl,rfl⟩
 rw[B4]
 simp(disch:=omega)only[go_sem,c5.ixa,cx]
 refine (akK k (o.length:Int) _ om om).mono ?_
 rintro _ _ ⟨rfl,rfl⟩
 rw[y5]
 simp(disch:=omega)only[go_sem,c5.ixa,cx,cy,j9]
 have X:=hG.cU gx
 have Y:=hG.cU gy
 obtain⟨cj,j5⟩: ∃cj:Nat->List (List Nat),(λi=>(o.take i).flatMap λa=> [cW x a,cW y a])=cj:=⟨_,rfl⟩
 have u6:cj 0= []:=by rw[←j5];simp
 have x0: ∀i,i<o.length->cj (i+1)=cj i++ [cW x (o.getD i []),cW y (o.getD i [])]:=λi hi=>by
  rw[←j5];show (o.take (i+1)).flatMap _=_;rw[List.take_succ_eq_append_getElem hi,List.flatMap_append,List.getD,dD hi]
  rfl
 refine bJ (λvs P=> ∃a2 wm,(∃g:Nat->V,vs= [g 0,g 1,g 2,g 3,.bool true,.ptr B 0,v6,g 7,g 8,g 9,g 10,g 11,g 12,g 13,vl,g 15,g 16,g 17,g 18,g 19,g 20,g 21,g 22,g 23,g 24,g 25,g 26,a2,g 28,g 29,g 30,g 31,g 32,g 33,g 34,g 35,g 36,g 37,g 38,g 39,g 40,g 41,g 42,g 43,g 44,g 45,g 46,g 47])/\cY P a2 1 wm U.next/\fW (dO a2) P wm (cj o.length)/\Fr U P) ?_ ?_
 ·refine aH (λk' vs P=> ∃(i:Nat) (a2:V) (wm:List V),(∃g:Nat->V,vs= [g 0,g 1,g 2,g 3,.bool true,.ptr B 0,v6,g 7,g 8,g 9,g 10,g 11,g 12,g 13,vl,g 15,g 16,g 17,g 18,g 19,g 20,g 21,g 22,g 23,g 24,vx,vy,a2,.int .i64 (i:Int),g 29,g 30,g 31,g 32,g 33,g 34,g 35,g 36,g 37,g 38,g 39,g 40,g 41,g 42,g 43,g 44,g 45,g 46,g 47])/\i<=o.length/\cY P a2 1 wm U.next/\fW (dO a2) P wm (cj i)/\(cj i).length=2*i/\Fr U P/\k'=o.length-i) o.length
   ⟨0,.aE, [],aB rfl,iJ _,cY.aE _ _ _,by rw[u6];trivial,by rw[u6];rfl,v2,rfl⟩ ?_
  rintro k' a5 g0 ⟨i,a2,wm,⟨g,rfl⟩,hi,ow,j1,y9,c3,rfl⟩
  by_cases q1:(i:Int)<(o.length:Int)
  case neg=>
   have d1:decide ((i:Int)<(o.length:Int))=false:=decide_eq_false q1;obtain rfl:i=o.length:=om
   simp(disch:=omega)only[go_sem,c4,d1];exact⟨a2,wm,aB rfl,ow,j1,c3⟩
  have d1:decide ((i:Int)<(o.length:Int))=true:=decide_eq_true q1
  have m7:i<o.length:=om
  obtain⟨b1,ca,sa⟩:=c6 i m7
  have ga:G (o.getD i []):=(E.mem _).1 (bD m7)
  have q2:=x0 i m7
  generalize o.getD i []=a at sa ga q2
  have A:=hG.cU ga
  generalize m8.getD i V.undef=va at ca sa
  have cell: ∀hz,Fr g0 hz->hz.cell B2 (B5+i)=some va:=λhz f=>by rw[(c3.trans f).cell b1];exact ca
  have m6:=SV.dE sa
  simp(disch:=omega)only[go_sem,c4,d1,c5.ixa,cell g0 (Fr.refl _)]
  refine (YV va n a g0 om A (sa.mono c3)).mono ?_
  rintro w9 b0 nw
  have e5:=nw.fr
  have l9:=(AM.pv (W:=λ_=>False) nw id).si
  have q4:=SV.dE l9
  have j2:=(Fr.refl b0).bA (n:=b0.next+20) om
  have k8:=c3.trans e5
  simp(disch:=omega)only[go_sem,c5.ixa,cell b0 e5]
  refine (Lj w9 vx (dA a) x _ (by rw[A.inv.len];omega) (l9.mono j2) (sx.mono (k8.trans j2)) (λj hj=>by rw[X.len];exact A.inv.iN (by rw[←A.inv.len];exact hj))).mono ?_
  rintro x6 l0 ⟨y1,w0,_⟩
  have f0:=j2.trans w0
  have AX:=A.inv.mul X
  simp(disch:=omega)only[go_sem,c5.ixa,cell l0 (e5.trans f0),m6,q4,j9]
  refine (Lj x6 va _ a l0 (by rw[AX.len];omega) y1 (sa.mono (k8.trans f0)) (λj hj=>by rw[A.len];exact AX.iN (by rw[←AX.len];exact hj))).mono ?_
  rintro k3 v5 ⟨m3,w7,y3⟩
  have b7:=f0.trans w7
  simp(disch:=omega)only[go_sem,c5.ixa,cell v5 (e5.trans b7),m6,q4,j9]
  refine (Lj w9 vy (dA a) y v5 (by rw[A.inv.len];omega) (l9.mono b7) (sy.mono (k8.trans b7)) (λj hj=>by rw[Y.len];exact A.inv.iN (by rw[←A.inv.len];exact hj))).mono ?_
  rintro y6 m2 ⟨D5,n5,_⟩
  have e9:=b7.trans n5
  have AY:=A.inv.mul Y
  simp(disch:=omega)only[go_sem,c5.ixa,cell m2 (e5.trans e9),m6,q4,j9]
  refine (Lj y6 va _ a m2 (by rw[AY.len];omega) D5 (sa.mono (k8.trans e9)) (λj hj=>by rw[A.len];exact AY.iN (by rw[←AY.len];exact hj))).mono ?_
  rintro k4 g9 ⟨q5,n0,z4⟩
  have q7:=e9.trans n0
  have r9:=SV.cK m3
  have t5:=SV.cK q5
  have G1:=e5.next
  have G3:b0.next+20<=l0.next:=w0.next
  have G9:=w7.next
  have H4:=n5.next
  have G0:=n0.next
  obtain⟨p8,x4,F4,A3,v4⟩:=LF g9 (b0.next+17) g9.next [k3,k4]
  have j6:Fr g0 p8:=⟨om,λq hq=>by rw[v4 q om,q7.get q om];exact e5.get q hq⟩
  have E8:=aM.length j1
  have E0:cY p8 a2 1 wm U.next:=ow.fr j6
  obtain⟨u0,B7,k6⟩:=E0.push (bytes:=24) (SV.all (sz:=1) (len:=2) (vs:= [k3,k4]) rfl om A3 (.kn 2)) (n:=2*i) (m:=2) om rfl om om om
  simp(disch:=omega)only[go_sem,Tm (H.mk g9.tr (b0.next+17)) ⟨r9.1,r9.2.1⟩ ⟨t5.1,t5.2.1⟩,x4,B7,c5.ixa]
  rw[show (i:Int)+1=((i+1:Nat):Int) from om]
  have E9:=k6.next
  have t9: ∀q,dO a2 q->U.next<=q/\q<g0.next:=λq ⟨a0,mm,c,e⟩=>by
   have:=ow.in _ _ _ _ e;omega
  have B8: ∀id a0 len c8,k3= .sl id a0 len c8->b0.next+20<=id:=λid a0 len c8 e=>by
   have:l0.next<=id:=y3 id a0 len c8 e;omega
  have y8: ∀id a0 len c8,k4= .sl id a0 len c8->b0.next+20<=id:=λid a0 len c8 e=>by
   have:m2.next<=id:=z4 id a0 len c8 e;omega
  have l6:Fx (λq=>q<b0.next+20) g9 u0:=⟨om,λq h1 h2=>by
   have h2: ¬q<b0.next+20:=h2
   rw[k6.old q om (λid a0 mm c e e2=>by have:=t9 id ⟨a0,mm,c,e⟩;omega),v4 q om]⟩
  have hw: ∀q,q<g9.next->dO (.sl p8.next 0 (2*i+2) (.un 1)) q->q<b0.next+20:=λq h1 ⟨a0,mm,c,e⟩=>by cases e;omega
  have e1:aX (aX (dA a) x) a=cW x a:=rfl
  have e2:aX (aX (dA a) y) a=cW y a:=rfl
  rw[e2] at q5
  rw[e1] at m3
  have p6:=n5.trans n0
  have C3:=PV.go (aoP (m3.mono p6) B8) l6 hw
  have A7:=PV.go (aoP q5 y8) l6 hw
  have l3:Fx (dO a2) g0 u0:=⟨om,λq h1 h2=>by
   rw[k6.old q om (λid a0 mm c e e2=>h2 (by rw[e,e2];exact⟨_,_,_,rfl⟩))]
   exact j6.get q h1⟩
  refine⟨o.length-(i+1),om,i+1,_,wm++ [k3,k4],aB rfl,om,k6.own om rfl (by have:=c3.next;omega),?_,?_,⟨by have:=c3.next;omega,λq hq=>?_⟩,rfl⟩
  ·rw[q2]
   exact aM.append (fW.go j1 l3 λq h1 ⟨a0,mm,c,e⟩=>by cases e;omega) ⟨C3,A7,trivial⟩
  ·rw[q2,jZ,y9]
   show 2*i+2=_
   omega
  ·rw[l3.get q (by have:=c3.next;omega) λh=>by have:=t9 q h;omega]
   exact c3.get q hq
 rintro a5 o2 ⟨a2,wm,⟨g,rfl⟩,ow,j1,t0⟩
 have u9:=s5.trans t0
 have u2:SP o2 a2 (cj o.length):=fW.KI ow.sv j1
 have i1: ∀z∈cj o.length,G z/\bE n z:=λz hz=>by
  rw[←j5] at hz;obtain⟨a,ha,hz⟩:=List.mem_flatMap.1 hz;have ga:=(E.mem a).1 (List.mem_of_mem_take ha)
  have:G z:=by
   simp only[zH,List.not_mem_nil,or_false] at hz;rcases hz with rfl|rfl
   ·exact hG.mul (hG.mul (hG.inv ga) gx) ga
   ·exact hG.mul (hG.mul (hG.inv ga) gy) ga
  exact⟨this,hG.cU this⟩
 have F8:(cj o.length).length<=240:=by
  have: ∀l:List (List Nat),(l.flatMap λa=> [cW x a,cW y a]).length=2*l.length:=λl=>by
   induction l with
   |nil=>rfl
   |cons a l ih=>
    rw[List.flatMap_cons,jZ,ih];show 2+2*l.length=2*(l.length+1);rw[Nat.mul_add,Nat.add_comm]
  rw[←j5];show ((o.take o.length).flatMap _).length<=240;rw[this,List.take_length];omega
 simp(disch:=omega)only[go_sem,H.aF (cB o2 u9)]
 refine (ajJ n a2 (cj o.length) o2 k7 c0 (λg hg=>(i1 g hg).2) om u2).mono ?_
 rintro s9 w8 ⟨Aw,Ew,G8,z6,A6⟩
 obtain⟨N,hN⟩: ∃N,bX n (· ∈cj o.length)=N:=⟨_,rfl⟩
 rw[hN] at Ew
 have r8: ∀z,z∈cj o.length↔ ∃a,G a/\(z=cW x a∨z=cW y a):=λz=>by
  rw[←j5];show z∈(o.take o.length).flatMap _↔_;rw[List.take_length,List.mem_flatMap];refine exists_congr λa=>?_
  rw[E.mem a];simp
 have gN:iX n N:=by rw[←hN];exact bX.dN λz hz=>(i1 z hz).2
 have t8: ∀z,N z->G z:=λz hz=>by rw[←hN] at hz;exact bX.le hG (λg hg=>(i1 g hg).1) hz
 have C8: ∀z g,N z->G g->N (cW z g):=λz g hz hg=>by
  rw[←hN] at hz ⊢;refine YN (λg hg=>(i1 g hg).2) (hG.cU hg) (λc hc=>?_) hz;obtain⟨a,ha,e⟩:=(r8 c).1 hc
  have:cW c g∈cj o.length:=(r8 _).2 ⟨aX a g,hG.mul ha hg,by
   rcases e with rfl|rfl
   ·exact .inl (nX X (hG.cU ha) (hG.cU hg)).symm
   ·exact .inr (nX Y (hG.cU ha) (hG.cU hg)).symm⟩
  exact bX.of (λg hg=>(i1 g hg).2) this
 have kN:xJ n G o (Pz o N):=xJ.Pz E gN t8 C8
 have mN:=(q3.mem _).2 kN
 have eN: ∀z,RG o (Pz o N) z↔N z:=λz=>((Dy o N).iff E t8 z).symm
 obtain⟨j0,A0,s8⟩:=zF.1 mN
 have u5:=aM.length an
 have s0:bT vl=some (.int .i64 (ns.length:Int)):=by unfold bT;rw[SV.len sn (n:=ns.length) (by rw[lC,u5]) om];rfl
 obtain⟨G6,G5,v1,w6⟩:=ajA sn
 rw[u5] at v1
 have k5:=F.trans (t0.trans A6)
 simp(disch:=omega)only[go_sem]
 refine bJ (λvs P=>(∃g:Nat->V,vs= [g 0,g 1,g 2,g 3,.bool true,g 5,g 6,g 7,g 8,g 9,g 10,g 11,g 12,g 13,g 14,g 15,g 16,g 17,g 18,g 19,g 20,g 21,g 22,g 23,g 24,g 25,g 26,g 27,g 28,g 29,g 30,.bool true,g 32,g 33,g 34,g 35,g 36,g 37,g 38,g 39,g 40,g 41,g 42,g 43,g 44,g 45,g 46,g 47])/\Fr w8 P) ?_ ?_
 ·refine aH (λk' vs P=> ∃(t:Nat),(∃g:Nat->V,vs= [g 0,g 1,g 2,g 3,.bool true,.ptr B 0,v6,g 7,g 8,g 9,g 10,g 11,g 12,g 13,vl,g 15,g 16,g 17,g 18,g 19,g 20,g 21,g 22,g 23,g 24,g 25,g 26,g 27,g 28,g 29,s9,.bool (decide (j0<t)),.int .i64 (t:Int),g 33,g 34,g 35,g 36,g 37,g 38,g 39,g 40,g 41,g 42,g 43,g 44,g 45,g 46,g 47])/\t<=ns.length/\Fr w8 P/\k'=ns.length-t) ns.length
   ⟨0,aB rfl,iJ _,Fr.refl _,rfl⟩ ?_
  rintro k' a5 P ⟨t,⟨g,rfl⟩,ht,fx,rfl⟩
  by_cases i4:(t:Int)<(ns.length:Int)
  case neg=>
   have d1:decide ((t:Int)<(ns.length:Int))=false:=decide_eq_false i4;obtain rfl:t=ns.length:=om
   simp(disch:=omega)only[go_sem,s0,d1];rw[decide_eq_true A0];exact⟨aB rfl,fx⟩
  have d1:decide ((t:Int)<(ns.length:Int))=true:=decide_eq_true i4
  have u4:t<ns.length:=om
  have r1:=w6 t om P (k5.trans fx)
  obtain⟨Ot,Rt,gt⟩:=aM.get an t om u4
  have kt:=(q3.mem _).1 (zG u4)
  obtain⟨r,hr⟩: ∃r,ns[t]=r:=⟨_,rfl⟩
  rw[hr] at gt kt
  generalize pn[t]'(show t<pn.length by omega)=p at r1 gt
  have a4:=J.trans (k5.trans fx)
  have fb:=(Fr.refl P).bA (n:=P.next+8) om
  simp(disch:=omega)only[go_sem,s0,d1,v1.ixa,r1,H.aF (cB P a4)]
  refine (ajQ _ n Ot Rt _ _ (gt.mono ((k5.trans fx).trans fb)) c0).mono ?_
  rintro u7 hy ⟨A1,E1,l1,s1,fy⟩
  have b6:=fb.trans fy
  have b4:=s1.lens
  rw[jV] at b4
  have l8:0<A1.length:=HJ ((E1.mem _).2 gt.dN.one)
  have d5:decide ((A1.length:Int)=0)=false:=decide_eq_false om
  have dv:o.length%A1.length=0:=Nat.mod_eq_zero_of_dvd (lag hG gt.dN E E1 kt.le)
  simp(disch:=omega)only[go_sem,Ag,b4,d5,H.aF (cB hy (a4.trans b6))]
  refine (akM u7 vg n A1 a9 _ hy c0 gt.dN E1 om om s1 (sg.mono (i8.trans (f5.trans (f6.trans (d9.trans (a4.trans b6)))))) gP λz hz g hg=>kt.nm z g hz (gG g hg)).mono ?_
  rintro _ hw ⟨rfl,fw⟩
  have em:Int.tmod (o.length:Int) (A1.length:Int)=((o.length%A1.length:Nat):Int):=rfl
  have d6:decide (((o.length%A1.length:Nat):Int)≠0)=false:=decide_eq_false om
  have z5:decide ((A1.length:Int)=0)=false:=d5
  have g6:=b6.trans fw
  have et:decide (j0<t+1)=(decide (j0<t)||decide (t=j0)):=by
   rw[←Bool.decide_or];exact decide_eq_decide.2 om
  cases hs:decide (j0<t) with
  |true=>
   rw[hs,Bool.true_or] at et;simp(disch:=omega)only[go_sem,Ag,Bool.not_true,c4,b4,em,d6,z5];rw[show (t:Int)+1=((t+1:Nat):Int) from om];refine⟨ns.length-(t+1),om,t+1,?_,om,fx.trans g6,rfl⟩;rw[et];exact aB rfl
  |false=>
   rw[hs,Bool.false_or] at et;simp(disch:=omega)only[go_sem,Ag,Bool.not_true,c4,b4,em,d6,z5]
   have sm: ∀z:List (List Nat),(∀q∈z,bE n q)-> ∀q∈z.map zi,q.length<1000000:=λz hz q hq=>by
    obtain⟨w,hw,rfl⟩:=uF.1 hq;rw[aQ,(hz w hw).len];omega
   refine (Vi u7 s9 (A1.map zi) (Aw.map zi) hw (s1.mono fw) (z6.mono (fx.trans g6)) (by rw[jV];omega) (by rw[jV];omega) (sm _ λq hq=>gt.dN.cU ((E1.mem q).1 hq)) (sm _ λq hq=>gN.cU ((Ew.mem q).1 hq))).mono ?_;rintro _ F3 ⟨rfl,D8⟩;have y0:ns.Nodup:=q3.srt.imp λ{a b} h e=>by rw[e,By.irrefl] at h;cases h
   have A5:decide (A1.map zi=Aw.map zi)=decide (t=j0):=decide_eq_decide.2 ⟨λe=>by
    have e:=map_inj (λ_ _=>Vl) e;subst e;have eK:RG o r=N:=funext λz=>propext ((E1.mem z).symm.trans (Ew.mem z))
    have k2:=Dy o N;have k1:=kt.rk;rw[eK] at k1;have e3:=k1.uniq k2;rw[←hr,←s8] at e3
    exact (List.getElem_inj y0).1 e3,λe=>by
    subst e;have e3:r=Pz o N:=by rw[←hr];exact s8
    have:A1=Aw:=E1.uniq ⟨Ew.asc,λz=>by rw[e3];exact (Ew.mem z).trans (eN z).symm⟩
    rw[this]⟩
   rw[A5];simp(disch:=omega)only[go_sem];rw[show (t:Int)+1=((t+1:Nat):Int) from om];refine⟨ns.length-(t+1),om,t+1,?_,om,fx.trans (g6.trans D8),rfl⟩;rw[et];exact aB rfl
 rintro a5 P ⟨⟨g,rfl⟩,fx⟩
 simp(disch:=omega)only[go_sem]
 exact A9.trans (f5.trans (f6.trans (d9.trans (J.trans (k5.trans fx)))))
end Go.Proofs.YtcdbmkidaecdiaaGreat
