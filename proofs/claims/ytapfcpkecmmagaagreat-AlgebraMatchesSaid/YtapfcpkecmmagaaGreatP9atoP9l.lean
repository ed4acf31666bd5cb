/- Texts of the claim. -/
import Derived.Test.YtapfcpkecmmagaaGreatP6ktoP8r
import Derived.Test.YtapfcpkecmmagaaGreatP5etoR1
import Derived.Test.YtapfcpkecmmagaaGreatDp2toP5d
set_option maxHeartbeats 64000000
namespace Go.Proofs.YtapfcpkecmmagaaGreat
open Go Go.Ay Go.Pm
set_option maxRecDepth 100000
open Classical in
noncomputable def fstK (a:List Nat)(n i:Nat):List Nat:=(List.range i).filter λj=>decide (gW a n j)
theorem fstK_succ (a:List Nat)(n i:Nat):(gW a n i->fstK a n (i+1)=fstK a n i++ [i])/\(¬gW a n i->fstK a n (i+1)=fstK a n i):=by
 classical
 unfold fstK;rw[List.range_succ,List.filter_append];constructor
 ·intro h;simp [List.filter,h]
 ·intro h;simp [List.filter,h]
theorem fstK_len (a:List Nat)(n i:Nat):(fstK a n i).length<=i:=by
 unfold fstK;have:=List.length_filter_le (λj=> @decide (gW a n j) (Classical.propDecidable _)) (List.range i);rwa [zU] at this
def itK (a:List Nat)(i s:Nat):List Nat:=(List.range s).map λt=>it a t i
theorem itK_succ (a:List Nat)(i s:Nat):itK a i (s+1)=itK a i s++ [it a s i]:=by
 unfold itK;rw[List.range_succ,List.map_append];rfl
theorem rall_ok (u:V)(n:Nat)(a:List Nat)(h:H)(hn:n<=64)(A:bV n a)(hu:SI h u (zi a)):
  Ev T 77 [u] h (λv h'=> ∃ws,Own h' v 1 ws h.next/\PVs (λq=>q<h.next) h' ws (mP a n)/\Fr h h'):=by
 refine bH c_ref01_all rfl rfl ?_
 have lu:=hu.lens
 rw[aQ,A.len] at lu
 obtain⟨id,off,sh,a0,hc⟩:=hu.open
 rw[aQ,A.len] at sh a0 hc
 simp(disch:=omega)only[go_sem,c_ref01_all,aF,lu,mks_bools h n om]
 obtain⟨S,hS⟩:=JR h.next
 obtain⟨U,e1,n1,g1,o1,f1⟩:=dN hS (rc n λ_=>V.bool false)
 rw[hS,e1]
 refine aH (λk' f w=> ∃(i:Nat) (G:V) (Y:List V),(∃g:Nat->V,f= [u,g 1,G,.sl S 0 n (.kn n),aB i,g 5,g 6,g 7,g 8,g 9])/\i<=n/\Own w G 1 Y (S+1)/\PVs (λq=>q<=S∨BlkS G q) w Y ((fstK a n i).map (Ii a))/\
   w.get S=some (.cells false (rc n λj=> .bool (snB a i 0 j)))/\S<w.next/\Fr h w/\k'=n-i) n
  ⟨0,.aD, [],aA rfl,fF _,Own.aD _ _ _,trivial,by rw[g1,show (rc n λj=>V.bool (snB a 0 0 j))=rc n λ_=>V.bool false from aY λj _=>by rw[snB_zero]],om,f1,rfl⟩ ?_
 clear g1 e1 o1 f1 n1 U
 rintro k' f d ⟨i,G,Y,⟨g,rfl⟩,hi,ow,Q,gS,b1,F,rfl⟩
 by_cases a2:(i:Int)<(n:Int)
 case neg=>
  have d1:=bJ a2;obtain rfl:i=n:=om
  simp(disch:=omega)only[go_sem,lu,d1];exact⟨Y,ow.le om,PVs.weak Q λq _ N=> .inl om,F⟩
 have d1:=bM a2
 have k:i<n:=om
 have x:=λj off m c (e:G=V.sl j off m c)=>ow.in j off m c e
 have lw:=All2.length Q
 rw[iR] at lw
 have lf:=fstK_len a n i
 obtain⟨p0,p1,_⟩:=jX A k
 have a2:=Fy A k
 simp(disch:=omega)only[go_sem,lu,d1]
 refine bX (λvs w=> ∃(y:V) (l:List Nat),(∃g:Nat->V,vs= [u,g 1,G,.sl S 0 n (.kn n),aB i,y,g 6,g 7,g 8,g 9])/\(gW a n i->l=Ii a i)/\(¬gW a n i->l= [])/\Own w y 1 (ints (zi l)) d.next/\
   w.get S=some (.cells false (rc n λj=> .bool (snB a (i+1) 0 j)))/\d.next<=w.next/\ ∀q,q<d.next->q≠S->w.get q=d.get q) ?_ ?_
 ·refine aH (λk' f w=> ∃(s:Nat) (y:V),(∃g:Nat->V,f= [u,g 1,G,.sl S 0 n (.kn n),aB i,y,aB (it a s i:Nat),g 7,g 8,g 9])/\s<=mT a i/\(¬gW a n i->s=0)/\Own w y 1 (ints (zi (itK a i s))) d.next/\
    w.get S=some (.cells false (rc n λj=> .bool (snB a i s j)))/\d.next<=w.next/\(∀q,q<d.next->q≠S->w.get q=d.get q)/\k'=mT a i-s) (mT a i)
   ⟨0,.aD,aA rfl,fF _,λ_=>rfl,Own.aD _ _ _,gS,eS _,λ_ _ _=>rfl,rfl⟩ ?_
  clear g
  rintro k' f J ⟨s,y,⟨g,rfl⟩,hs,a3,K,r,n3,O,rfl⟩
  have kl:=tI A k s
  have cS:J.cell S (it a s i)=some (.bool (snB a i s (it a s i))):=gU r kl
  have e3:decide (((it a s i:Nat):Int)<0)=false:=bJ om
  have e4:decide ((n:Int)<=((it a s i:Nat):Int))=false:=bJ om
  by_cases B:snB a i s (it a s i)=true
  ·rw[B] at cS
   simp(disch:=omega)only[go_sem,e3,e4,cS]
   by_cases p:gW a n i
   ·have a1:s=mT a i:=by
     have:=snB_new A k p hs;rw[B] at this;have h5: ¬s<mT a i:=λh=>by have:=this.2 h;cases this
     omega
    subst a1;refine⟨y,itK a i (mT a i),aA rfl,λ_=>rfl,λh=>absurd p h,K,?_,n3,O⟩;rw[r];congr 2;exact aY λj _=>by rw[snB_next A k]
   ·obtain rfl:=a3 p
    refine⟨y, [],aA rfl,λh=>absurd h p,λ_=>rfl,K,?_,n3,O⟩
    rw[r]
    congr 2
    exact aY λj _=>by rw[snB_skip A k p]
  ·have L:snB a i s (it a s i)=false:=by simpa using B
   rw[L] at cS
   have p:gW a n i:=Am λp=>by
    obtain rfl:=a3 p;have d: ∃w,w<i/\ ∃t,it a t w=i:=Am λhn=>p ((sI A k).2 λw hj t e=>hn ⟨w,hj,t,e⟩)
    exact B (snB_iff.2 (.inl d))
   have a1:=(snB_new A k p hs).1 L
   have pt:=bF (vs:=rc n λj=> .bool (snB a i s j)) (off:=it a s i) (by rw[cK];exact kl) J S (.bool true)
   rw[eJ] at pt
   obtain⟨h4,k,n4,g4,R⟩:=mS J S (rc n λj=>if j=it a s i then V.bool true else .bool (snB a i s j))
   rw[k] at pt
   have hr:(rc n λj=>if j=it a s i then V.bool true else .bool (snB a i s j))=rc n λj=> .bool (snB a i (s+1) j):=aY λj _=>by
    rw[snB_step];split<;>rfl
   rw[hr] at g4
   have a8:=K.keep (h':=h4) om λq off m c e N=>R q (by have:=(K.in _ _ _ _ e).2.1;omega)
   have ll:(itK a i s).length=s:=by unfold itK;simp
   obtain⟨h5,e6,n5,g5,o5,f5⟩:=dN (h:=h4) rfl [aB (it a s i:Nat)]
   obtain⟨h6,a6,p6⟩:=(a8.fr f5).push (bytes:=8) (SV.one om g5 (.kn 1)) (n:=s) (m:=1) (by rw[aL,aQ];omega) rfl om om om
   have j:=p6.next
   have ci:h6.cell id (off+it a s i)=some (aB (a.getD (it a s i) 0:Nat)):=by
    have N:=a0 om;have j:=F.next
    have j:h6.get id=d.get id:=by
     rw[p6.old id om (λq o m c e W=>by have:=(K.in _ _ _ _ e).2.1;omega),o5 id om,R id om,O id om om]
    unfold H.cell;rw[j];show d.cell id (off+it a s i)=_;rw[F.cell N,hc _ kl];congr 2;simp [zi,A.len,kl]
   have a4:=bls_i1 h4 ((it a s i:Nat):Int)
   rw[show ints [((it a s i:Nat):Int)]= [aB (it a s i:Nat)] from rfl,e6] at a4
   rw[n5] at a6
   simp(disch:=omega)only[go_sem,e3,e4,cS,r,pt,a4,a6,sh.ixa,ci]
   refine⟨mT a i-(s+1),om,s+1,.sl (h4.next+1) 0 (s+1) (.un 1),?_,om,λh=>absurd p h,?_,?_,om,λq U d=>?_,rfl⟩
   ·rw[show it a (s+1) i=a.getD (it a s i) 0 by rw[nO a s i 1];rfl]
    exact aA rfl
   ·have t:=p6.own (by rw[aL,aQ];omega) rfl (b:=d.next) om
    rw[itK_succ,zi_snoc,iN]
    rw[n5] at t
    exact t
   ·rw[p6.old S om (λq o m c e W=>by have:=(K.in _ _ _ _ e).2.1;omega),o5 S om];exact g4
   ·rw[p6.old q om (λq' o m c e W=>by have:=(K.in _ _ _ _ e).2.1;omega),o5 q om,R q d,O q U d]
 clear g
 rintro f J ⟨y,l,⟨g,rfl⟩,f,b0,K,r,n3,O⟩
 have F3:Fr h J:=⟨by have:=F.next;omega,λq N=>by rw[O q (by have:=F.next;omega) om];exact F.get q N⟩
 have Z:Own J G 1 Y (S+1):=ow.keep n3 λq o m c e N=>O q N (by have:=(x _ _ _ _ e).2.1;omega)
 have g:Fx (λq=>q<=S∨BlkS G q) d J:=⟨n3,λq U d=>O q U (λe=>d (.inl om))⟩
 have P:=PVs.fx Q g
 have lc:dA y=some (aB (l.length:Int)):=by
  have:=SI.lens (show SI J y (zi l) from K.sv);rwa [aQ] at this
 obtain⟨a7,a9⟩:=fstK_succ a n i
 by_cases p:gW a n i
 ·have el:=f p
  have ll:l.length=mT a i:=by rw[el,qF]
  have d2:decide ((0:Int)<(l.length:Int))=true:=bM om
  have pc:PV (λq=>q<=S∨BlkS G q) J y l:=by
   refine⟨K.sv,?_⟩
   cases y with
   |sl q o m c=>
    have h5:=(K.in _ _ _ _ rfl).2.1;rintro (h6|⟨f,f,f,e⟩)
    ·omega
    ·have:=(x _ _ _ _ e).1;omega
   |_=>trivial
  obtain⟨h4,e4,n4,g4,R,f4⟩:=dN (h:=J) rfl [y]
  obtain⟨h5,a5,p5⟩:=(Z.fr f4).push (bytes:=24) (SV.one om g4 (.kn 1)) (n:=(fstK a n i).length) (m:=1) om rfl om om om
  have n5:=p5.next
  rw[n4] at a5
  simp(disch:=omega)only[go_sem,lc,d2,cJ _ (z:= .aD) pc.dR.1 pc.dR.2,e4,a5]
  rw[dY i]
  have x5:Fx (λq=>q<=S∨BlkS G q) J h5:=⟨om,λq U d=>by rw[p5.old q om (λq' o m c e W=>d (.inr ⟨o,m,c,W▸e⟩)),R q om]⟩
  have w5: ∀q,q<J.next->(q<=S∨BlkS (.sl (J.next+1) 0 ((fstK a n i).length+1) (.un 1)) q)->(q<=S∨BlkS G q):=λq U d=>by
   rcases d with d|⟨_,_,_,e⟩
   ·exact .inl d
   ·cases e;omega
  have t:=p5.own om rfl (b:=S+1) om
  rw[n4] at t
  refine⟨n-(i+1),om,i+1,_,_,aA rfl,om,t,?_,?_,om,⟨by have:=F3.next;omega,λq N=>?_⟩,rfl⟩
  ·rw[a7 p,List.map_append,show [i].map (Ii a)= [l] by rw[el];rfl]
   exact (PVs.go P x5 w5).append (PVs.one (PV.go pc x5 w5))
  ·rw[p5.old S om (λq' o m c e W=>by have:=(x _ _ _ _ e).2.1;omega),R S om];exact r
  ·rw[p5.old q om (λq' o m c e W=>by have:=(x _ _ _ _ e).2.1;omega),R q (by have:=F3.next;omega)];exact F3.get q N
 ·have el:=b0 p
  have d2:decide ((0:Int)<(l.length:Int))=false:=by rw[el];rfl
  simp(disch:=omega)only[go_sem,lc,d2]
  rw[dY i]
  exact⟨n-(i+1),om,i+1,G,Y,aA rfl,om,Z,by rw[a9 p];exact P,r,om,F3,rfl⟩
theorem lcm_take {l:List Nat}{k:Nat}(a:k<l.length):lD (l.take (k+1))=lD (l.take k)/Nat.gcd (lD (l.take k)) (l.getD k 0)*l.getD k 0:=by
 unfold lD;rw[take_getD 0 a,List.foldl_append];rfl
theorem lcm_pre {l:List Nat}{m k:Nat}(h:lD l∣m):lD (l.take k)∣m:=by
 rw[pY] at h ⊢;exact λc a=>h c (List.mem_of_mem_take a)
theorem rorder_ok (u:V)(n:Nat)(a:List Nat)(h:H)(n0:1<=n)(hn:n<=7)(A:bV n a)(U:SI h u (zi a)):
  Ev T 123 [u] h (λv h'=>v= .tup [aB (iH a n:Nat),aB 0]/\Fr h h'):=by
 refine bH c_ref01_Order rfl rfl ?_
 simp(disch:=omega)only[go_sem,c_ref01_Order,aF]
 refine (ref_Check_ok u _ h (by rw[aQ,A.len];omega) U).mono ?_
 rw[pck_zi A n0 om]
 rintro _ b ⟨rfl,O⟩
 simp(disch:=omega)only[go_sem]
 refine bB (λB=>(B rfl).elim) (λ_=>?_)
 simp(disch:=omega)only[go_sem]
 refine (rall_ok u n a b om A (U.mono O)).mono ?_
 rintro vl G ⟨b,b,pl,f2⟩
 have sl:=PVs.sp' b.sv pl
 obtain⟨C,x⟩:=JR (mP a n)
 rw[x] at sl
 obtain⟨W,ev,id,K,Z,sh,B⟩:=sp_open sl
 have b: ∀k,lD ((C.map List.length).take k)∣420:=λk=>lcm_pre (by rw[←x];exact ordP_420 A hn)
 have h0: ∀k,0<lD ((C.map List.length).take k):=λk=>Nat.pos_of_dvd_of_pos (b k) om
 have t: ∀k,lD ((C.map List.length).take k)<=420:=λk=>Nat.le_of_dvd om (b k)
 have z: ∀k,k<C.length->(C.getD k []).length<=420:=λk Y=>by
  have e:=b (k+1);rw[pY] at e;refine Nat.le_of_dvd om (e _ ?_);have e:((C.map List.length).take (k+1))=(C.take (k+1)).map List.length:=by rw[List.map_take]
  rw[e];refine pU.2 ⟨C.getD k [],?_,rfl⟩;rw[take_getD [] Y];simp
 have b:C.length<=n:=by
  rw[←x];unfold mP;rw[iR];exact fstK_len a n n
 simp(disch:=omega)only[go_sem]
 refine aH (λQ f w=> ∃(k:Nat),(∃g:Nat->V,f= [g 0,g 1,g 2,g 3,aB ((lD ((C.map List.length).take k):Nat):Int),vl,aB k,g 7,g 8])/\k<=C.length/\Fr G w/\Q=C.length-k) C.length
  ⟨0,aA rfl,fF _,Fr.refl G,rfl⟩ ?_
 rintro Q f o ⟨k,⟨g,rfl⟩,Y,J,rfl⟩
 by_cases s:(k:Int)<(C.length:Int)
 case neg=>
  have F:=bJ s;obtain rfl:k=C.length:=om
  simp(disch:=omega)only[go_sem,W,F];refine⟨?_,(O.trans f2).trans J⟩;rw[yW (by rw[iR];exact eS _),←x];rfl
 have F:=bM s
 have d:k<C.length:=om
 obtain⟨g,e,b⟩:=B k d
 have cell: ∀w,Fr G w->w.cell id (K+k)=some (Z.getD k V.undef):=λw f=>by rw[f.cell g];exact e
 have l:=b.lens
 rw[aQ] at l
 have p:=SV.dJ b
 generalize Z.getD k V.undef=b at cell l p
 obtain⟨m,y⟩:=JR (lD ((C.map List.length).take k))
 obtain⟨c,i⟩:=JR ((C.getD k []).length)
 have N:0<m:=by rw[←y];exact h0 k
 have b:m<=420:=by rw[←y];exact t k
 have b:c<=420:=by rw[←i];exact z k d
 have step:lD ((C.map List.length).take (k+1))=m/Nat.gcd m c*c:=by
  rw[lcm_take (by rw[iR];exact d),y]
  have:(C.map List.length).getD k 0=c:=by
   rw[←i,List.getD,List.getD,Lc,eV d];rfl
  rw[this]
 have j:=t (k+1)
 rw[step] at j
 rw[i] at l
 rw[y]
 simp(disch:=omega)only[go_sem,W,F,sh.ixa,cell o J,l]
 have fb:Fr o (H.mk o.tr (o.next+16)):=(Fr.refl o).bN om
 refine (rgcd_ok m c _ om om).mono ?_
 rintro _ h4 ⟨rfl,b⟩
 have P:=(J.trans fb).trans b
 have b:0<Nat.gcd m c:=Nat.gcd_pos_of_pos_left c N
 have L:((Nat.gcd m c:Nat):Int)≠0:=om
 obtain⟨q,b⟩:=JR (m/Nat.gcd m c)
 have d:q<=m:=by rw[←b];exact Nat.div_le_self ..
 rw[b] at step j
 obtain⟨r,R⟩:=JR (q*c)
 rw[R] at step j
 have ed:((m:Nat):Int).tdiv ((Nat.gcd m c:Nat):Int)=(q:Int):=by
  rw[Int.tdiv_eq_ediv_of_nonneg om,←b];rfl
 have b:(q:Int)*(c:Int)=(r:Int):=by rw[←Int.natCast_mul,R]
 simp(disch:=omega)only[go_sem,cell h4 P,l,ev,p,L,ed,b]
 rw[dY k]
 exact⟨C.length-(k+1),om,k+1,by rw[step];exact aA rfl,om,P,rfl⟩
def wrC (C:LN)(k s j:Nat):Prop:=(∃q,q<k/\j∈C.getD q [])∨j∈(C.getD k []).take s
open Classical in
noncomputable def wrV (C:LN)(x:List Nat)(k s j:Nat):V:=if wrC C k s j then aB (x.getD j 0:Nat) else aB 0
section
variable {O:List (List Int)} {R:List (List (List Int))}
theorem sr_open {h:H}{v:V}(s:SR h v O):dA v=some (aB (O.length:Int))/\dJ v v=true/\v.cells= [v]/\v.one=true/\ ∃(id off:Nat) (ws:List V),Sl v 1 O.length id off/\ ∀i,i<O.length->id<h.next/\h.cell id (off+i)=some (ws.getD i V.undef)/\SI h (ws.getD i V.undef) (O.getD i []):=by
 have d:=s.lens;obtain⟨ws,sv,b⟩:=s;have a:=All2.length b;obtain⟨id,off,e,a,c⟩:=SV.shape sv O.length om om;exact⟨d,SV.dJ sv,(SV.dG sv).1,(SV.dG sv).2.1,id,off,ws,e,λi hi=>⟨a om,by rw[c i om];simp [List.getD,show i<ws.length by omega],Ge b hi⟩⟩
theorem srr_open {h:H}{v:V}(s:SRR h v R):dA v=some (aB (R.length:Int))/\dJ v v=true/\v.cells= [v]/\v.one=true/\ ∃(id off:Nat) (ws:List V),Sl v 1 R.length id off/\ ∀i,i<R.length->id<h.next/\h.cell id (off+i)=some (ws.getD i V.undef)/\SR h (ws.getD i V.undef) (R.getD i []):=by
 obtain⟨ws,sv,b,_⟩:=s;have e:=All2.length b;obtain⟨id,off,d,a,c⟩:=SV.shape sv R.length om om;refine⟨by unfold dA;rw[SV.len sv (n:=R.length) om om];rfl,SV.dJ sv,(SV.dG sv).1,(SV.dG sv).2.1,id,off,ws,d,λi hi=>⟨a om,by rw[c i om];simp [List.getD,show i<ws.length by omega],?_⟩⟩;have:=All2.get b i om hi;rw[List.getD,List.getD,eV (show i<ws.length by omega),eV hi];exact this
structure FrR (n:Nat)(O:List (List Int))(R:List (List (List Int)))(i k:Nat):Prop where
 row: ∀j,j<i->(O.getD j []).length<=n/\(O.getD j []).length=(R.getD j []).length
 perm: ∀j,j<i-> ∀x∈R.getD j [],x.length=n/\pckOk x=true
 last: ∀x∈(R.getD i []).take k,x.length=n/\pckOk x=true
theorem FrR.nat {n:Nat}(f:FrR n O R n 0)(j:R.length=n): ∃R':jL,R=R'.map (List.map zi)/\ ∀g∈R'.flatten,bV n g:=by
 have a: ∀r∈R,∀x∈r,x.length=n/\pckOk x=true:=λr c x b=>by
  obtain⟨i,hi,rfl⟩:=uK.1 c;exact f.perm i om x (by rw[List.getD,eV hi];exact b)
 refine⟨R.map (List.map (List.map Int.toNat)),?_,λg d=>?_⟩
 ·rw[List.map_map]
  refine (List.map_id R).symm.trans (yZ λr c=>?_);show r=(r.map (List.map Int.toNat)).map zi;rw[List.map_map];exact (List.map_id r).symm.trans (yZ λx b=>(pckOk_isP (a r c x b).2).1)
 ·obtain⟨h,e,d⟩:=List.mem_flatten.1 d
  obtain⟨r,c,rfl⟩:=pU.1 e;obtain⟨x,b,rfl⟩:=pU.1 d;have:=(pckOk_isP (a r c x b).2).2;rwa [(a r c x b).1] at this
theorem FrR.next {n:Nat}{i k:Nat}(f:FrR n O R i k)(d:(R.getD i []).length<=k)(c:(O.getD i []).length<=n)(h2:(O.getD i []).length=(R.getD i []).length):FrR n O R (i+1) 0:=by
 have b:=f.last;rw[yW d] at b;refine⟨λj g=>?_,λj g=>?_,λx a=>by rw[List.take_zero] at a;cases a⟩
 ·by_cases e:j=i
  ·subst e;exact⟨c,h2⟩
  ·exact f.row j om
 ·by_cases e:j=i
  ·subst e;exact b
  ·exact f.perm j om
theorem pck_iff {x:List Int}(a:1<=x.length)(h2:x.length<=64):pck x=0↔pckOk x=true:=by
 unfold pck;rw[aZ om];constructor
 ·intro h
  split at h
  ·assumption
  ·omega
 ·intro h;rw[aV h]
theorem rcheck_ok (vc:V)(d:Int)(O:List (List Int))(R:List (List (List Int)))(h:H)(hc:ChI h vc d O R)(hd:d<=7∨64<d)(so:SmallO O)(sr:SmallR R):
  Ev T 104 [vc] h (λv h'=>v= aB (chkE d O R)/\Fr h h'):=by
 have c9:=hc
 obtain⟨vO,vR,rfl,sO,sR⟩:=hc
 refine bH c_ref08_Check rfl rfl ?_
 obtain⟨lO,e2,_,b6,d7,b4,a5,a0,cO⟩:=sr_open sO
 obtain⟨lR,d9,_,a8,b8,a3,a9,q,cR⟩:=srr_open sR
 obtain⟨B,hB⟩:=JR h.next
 obtain⟨b,e1,n1,g1,o1,p⟩:=dN hB [aB d,vO,vR]
 have c0: ∀a,Fr b a->a.cell B 0=some (aB d):=λa f=>by rw[f.cell om,H.aG g1];rfl
 have c1: ∀a,Fr b a->a.cell B 1=some vO:=λa f=>by rw[f.cell om,H.aG g1];rfl
 have W: ∀a,Fr b a->a.cell B 2=some vR:=λa f=>by rw[f.cell om,H.aG g1];rfl
 have rB: ∀a,Fr b a->a.row B 0 3=some [aB d,vO,vR]:=λa f=>aS (by rw[f.get B om];exact g1)
 have bx:=bD h (v:= aB d) (u:=vO) (w:=vR) rfl b6 a8
 by_cases a1:d<1
 ·have x1:=bM a1
  simp(disch:=omega)only[go_sem,c_ref08_Check,aF,bx,hB,e1,c0 b (Fr.refl _),x1]
  exact⟨by unfold chkE;rw[aV (.inl a1)],p⟩
 have x1:=bJ a1
 by_cases a2:64<d
 ·have x2:=bM a2
  simp(disch:=omega)only[go_sem,c_ref08_Check,aF,bx,hB,e1,c0 b (Fr.refl _),x1,x2]
  exact⟨by unfold chkE;rw[aV (.inr a2)],p⟩
 have x2:=bJ a2
 obtain⟨n,rfl⟩: ∃n:Nat,d=(n:Int):=⟨d.toNat,om⟩
 have J:1<=n:=om
 have c5:n<=7:=om
 by_cases d3:O.length=n
 case neg=>
  have x3:decide ((O.length:Int)≠(n:Int))=true:=bM om;simp(disch:=omega)only[go_sem,c_ref08_Check,aF,bx,hB,e1,c0 b (Fr.refl _),x1,x2,c1 b (Fr.refl _),lO,x3];exact⟨by rw[chk_form J om (λf=>d3 f.lo)],p⟩
 have x3:decide ((O.length:Int)≠(n:Int))=false:=bJ om
 by_cases b3:R.length=n
 case neg=>
  have x4:decide ((R.length:Int)≠(n:Int))=true:=bM om;simp(disch:=omega)only[go_sem,c_ref08_Check,aF,bx,hB,e1,c0 b (Fr.refl _),x1,x2,c1 b (Fr.refl _),lO,x3,W b (Fr.refl _),lR,x4];exact⟨by rw[chk_form J om (λf=>b3 f.lr)],p⟩
 have x4:decide ((R.length:Int)≠(n:Int))=false:=bJ om
 simp(disch:=omega)only[go_sem,c_ref08_Check,aF,bx,hB,e1,c0 b (Fr.refl _),x1,x2,c1 b (Fr.refl _),lO,x3,W b (Fr.refl _),lR,x4]
 have U: ¬Frm n O R->chkE (n:Int) O R=3:=chk_form J om
 refine aH (λk' l a=> ∃(i:Nat) (A:V) (t:List V),(∃g:Nat->V,l= [g 0,.ptr B 0,g 2,aB n,A,aB i,g 6,g 7,g 8,g 9,g 10,g 11,g 12,g 13,g 14,g 15])/\i<=n/\Own a A 1 t b.next/\All2 (SI b) t (R.take i).flatten/\FrR n O R i 0/\Fr b a/\k'=n-i) n
   ⟨0,.aD, [],aA rfl,fF _,Own.aD _ _ _,trivial,⟨λj hj=>om,λj hj=>om,λx Z=>by rw[List.take_zero] at Z;cases Z⟩,Fr.refl b,rfl⟩ ?_
 rintro k' l e ⟨i,A,t,⟨g,rfl⟩,hi,ow,G,fr,F,rfl⟩
 by_cases a4:(i:Int)<(n:Int)
 case pos=>
  have d1:=bM a4;have Y:i<n:=om
  obtain⟨i1,ci,si⟩:=cO i om;obtain⟨j1,cj,sj⟩:=cR i om;have lo:=si.lens;have c8:=SV.dJ si;obtain⟨lr,d4,_,_,c6,b5,b0,L,cr⟩:=sr_open sj;have K: ∀a,Fr b a->a.cell d7 (b4+i)=some (a5.getD i V.undef):=λa f=>by rw[(p.trans f).cell i1];exact ci
  have o: ∀a,Fr b a->a.cell b8 (a3+i)=some (a9.getD i V.undef):=λa f=>by rw[(p.trans f).cell j1];exact cj
  generalize a5.getD i V.undef=vo at K lo c8;generalize a9.getD i V.undef=vr at o lr d4 L sj;have e5:(R.getD i []).length<1000000:=sr.2 i om
  by_cases q1:(n:Int)<((O.getD i []).length:Int)
  case pos=>
   have y1:=bM q1;simp(disch:=omega)only[go_sem,d1,c1 e F,W e F,a0.ixa,q.ixa,K e F,o e F,lo,lr,y1];exact⟨by rw[U λf=>by have:=f.row i Y;omega],p.trans (F.bN om)⟩
  have y1:=bJ q1
  by_cases q2:(O.getD i []).length=(R.getD i []).length
  case neg=>
   have y2:decide (((O.getD i []).length:Int)≠((R.getD i []).length:Int))=true:=bM om;simp(disch:=omega)only[go_sem,d1,c1 e F,W e F,a0.ixa,q.ixa,K e F,o e F,lo,lr,y1,y2];exact⟨by rw[U λf=>by have:=f.row i Y;omega],p.trans (F.bN om)⟩
  have y2:decide (((O.getD i []).length:Int)≠((R.getD i []).length:Int))=false:=bJ om;have Fb:Fr b (H.mk e.tr (e.next+23)):=F.bN om;have a7:Own (H.mk e.tr (e.next+23)) A 1 t b.next:=ow.fr ((Fr.refl e).bN om);simp(disch:=omega)only[go_sem,d1,c1 e F,W e F,a0.ixa,q.ixa,K e F,o e F,lo,lr,y1,y2];generalize (H.mk e.tr (e.next+23))=h3 at*;refine aH (λk' l a=> ∃(k:Nat) (A:V) (t:List V),(∃g:Nat->V,l= [g 0,.ptr B 0,g 2,aB n,A,aB i,aB k,g 7,g 8,g 9,g 10,g 11,g 12,g 13,g 14,g 15])/\k<=(R.getD i []).length/\Own a A 1 t b.next/\All2 (SI b) t ((R.take i).flatten++(R.getD i []).take k)/\FrR n O R i k/\Fr b a/\k'=(R.getD i []).length-k) (R.getD i []).length
   ⟨0,A,t,aA rfl,fF _,a7,by rw[List.take_zero,qA];exact G,fr,Fb,rfl⟩ ?_
  clear ow a7 G fr Fb;rintro k' l r ⟨k,A,t,⟨g,rfl⟩,hk,ow,G,fr,s,rfl⟩
  by_cases b2:(k:Int)<((R.getD i []).length:Int)
  case neg=>
   have d2:=bJ b2;have b1:(R.getD i []).length<=k:=om
   rw[yW b1,←take_flat om] at G;simp(disch:=omega)only[go_sem,W r s,q.ixa,o r s,lr,d2];rw[dY i];exact⟨n-(i+1),om,i+1,A,t,aA rfl,om,ow,G,fr.next b1 om q2,s,rfl⟩
  have d2:=bM b2;have P:k<(R.getD i []).length:=om
  obtain⟨k1,ck,sk⟩:=cr k P;have N: ∀a,Fr b a->a.cell c6 (b5+k)=some (b0.getD k V.undef):=λa f=>by rw[(p.trans f).cell k1];exact ck
  generalize b0.getD k V.undef=vx at N sk;have mx:(R.getD i []).getD k []∈R.getD i []:=getD_mem P;obtain⟨x,Z⟩:=JR ((R.getD i []).getD k []);rw[Z] at sk mx;have lx:=sk.lens;have e0:=SV.dJ sk
  by_cases q3:x.length=n
  case neg=>
   have y3:decide ((x.length:Int)≠(n:Int))=true:=bM om;simp(disch:=omega)only[go_sem,W r s,q.ixa,o r s,lr,d2,L.ixa,N r s,lx,y3];exact⟨by rw[U λf=>q3 (f.perm i Y x mx).1],p.trans s⟩
  have y3:decide ((x.length:Int)≠(n:Int))=false:=bJ om;simp(disch:=omega)only[go_sem,W r s,q.ixa,o r s,lr,d2,L.ixa,N r s,lx,y3];refine (ref_Check_ok vx x _ om (sk.mono (p.trans s))).mono ?_;rintro _ h5 ⟨rfl,f5⟩;have Q:=s.trans f5
  by_cases q4:pck x=0
  case neg=>
   have y4:=bM q4;simp(disch:=omega)only[go_sem,y4];exact⟨by rw[U λf=>q4 ((pck_iff om om).2 (f.perm i Y x mx).2)],p.trans Q⟩
  have y4:decide (pck x≠0)=false:=bJ om;have ok:=(pck_iff om om).1 q4;have b7:=G.length
  have d8:((R.take i).flatten++(R.getD i []).take k).length<=400:=by
   have b:=flat_len (m:=7) (R:=R) (i:=i) om (λj hj=>by have:=fr.row j hj;omega);have e:i*7<=7*7:=Nat.mul_le_mul_right 7 om;rw[iZ,xF];omega
  have one:=SV.dG sk;obtain⟨h6,a6,d0,f6,n6,o6⟩:=app_one (v:=vx) (ow.fr f5) Q om (bytes:=24) om;simp(disch:=omega)only[go_sem,y4,W h5 Q,q.ixa,o h5 Q,L.ixa,N h5 Q,cJ _ (z:= .aD) one.1 one.2.1,a6];rw[dY k];refine⟨(R.getD i []).length-(k+1),om,k+1,_,_,aA rfl,om,d0,?_,⟨fr.row,fr.perm,λy hy=>?_⟩,f6,rfl⟩
  ·rw[take_getD [] P,Z,←oF]
   exact G.append ⟨sk.mono p,trivial⟩
  ·rw[take_getD [] P,Z] at hy
   rcases sZ.1 hy with hy|hy
   ·exact fr.last y hy
   ·rw[List.mem_singleton.1 hy];exact⟨q3,ok⟩
 have d1:=bJ a4
 obtain rfl:i=n:=om
 rw[yW om] at G
 obtain⟨R',eR,hP⟩:=fr.nat b3
 have eF:R.flatten=R'.flatten.map zi:=by rw[eR,List.map_flatten]
 have fl:R.flatten.length<=49:=by
  have b:=flat_len (m:=7) (R:=R) (i:=R.length) om (λj hj=>by have:=fr.row j om;omega);have e:R.length*7<=7*7:=Nat.mul_le_mul_right 7 om;rw[yW om] at b;omega
 have e6:R'.flatten.length<=49:=by rw[eF,iR] at fl;exact fl
 have b7:=G.length
 have c4:=Own.lens ow b7
 have d5:decide ((4096:Int)<(R.flatten.length:Int))=false:=bJ om
 rw[eF] at G
 simp(disch:=omega)only[go_sem,d1,c4,d5]
 refine (rmake_ok A i R'.flatten e J c5 om ⟨t,ow.sv,G.mono λ_ _ x=>x.mono F⟩ hP).mono ?_
 rintro _ h3 ⟨vm,O2,R2,rfl,gc,f3⟩
 obtain⟨_,⟨uO,uR,rfl,tO,tR⟩⟩:True/\ChI h3 vm (i:Int) (O2.map zi) (R2.map (List.map zi)):=⟨trivial,gc.ch⟩
 obtain⟨_,_,_,b9,_⟩:=sr_open tO
 obtain⟨_,_,_,d6,_⟩:=srr_open tR
 obtain⟨M,hM⟩:=JR h3.next
 obtain⟨r,e4,n4,g4,o4,f4⟩:=dN hM [aB 0,.aD,.aD]
 have e3:=f3.next
 have nF:=F.next
 have Q:Fr h3 (r.set M (bW [aB i,uO,uR])):=f4.set om _
 have g5:(r.set M (bW [aB i,uO,uR])).get M=bW [aB i,uO,uR]:=H.aT ..
 simp(disch:=omega)only[go_sem,hM,e4,dK r M 0 (v:= aB i) (u:=uO) (w:=uR) rfl b9 d6,g4,cW]
 generalize r.set M (bW [aB i,uO,uR])=h5 at Q g5 ⊢
 have G5:Fr b h5:=(F.trans f3).trans Q
 obtain⟨c3,c7⟩:=gc.small
 simp(disch:=omega)only[go_sem,rB h5 G5,aS g5]
 refine (sameChain_ok _ _ (i:Int) (i:Int) O (O2.map zi) R (R2.map (List.map zi)) h5 (c9.mono (p.trans G5)) (ChI.mono ⟨uO,uR,rfl,tO,tR⟩ Q) so c3 (sr.inn (λj hj x Z=>(fr.perm j om x Z).1) om) c7).mono ?_
 rintro _ h6 ⟨rfl,f6⟩
 have iff:=ChkP.iff (O:=O) J om hP gc.isc
 rw[←eR] at iff
 by_cases hq:(i:Int)=(i:Int)/\O=O2.map zi/\R=R2.map (List.map zi)
 ·have ed:=bM hq
  rw[ed]
  simp(disch:=omega)only[go_sem]
  refine⟨?_,p.trans (G5.trans f6)⟩
  unfold chkE
  rw[aZ om,aV (iff.2 hq.2)]
 ·have ed:=bJ hq
  rw[ed]
  simp(disch:=omega)only[go_sem]
  refine⟨?_,p.trans (G5.trans f6)⟩
  unfold chkE
  rw[aZ om,aZ (λc=>hq ⟨rfl,iff.1 c⟩)]
end
theorem rsizes_ok {W:Nat->Prop}(vc:V)(n:Nat)(O:LN)(R:jL)(G:List Nat->Prop)(h:H)(l:GC W h vc n O R G):
  Ev T 105 [vc] h (λv h'=> ∃S,v= .tup [.sl S 0 (n+1) (.kn (n+1)),.bool true]/\h.next<=S/\S<h'.next/\h'.get S=some (.cells false (rc (n+1) λj=> aB (tN O (n-j) j:Nat)))/\Fr h h'):=by
 obtain⟨z,r,e,sO,sR⟩:=l.ch
 subst e
 refine bH c_ref09_sizes rfl rfl ?_
 have f:=l.isc
 have n0:=l.n0
 have n7:=l.n7
 obtain⟨wO,tO,aO⟩:=sO
 have lO:=aO.length
 rw[iR,f.lo] at lO
 have c:=tO.dG.2.1
 have k:r.one=true:=qZ sR
 obtain⟨B,hB⟩:=JR h.next
 obtain⟨h1,e1,n1,g1,o1,f1⟩:=dN hB [aB n,z,r]
 have bx:=bD h (v:= aB n) (u:=z) (w:=r) rfl c k
 have en:(n:Int)+1=((n+1:Nat):Int):=om
 have P:=mks_zeros h1 (n+1) om
 rw[n1] at P
 obtain⟨J,y,n2,g2,o2,f2⟩:=dN n1 (rc (n+1) λ_=> aB 0)
 rw[y] at P
 have p:J.get B=some (.cells false [aB n,z,r]):=by rw[o2 _ om];exact g1
 have pt: ∀(c:H) (S:Nat) (F:Nat->V) (k:Nat) (v:V),k<n+1->dQ (some (.cells false (rc (n+1) F))) c S k [v]=some (c.set S (some (.cells false (rc (n+1) λj=>if j=k then v else F j)))):=λc S F k v N=>by rw[bF (by rw[cK];exact N),eJ]
 obtain⟨Z,e3,n3,g3,U⟩:=mS J (B+1) (rc (n+1) λj=>if j=n then aB 1 else aB 0)
 have o:Z.get B=some (.cells false [aB n,z,r]):=by rw[U _ om];exact p
 have a1:n<n+1:=om
 simp(disch:=omega)only[go_sem,c_ref09_sizes,aF,bx,hB,e1,H.aG g1,en,P,H.aG p,g2,pt _ _ _ n _ a1,e3,H.aG o]
 have F3:Fr h Z:=⟨om,λk N=>by rw[U _ om,o2 _ om,o1 _ om]⟩
 have a0: ∀i,i<=n->0<tN O (n-i) i/\tN O (n-i) i<=823543:=λi hi=>by
  refine⟨szF_pos _ _ λj h1 J=>(l.row om).1,jK (szF_le (m:=7) om _ _ λj h1 J=>by have:=(l.row (j:=j) om).2;omega) ?_⟩;exact jK (Nat.pow_le_pow_right om (show n-i<=7 by omega)) (by decide)
 refine aH (λq b c=> ∃(i:Nat),(∃g:Nat->V,b= [g 0,.ptr B 0,g 2,g 3,.sl (B+1) 0 (n+1) (.kn (n+1)),aB ((i:Int)- 1),g 6,g 7])/\i<=n/\c.get B=some (.cells false [aB n,z,r])/\
   c.get (B+1)=some (.cells false (rc (n+1) λj=>if i<=j then aB (tN O (n-j) j:Nat) else aB 0))/\B+1<c.next/\Fr h c/\q=i) n
  ⟨n,aA rfl,eS _,o,?_,om,F3,rfl⟩ ?_
 ·rw[g3]
  congr 2
  refine aY λj hj=>?_
  by_cases e:j=n
  ·subst e;rw[aV rfl,aV (eS _),Nat.sub_self];rfl
  ·rw[aZ e,aZ om]
 clear g3 o U n3 e3 Z F3 p g2 o2 n2 y P J f2
 rintro q b h4 ⟨i,⟨g,rfl⟩,hi,gB,gS,nx,F,N⟩
 subst N
 by_cases A:(0:Int)<=(q:Int)- 1
 case neg=>
  have L:=bJ A;obtain rfl:q=0:=om
  simp(disch:=omega)only[go_sem,L];refine⟨B+1,rfl,om,nx,?_,F⟩;rw[gS];congr 2
 have L:=bM A
 obtain⟨i,rfl⟩: ∃i,q=i+1:=⟨q- 1,om⟩
 have b:((i+1:Nat):Int)- 1=(i:Int):=om
 have eI:(i:Int)+1=((i+1:Nat):Int):=om
 rw[b] at L ⊢
 have a:=getD_row aO (i:=i) (by rw[iR,f.lo];omega) .undef []
 rw[gd_map zi (d:= []) (by rw[f.lo];omega)] at a
 obtain⟨f,b,Y,c,c⟩:=(tO.mono F).shape n om om
 have co:h4.cell f (b+i)=some (wO.getD i .undef):=by rw[c i om,List.getD,eV om];rfl
 generalize wO.getD i .undef=b at a co
 have Q:=a.lens
 rw[aQ] at Q
 obtain⟨m,hm⟩:=JR ((O.getD i []).length)
 rw[hm] at Q
 have a:=l.row (j:=i) om
 rw[hm] at a
 have cS:h4.cell (B+1) (i+1)=some (aB ((tN O (n-(i+1)) (i+1):Nat):Int)):=by rw[gU gS om,aV (eS _)]
 obtain⟨s,hs⟩:=JR (tN O (n-(i+1)) (i+1))
 rw[hs] at cS
 have K:=a0 (i+1) om
 rw[hs] at K
 have t:(1000000000000000000:Int).tdiv (m:Int)=((1000000000000000000/m:Nat):Int):=by
  rw[show (1000000000000000000:Int)=((1000000000000000000:Nat):Int) from rfl,Int.tdiv_eq_ediv_of_nonneg om];rfl
 have a:100000000000000000<=1000000000000000000/m:=by
  rw[Nat.le_div_iff_mul_le om];omega
 have a:1000000000000000000/m<=1000000000000000000:=Nat.div_le_self _ _
 have d2:decide (((1000000000000000000/m:Nat):Int)<(s:Int))=false:=bJ om
 have x:(s:Int)*(m:Int)=((m*s:Nat):Int):=by rw[Int.mul_comm];rfl
 have a:m*s<=7*823543:=Nat.mul_le_mul om K.2
 have a:i<n+1:=om
 have b:(m:Int)≠0:=om
 simp(disch:=omega)only[go_sem,L,H.aG gB,Y.ixa,co,Q,eI,cS,t,b,d2,x,gS,pt _ _ _ i _ a]
 refine⟨i,om,i,aA rfl,om,gB,?_,om,?_,rfl⟩
 ·congr 2
  refine aY λj hj=>?_
  by_cases e:j=i
  ·subst e
   rw[aV rfl,aV (eS _),show n-j=(n-(j+1))+1 by omega]
   unfold tN
   rw[hm,hs]
  ·rw[aZ e]
   by_cases y:i+1<=j
   ·rw[aV y,aV om]
   ·rw[aZ y,aZ om]
 ·exact (F.bN om).set om _
def lessN (l:List Nat)(a:Nat):Nat:=(l.filter λb=>decide (b<a)).length
theorem lessN_snoc (l:List Nat)(b a:Nat):lessN (l++ [b]) a=lessN l a+if b<a then 1 else 0:=by
 unfold lessN;rw[List.filter_append,iZ]
 by_cases h:b<a<;>simp [h]
theorem lessN_asc: ∀{S:List Nat},S.Pairwise (· < ·)-> ∀t,t<S.length->lessN S (S.getD t 0)=t
 | [],_,t,h=>by simp at h
 |x::S,hs,0,_=>by
  obtain⟨a,_⟩:=List.pairwise_cons.1 hs;unfold lessN;rw[List.length_eq_zero_iff,List.filter_eq_nil_iff];intro b d;rcases Dw.1 d with e|d
  ·subst e;simp
  ·have:=a b d
   simp;omega
 |x::S,hs,t+1,h=>by
  obtain⟨a,i⟩:=List.pairwise_cons.1 hs;have c:t<S.length:=by simpa using h
  have f:=lessN_asc i t c;unfold lessN at f ⊢;have e:(x::S).getD (t+1) 0=S.getD t 0:=by simp [List.getD]
  have g:x<S.getD t 0:=a _ (by rw[bT c];exact xR c);rw[e,List.filter_cons,aV (by simpa using g),List.length_cons,f]
theorem less_at {l:List Nat}(nd:l.Nodup){j m:Nat}(n:j<l.length)(e:m<l.length):lessN l (l.getD m 0)=j↔m=l.idxOf ((iE l).getD j 0):=by
 have b:=fZ l;have a:=b.length_eq;have f:(iE l).Nodup:=b.nodup_iff.2 nd
 have h:(iE l).Pairwise (· < ·):=by
  rw[DE] at f;exact ((xT l).and f).imp λ⟨a,g⟩=>om
 have i: ∀a,lessN l a=lessN (iE l) a:=λa=>by
  unfold lessN;exact ((b.filter _).length_eq).symm
 have k:l.getD m 0∈iE l:=b.mem_iff.2 (by rw[bT e];exact xR e);obtain⟨t,c,a⟩:=uK.1 k;have d:(iE l).getD t 0=l.getD m 0:=by rw[bT c,a]
 rw[i,←d,lessN_asc h t c];constructor
 ·rintro rfl
  rw[d,bT e,nd.idxOf_getElem]
 ·intro h
  have a:j<(iE l).length:=om
  have i:(iE l).getD j 0∈l:=b.mem_iff.1 (by rw[bT a];exact xR a)
  have g:l.getD m 0=(iE l).getD j 0:=by
   have b:=Za.2 i;rw[h,bT b,List.getElem_idxOf]
  rw[←d,bT c,bT a] at g;exact (List.getElem_inj f).1 g
theorem flat_at {α:Type}(f:Nat->List α){s:Nat}(d:α)(e:0<s): ∀(l:List Nat) (k:Nat),(∀a∈l,(f a).length=s)->k<l.length*s->
  k/s<l.length/\(l.flatMap f).getD k d=(f (l.getD (k/s) 0)).getD (k%s) d
 | [],k,_,h=>by simp at h
 |a::l,k,hl,h=>by
  have m:=hl a (by simp);rw[List.flatMap_cons]
  by_cases g:k<s
  ·rw[Nat.div_eq_of_lt g,Nat.mod_eq_of_lt g]
   refine⟨by simp,?_⟩;rw[List.getD,wE om];simp [List.getD]
  ·have n:=flat_at f d e l (k-s) (λb j=>hl b (yK _ j)) (by rw[List.length_cons,Nat.succ_mul] at h;omega)
   have c:k/s=(k-s)/s+1:=by rw[Nat.div_eq_sub_div e om]
   have i:k%s=(k-s)%s:=Nat.mod_eq_sub_mod om;refine⟨by rw[c,List.length_cons];omega,?_⟩;rw[c,i,List.getD,Cq om,m];have:=n.2;simp only[List.getD,List.getElem?_cons_succ] at this ⊢;exact this
section
variable {n:Nat} {G:List Nat->Prop} {O:LN} {R:jL}
theorem elems_at (f:mH n G)(c:dW n G O R){d i:Nat}{x:List Nat}(hi:i+(d+1)=n)(X:bV n x){k:Nat}(j:0<tN O d (i+1))(m:k<tN O (d+1) i):
  k/tN O d (i+1)<(fI O x i).length/\(iE (fI O x i)).getD (k/tN O d (i+1)) 0∈fI O x i/\
   (cF O R (d+1) i x).getD k []=(cF O R d (i+1) (jO O R x i ((iE (fI O x i)).getD (k/tN O d (i+1)) 0))).getD (k%tN O d (i+1)) []:=by
 have h:(iE (fI O x i)).length=(O.getD i []).length:=by rw[(fZ _).length_eq];simp [fI]
 have g: ∀a,a∈iE (fI O x i)↔a∈fI O x i:=λa=>(fZ _).mem_iff
 obtain⟨b,l⟩:=flat_at (λa=>cF O R d (i+1) (jO O R x i a)) [] j (iE (fI O x i)) k (λa e=>by
  obtain⟨_,_,_,_,_,_,Y,_⟩:=lW f c X om ((g a).1 e)
  exact (xS f c d (i+1) _ om Y).2.2) (by rw[h];exact m)
 refine⟨by rw[←(fZ _).length_eq];exact b,(g _).1 (by rw[bT b];exact xR b),l⟩
end
theorem zi_cell {h hh:H}{v:V}{l:List Nat}{b:Nat}(s:SI h v (zi l))(g:b=l.length): ∃id off,Sl v 1 b id off/\ ∀hh,Fr h hh-> ∀k,k<b->hh.cell id (off+k)=some (aB (l.getD k 0:Nat)):=by
 subst g;obtain⟨id,off,e,a,c⟩:=s.open;rw[aQ] at e a c;refine⟨id,off,e,λhh f k e=>?_⟩;rw[f.cell (a om),c k e];congr 2;rw[zi,gd_map _ (d:=0) e]
theorem off_new {v:V}{b:Nat}(h: ∀id off len cap,v= .sl id off len cap->b<=id):Kj (λq=>q<b) v:=by
 cases v with
 |sl id off len cap=>exact λa=>by have:=h _ _ _ _ rfl;omega
 |_=>trivial
theorem unrank_ok {W:Nat->Prop}(vc:V)(n:Nat)(O:LN)(R:jL)(G:List Nat->Prop)(h:H)(U:GC W h vc n O R G)(S k0:Nat)(hS:S<h.next)
  (gS:h.get S=some (.cells false (rc (n+1) λj=> aB (tN O (n-j) j:Nat)))) (b5:k0<tN O n 0):
  Ev T 106 [vc,.sl S 0 (n+1) (.kn (n+1)),aB k0] h (λv h'=>PV (λq=>q<h.next) h' v ((cF O R n 0 (cH n)).getD k0 [])/\Fr h h'):=by
 obtain⟨vO,vR,e,sO,sR⟩:=U.ch
 subst e
 refine bH c_ref09_unrank rfl rfl ?_
 have l:=U.isc
 have n7:=U.n7
 have hG:=U.grp
 obtain⟨lO,f4,_,d7,f0,c9,b6,r,cO⟩:=sr_open sO
 obtain⟨lR,f4,_,b8,e7,b1,c5,d8,cR⟩:=srr_open sR
 rw[iR,l.lo] at r cO
 rw[iR,l.lr] at d8 cR
 obtain⟨B,hB⟩:=JR h.next
 obtain⟨y,e1,n1,g1,o1,f1⟩:=dN hB [aB n,vO,vR]
 have c0: ∀hh,Fr y hh->hh.cell B 0=some (aB n):=λhh f=>by rw[f.cell om,H.aG g1];rfl
 have c1: ∀hh,Fr y hh->hh.cell B 1=some vO:=λhh f=>by rw[f.cell om,H.aG g1];rfl
 have c2: ∀hh,Fr y hh->hh.cell B 2=some vR:=λhh f=>by rw[f.cell om,H.aG g1];rfl
 have cS: ∀hh,Fr y hh-> ∀j,j<n+1->hh.cell S j=some (aB (tN O (n-j) j:Nat)):=λhh f j hj=>by
  rw[(f1.trans f).cell hS,gU gS hj]
 have bx:=bD h (v:= aB n) (u:=vO) (w:=vR) rfl d7 b8
 simp(disch:=omega)only[go_sem,c_ref09_unrank,aF,bx,hB,e1,c0 y (Fr.refl _)]
 refine (kone_ok n y om).mono ?_
 rintro u h2 ⟨su,f2,hu⟩
 obtain⟨L,A⟩:=JR ((cF O R n 0 (cH n)).getD k0 [])
 rw[A]
 simp(disch:=omega)only[go_sem]
 refine aH (λQ a hh=> ∃(i k:Nat) (u:V) (x:List Nat),(∃g:Nat->V,a= [g 0,.sl S 0 (n+1) (.kn (n+1)),aB k,.ptr B 0,g 4,u,aB i,g 7,g 8,g 9,g 10,g 11,g 12,g 13,g 14,g 15,g 16])/\i<=n/\bV n x/\PV (λq=>q<h.next) hh u x/\k<tN O (n-i) i/\(cF O R (n-i) i x).getD k []=L/\Fr y hh/\Q=n-i) n
  ⟨0,k0,u,_,aA rfl,fF _,bV.one n,⟨su,off_new λ_ _ _ _ e=>by have:=hu _ _ _ _ e;omega⟩,b5,A,f2,rfl⟩ ?_
 clear su f2 A b5 hu
 rintro Q a h3 ⟨i,k,u,x,⟨g,rfl⟩,hi,X,su,hk,A,F,rfl⟩
 by_cases b3:(i:Int)<(n:Int)
 case neg=>
  have d1:=bJ b3;obtain rfl:i=n:=om
  simp(disch:=omega)only[go_sem,c0 h3 F,d1];rw[Nat.sub_self] at hk A;have:k=0:=by unfold tN at hk;omega
  subst this;unfold cF at A;have A:x=L:=A;subst A;exact⟨by rw[←hB];exact su,f1.trans F⟩
 have d1:=bM b3
 have o:i<n:=om
 obtain⟨d,L⟩: ∃d,n-i=d+1:=⟨n-i- 1,om⟩
 have a5:n-(i+1)=d:=om
 rw[L] at hk A
 have sp:0<tN O d (i+1):=szF_pos _ _ λj y h2=>(U.row om).1
 obtain⟨a1,L,a3⟩:=elems_at hG l (d:=d) om X sp hk
 rw[A] at a3
 have cs:=cS h3 F (i+1) om
 rw[a5] at cs
 obtain⟨s,hs⟩:=JR (tN O d (i+1))
 rw[hs] at sp a1 L a3 cs
 have f3:k%s<s:=Nat.mod_lt _ sp
 have nd:=Bk hG l X o
 have la: ∀m,m<(fI O x i).length->(lessN (fI O x i) ((fI O x i).getD m 0)=k/s↔m=(fI O x i).idxOf ((iE (fI O x i)).getD (k/s) 0)):=λm hm=>less_at nd a1 hm
 obtain⟨c,q1,q2,A,q4,A,q6,_⟩:=lW hG l X o L
 rw[q2] at la
 rw[A] at a3 q6
 obtain⟨I,A⟩:=JR (fI O x i)
 have lI:=imgs_len O x i
 have a9: ∀m,m<(O.getD i []).length->I.getD m 0=x.getD ((O.getD i []).getD m 0) 0:=λm hm=>by rw[←A];exact imgs_at hm
 rw[A] at la lI a1
 obtain⟨skip,c4⟩: ∃q,k/s=q:=⟨_,rfl⟩
 rw[c4] at la a1
 have A:=szF_le (O:=O) (m:=7) om d (i+1) λj y h2=>by have:=(U.row (j:=j) om).2;omega
 have A:7^d<=823543:=jK (Nat.pow_le_pow_right om (show d<=7 by omega)) (by decide)
 have A:=szF_le (O:=O) (m:=7) om (d+1) i λj y h2=>by have:=(U.row (j:=j) om).2;omega
 have A:7^(d+1)<=823543:=jK (Nat.pow_le_pow_right om (show d+1<=7 by omega)) (by decide)
 have e3:(k:Int).tdiv (s:Int)=(skip:Int):=by rw[Int.tdiv_eq_ediv_of_nonneg om,←c4];rfl
 have e4:(k:Int).tmod (s:Int)=((k%s:Nat):Int):=by rw[Int.tmod_eq_emod_of_nonneg om];rfl
 have e8:(s:Int)≠0:=om
 have eI:(i:Int)+1=((i+1:Nat):Int):=om
 obtain⟨_,ci,si⟩:=cO i o
 obtain⟨_,cj,sj⟩:=cR i o
 have p: ∀hh,Fr y hh->hh.cell f0 (c9+i)=some (b6.getD i V.undef):=λhh f=>by rw[(f1.trans f).cell (by assumption)];exact ci
 have c8: ∀hh,Fr y hh->hh.cell e7 (b1+i)=some (c5.getD i V.undef):=λhh f=>by rw[(f1.trans f).cell (by assumption)];exact cj
 rw[gd_map zi (d:= []) (by rw[l.lo];exact o)] at si
 rw[gd_map (List.map zi) (d:= []) (by rw[l.lr];exact o)] at sj
 generalize b6.getD i V.undef=A at p si
 generalize c5.getD i V.undef=A at c8 sj
 obtain⟨lr,A,_,_,e9,d0,c6,a6,cr⟩:=sr_open sj
 rw[iR,l.rl i o] at a6 cr
 have Z:=si.lens
 rw[aQ] at Z
 obtain⟨m,hm⟩:=JR ((O.getD i []).length)
 have A:=U.row (j:=i) o
 have d5: ∀j,j<m->(O.getD i []).getD j 0<n:=λj hj=>tW hG l o (getD_mem om)
 rw[hm] at Z lI a9 a6 cr A q1
 obtain⟨A,A,c7,co⟩:=zi_cell (hh:=h) (b:=m) si hm.symm
 obtain⟨idx,A,e0,cx⟩:=zi_cell (hh:=h) (b:=n) su.si X.len.symm
 simp(disch:=omega)only[go_sem,c0 h3 F,d1,eI,cs,e3,e8,e4]
 have A: ∀q:Nat,((if c<q then c else 0:Nat):Int)=(if c<q then (c:Int) else 0):=λq=>by split<;>rfl
 refine aH (λQ a hh=> ∃(q:Nat),(∃g:Nat->V,a= [g 0,.sl S 0 (n+1) (.kn (n+1)),aB (k%s:Nat),.ptr B 0,g 4,u,aB i,aB skip,aB (if c<q then c else 0:Nat),aB q,g 10,g 11,g 12,g 13,g 14,g 15,g 16])/\q<=m/\Fr h3 hh/\Q=m-q) m
  ⟨0,aA rfl,fF _,Fr.refl h3,rfl⟩ ?_
 rintro Q a K ⟨q,⟨g,rfl⟩,A,F4,rfl⟩
 have J:=F.trans F4
 by_cases d9:(q:Int)<(m:Int)
 case neg=>
  have d2:=bJ d9;have a7:q=m:=om
  obtain⟨F,A,sk⟩:=cr c q1;rw[gd_map zi (d:= []) (by rw[l.rl i o];omega)] at sk;have b4: ∀hh,Fr y hh->hh.cell e9 (d0+c)=some (c6.getD c V.undef):=λhh f=>by rw[(f1.trans f).cell F];exact A
  generalize c6.getD c V.undef=vg at b4 sk;have Y:=hG.isP q4.mem;generalize (R.getD i []).getD c []=y at sk Y a3 q6;have d:((if c<q then c else 0:Nat):Int)=(c:Int):=by rw[aV om]
  simp(disch:=omega)only[go_sem,c1 K J,r.ixa,p K J,Z,d2,c2 K J,d8.ixa,c8 K J,d,a6.ixa,b4 K J];refine (kmul_ok vg u y x K (by rw[Y.len];omega) (sk.mono (f1.trans J)) (su.si.mono F4) (λj hj=>by rw[X.len];exact Y.dZ (by rw[Y.len] at hj;exact hj))).mono ?_;rintro v z ⟨s5,f5,e2⟩;simp(disch:=omega)only[go_sem];rw[eI];refine⟨n-(i+1),om,i+1,k%s,v,bE y x,aA rfl,om,q6,⟨s5,off_new λ_ _ _ _ e=>by have:=e2 _ _ _ _ e;have:=J.next;omega⟩,by rw[a5,hs];exact f3,by rw[a5];exact a3.symm,J.trans f5,rfl⟩
 have d2:=bM d9
 have a7:q<m:=om
 obtain⟨b,hb⟩:=JR (I.getD q 0)
 have a4:=a9 q a7
 rw[hb] at a4
 simp(disch:=omega)only[go_sem,c1 K J,r.ixa,p K J,Z,d2]
 refine aH (λQ a hh=> ∃(t:Nat),(∃g:Nat->V,a= [g 0,.sl S 0 (n+1) (.kn (n+1)),aB (k%s:Nat),.ptr B 0,g 4,u,aB i,aB skip,aB (if c<q then c else 0:Nat),aB q,aB (lessN (I.take t) b:Nat),aB t,g 12,g 13,g 14,g 15,g 16])/\t<=m/\Fr K hh/\Q=m-t) m
  ⟨0,aA rfl,fF _,Fr.refl K,rfl⟩ ?_
 rintro Q a z ⟨t,⟨g,rfl⟩,a,F5,rfl⟩
 have N:=J.trans F5
 by_cases a0:(t:Int)<(m:Int)
 case neg=>
  have d3:=bJ a0;rw[yW (show I.length<=t by omega)];have b0:=la q om;rw[hb] at b0
  by_cases b2:lessN I b=skip
  ·have d4:decide (((lessN I b:Nat):Int)=(skip:Int))=true:=bM om
   have c3:=b0.1 b2;simp(disch:=omega)only[go_sem,c1 z N,r.ixa,p z N,Z,d3,d4];rw[dY q];refine⟨m-(q+1),om,q+1,?_,om,F4.trans F5,rfl⟩;rw[aV om,←c3];exact aA rfl
  ·have d4:decide (((lessN I b:Nat):Int)=(skip:Int))=false:=bJ om
   have c3:q≠c:=λe=>b2 (b0.2 e)
   simp(disch:=omega)only[go_sem,c1 z N,r.ixa,p z N,Z,d3,d4];rw[dY q];refine⟨m-(q+1),om,q+1,?_,om,F4.trans F5,rfl⟩
   have a:(if c<q+1 then c else 0)=if c<q then c else 0:=by
    by_cases h:c<q
    ·rw[aV h,aV om]
    ·rw[aZ h,aZ om]
   rw[a];exact aA rfl
 have d3:=bM a0
 have a:t<m:=om
 have d6:=d5 t om
 have b7:=d5 q om
 have ct:=co z (f1.trans N) t a
 have cq:=co z (f1.trans N) q a7
 have hc:=a9 t a
 have step:I.take (t+1)=I.take t++ [I.getD t 0]:=take_getD 0 om
 generalize (O.getD i []).getD t 0=ot at ct d6 hc
 generalize (O.getD i []).getD q 0=oq at cq b7 a4
 have P:=cx z (F4.trans F5) ot d6
 have a8:=cx z (F4.trans F5) oq b7
 rw[←hc] at P
 rw[←a4] at a8
 generalize I.getD t 0=c at P step
 have ls:=lessN_snoc (I.take t) c b
 have a:lessN (I.take t) b<=t:=jK (List.length_filter_le _ _) (by rw[xF];omega)
 rw[←step] at ls
 by_cases b9:(c:Int)<(b:Int)
 ·have d4:=bM b9
  rw[aV om] at ls
  simp(disch:=omega)only[go_sem,c1 z N,r.ixa,p z N,Z,d3,c7.ixa,ct,cq,e0.ixa,P,a8,d4]
  rw[show (t:Int)+1=((t+1:Nat):Int) from om,show ((lessN (I.take t) b:Nat):Int)+1=((lessN (I.take t) b+1:Nat):Int) from om,←ls]
  exact⟨m-(t+1),om,t+1,aA rfl,om,F5.bN om,rfl⟩
 ·have d4:=bJ b9
  rw[aZ om] at ls
  simp(disch:=omega)only[go_sem,c1 z N,r.ixa,p z N,Z,d3,c7.ixa,ct,cq,e0.ixa,P,a8,d4]
  rw[show (t:Int)+1=((t+1:Nat):Int) from om,show ((lessN (I.take t) b:Nat):Int)=((lessN (I.take t) b+0:Nat):Int) from om,←ls]
  exact⟨m-(t+1),om,t+1,aA rfl,om,F5.bN om,rfl⟩
section
variable {h:H} {v:V} {b:Nat} {W:Nat->Prop}
theorem app_pv {g:H}{d:V}{a:List V}{l:LN}{x:List Nat}(o:Own h d 1 a g.next)(f:Fr g h)(u:a.length<1000000)(z:b<=g.next)(p:PVs (λq=>q<b∨BlkS d q) h a l)(pv:PV (λq=>q<b∨BlkS d q) h v x):
  ∃h2,qY (h.new (.cells false [v])) 1 24 d (.sl h.next 0 1 (.kn 1))=some (.sl (h.next+1) 0 (a.length+1) (.un 1),h2)/\Own h2 (.sl (h.next+1) 0 (a.length+1) (.un 1)) 1 (a++ [v]) g.next/\PVs (λq=>q<b∨BlkS (.sl (h.next+1) 0 (a.length+1) (.un 1)) q) h2 (a++ [v]) (l++ [x])/\Fr g h2/\h2.next=h.next+2:=by
 obtain⟨h2,s,w,r,y,c⟩:=app_one (v:=v) o f u (bytes:=24) om
 have n:Fx (λq=>q<b∨BlkS d q) h h2:=⟨om,λq k h2=>c q k λid i m c e t=>h2 (.inr ⟨i,m,c,t▸e⟩)⟩
 have j: ∀q,q<h.next->(q<b∨BlkS (.sl (h.next+1) 0 (a.length+1) (.un 1)) q)->(q<b∨BlkS d q):=λq k h2=>by
  rcases h2 with h2|⟨_,_,_,e⟩
  ·exact .inl h2
  ·cases e;omega
 exact⟨h2,s,w,(PVs.go p n j).append (PVs.one (PV.go pv n j)),r,y⟩
theorem PV.newer {h':H}{a:V}{d:List V}{sz c:Nat}{x:List Nat}(o:Own h a sz d b)(f:c<=h.next)(p:PV (λq=>q<h.next) h' v x):PV (λq=>q<c∨BlkS a q) h' v x:=
 p.weak λq _ e=>by
  rcases e with e|⟨_,_,_,e⟩
  ·omega
  ·exact (o.in _ _ _ _ e).1
theorem pvs_open {ws:List V}{L:LN}(o:Own h v 1 ws b)(p:PVs W h ws L): ∃id off,Sl v 1 L.length id off/\ ∀i,i<L.length->id<h.next/\h.cell id (off+i)=some (ws.getD i V.undef)/\PV W h (ws.getD i V.undef) (L.getD i []):=by
 have a:=All2.length p;obtain⟨id,off,d,a,c⟩:=SV.shape o.sv L.length om om;refine⟨id,off,d,λi hi=>⟨a om,?_,getD_row p hi .undef []⟩⟩;rw[c i om,List.getD,eV om];rfl
theorem PVs.fr {h':H}{vs:List V}{a:LN}(p:PVs W h vs a)(f:Fr h h'):PVs W h' vs a:=p.mono λ_ _ x=>⟨x.si.mono f,x.off⟩
theorem GC.rcheck {a:V}{n:Nat}{O:LN}{R:jL}{G:List Nat->Prop}(g:GC W h a n O R G):Ev T 104 [a] h (λv h'=>v= aB 0/\Fr h h'):=by
 obtain⟨c,sr⟩:=g.small;have:=rcheck_ok a (n:Int) (O.map zi) (R.map (List.map zi)) h g.ch (.inl (by have:=g.n7;omega)) c sr.out;rwa [g.chk] at this
theorem rlist_bad (k:V)(d:Int)(O:List (List Int))(R:List (List (List Int)))(h:H)(i:ChI h k d O R)(n:d<=7∨64<d)(o:SmallO O)(sr:SmallR R)(x:chkE d O R≠0):
  Ev T 74 [k] h (λv h'=>v= .tup [.aD,aB (chkE d O R)]/\Fr h h'):=by
 have f:=i
 obtain⟨g,e,rfl,r,s⟩:=i
 refine bH c_ref09_List rfl rfl ?_
 have a:g.one=true:=rL r
 have c:e.one=true:=qZ s
 obtain⟨B,l⟩:=JR h.next
 obtain⟨t,q,r,m,r,j⟩:=dN l [aB d,g,e]
 have p:=bD h (v:= aB d) (u:=g) (w:=e) rfl a c
 simp(disch:=omega)only[go_sem,c_ref09_List,aF,p,l,q,aS m]
 refine (rcheck_ok _ d O R t (f.mono j) n o sr).mono ?_
 rintro _ a ⟨rfl,c⟩
 have a:=bM x
 simp(disch:=omega)only[go_sem,a]
 exact j.trans c
theorem rlist_ok (vc:V)(n:Nat)(O:LN)(R:jL)(G:List Nat->Prop)(h:H)(j:GC W h vc n O R G)(L:LN)(hL:cF O R n 0 (cH n)=L):
  Ev T 74 [vc] h (λv h'=> ∃vl wl,v= .tup [vl,aB 0]/\Own h' vl 1 wl h.next/\PVs (λq=>q<h.next) h' wl L/\Fr h h'):=by
 have d:=j
 obtain⟨r,x,e,sO,sR⟩:=j.ch
 subst e
 refine bH c_ref09_List rfl rfl ?_
 have e:=j.isc
 obtain⟨Z,ll⟩:=eE j.grp e
 have e:=szF_fact j
 rw[hL] at Z ll
 have l:r.one=true:=rL sO
 have p:x.one=true:=qZ sR
 obtain⟨B,hB⟩:=JR h.next
 obtain⟨h1,e1,e,g1,e,s⟩:=dN hB [aB n,r,x]
 have bx:=bD h (v:= aB n) (u:=r) (w:=x) rfl l p
 have U: ∀a,Fr h1 a->a.row B 0 3=some [aB n,r,x]:=λa f=>aS (by rw[f.get B om];exact g1)
 simp(disch:=omega)only[go_sem,c_ref09_List,aF,bx,hB,e1,U h1 (Fr.refl _)]
 refine ((d.mono s).rcheck).mono ?_
 rintro _ h2 ⟨rfl,P⟩
 simp(disch:=omega)only[go_sem]
 refine bB (λe=>(e rfl).elim) (λ_=>?_)
 simp(disch:=omega)only[go_sem,U h2 P]
 refine (rsizes_ok _ n O R G h2 (d.mono (s.trans P))).mono ?_
 rintro _ t ⟨S,rfl,e,o,gS,e⟩
 have F3:=P.trans e
 have y: ∀a,Fr t a->a.cell S 0=some (aB (L.length:Int)):=λa f=>by
  rw[f.cell o,gU gS om,ll];rfl
 obtain⟨m,f⟩:=JR L.length
 have e:decide ((5040:Int)<(m:Int))=false:=bJ om
 rw[f] at y
 have f:=j.n0
 simp(disch:=omega)only[go_sem,y t (Fr.refl _),e]
 refine aH (λk' c a=> ∃(i:Nat) (vl:V) (wl:List V),(∃g:Nat->V,c= [g 0,.ptr B 0,g 2,g 3,g 4,.sl S 0 (n+1) (.kn (n+1)),g 6,vl,aB i,g 9,g 10,g 11])/\i<=m/\Own a vl 1 wl t.next/\PVs (λq=>q<B∨BlkS vl q) a wl (L.take i)/\Fr t a/\k'=m-i) m
  ⟨0,.aD, [],aA rfl,fF _,Own.aD _ _ _,trivial,Fr.refl _,rfl⟩ ?_
 rintro k' c K ⟨i,vl,wl,⟨g,rfl⟩,hi,Q,A,F,rfl⟩
 have J:=F3.trans F
 have a:=J.next
 have a:=F3.next
 have a:=A.length
 rw[xF] at a
 by_cases k:(i:Int)<(m:Int)
 case neg=>
  have Y:=bJ k;simp(disch:=omega)only[go_sem,y K F,Y];rw[yW om] at A;exact⟨_,wl,rfl,Q.le om,PVs.weak A λq _ a=> .inl om,s.trans J⟩
 have Y:=bM k
 simp(disch:=omega)only[go_sem,y K F,Y,U K J]
 refine (unrank_ok _ n O R G K (d.mono (s.trans J)) S i (by have:=F.next;omega) (by rw[F.get _ o];exact gS) om).mono ?_
 rintro v a ⟨a,c⟩
 rw[hL] at a
 obtain⟨d,d,N,p6,f6,e⟩:=app_pv (Q.fr c) (F.trans c) om (b:=B) om (PVs.fr A c) (PV.newer Q om a)
 simp(disch:=omega)only[go_sem,cJ _ (z:= .aD) a.dR.1 a.dR.2,d]
 rw[dY i]
 refine⟨m-(i+1),om,i+1,_,_,aA rfl,om,N,?_,f6,rfl⟩
 rw[take_getD [] om]
 exact p6
end
section
variable {ks:List Cls.KE}
def enc3 (a:Cls.KE):List V:= [a.rep,aB (a.ord:Int),aB (a.size:Int)]
theorem list3_cons (a:Cls.KE)(r:List Cls.KE):list3 (a::r)=enc3 a++list3 r:=rfl
theorem list3_app (a b:List Cls.KE):list3 (a++b)=list3 a++list3 b:=by unfold list3;rw[List.flatMap_append]
theorem put_at3: ∀{ks:List Cls.KE} {pre:List V} {i:Nat} (a:Cls.KE),i<ks.length->putAt (pre++list3 ks) (pre.length+i*3) (enc3 a)=some (pre++list3 (ks.set i a))
 | [],_,_,_,hi=>by simp at hi
 |b::r,pre,0,a,_=>by
  have c:(enc3 a).length=3:=rfl;have d:(enc3 b).length=3:=rfl;unfold putAt;rw[list3_cons,List.set_cons_zero,list3_cons,aV (by simp only[iZ];omega),Nat.zero_mul,Nat.add_zero,List.take_left,c,←d,←iZ,←oF,List.drop_left,oF]
 |b::r,pre,i+1,a,hi=>by
  have:=put_at3 (ks:=r) (pre:=pre++enc3 b) (i:=i) a (by simpa using hi);rw[iZ,show (enc3 b).length=3 from rfl] at this;rw[show pre.length+(i+1)*3=pre.length+3+i*3 by omega,List.set_cons_succ,list3_cons,list3_cons,←oF,←oF];exact this
theorem putO_at3 {i:Nat}(hi:i<ks.length)(h:H)(S:Nat)(a:Cls.KE):dQ (some (.cells false (list3 ks))) h S (0+i*3) [a.rep,aB (a.ord:Int),aB (a.size:Int)]=some (h.set S (some (.cells false (list3 (ks.set i a))))):=by
 have:=put_at3 (pre:= []) a hi;simp only[List.nil_append,List.length_nil] at this;show Option.map (λb=>h.set S (some (Ob.cells false b))) (putAt (list3 ks) (0+i*3) (enc3 a))=_;rw[this];rfl
def zKE:Cls.KE:=⟨.aD,0,0,.aD,0,⟨rfl,rfl,rfl⟩,⟨rfl,rfl,rfl⟩⟩
theorem list3_zeros (n:Nat):dO [.aD,aB 0,aB 0] (n*3)=list3 (List.replicate n zKE):=by
 induction n with
 |zero=>rfl
 |succ n ih=>
  rw[List.replicate_succ,list3_cons,←ih];unfold dO;rw[show (n+1)*3=n*3+1+1+1 by omega,List.range_succ_eq_map,List.range_succ_eq_map,List.range_succ_eq_map];simp only[List.map_cons,List.map_map];refine congrArg (λl=>V.aD::aB 0::aB 0::l) (yZ λi _=>?_);show [V.aD,aB 0,aB 0].getD ((i+3)%3) V.undef= [V.aD,aB 0,aB 0].getD (i%3) V.undef;rw[Nat.add_mod_right]
theorem mks3 (h:H)(n:Nat)(a:n<=100000):vH h 3 40 [.aD,aB 0,aB 0] (aB n) (aB n)=some (.sl h.next 0 n (.kn n),h.new (.cells false (list3 (List.replicate n zKE)))):=by
 rw[lZ om (Int.le_refl _) om om,De,list3_zeros]
def kst (M K:List Nat)(ks:List Cls.KE)(w t:Nat):List Cls.KE:=(List.range w).map λq=>if M.idxOf (K.getD q 0)<t then ks.getD (M.idxOf (K.getD q 0)) zKE else zKE
theorem kst_zero (M K:List Nat)(ks:List Cls.KE)(w:Nat):kst M K ks w 0=List.replicate w zKE:=by
 unfold kst;refine List.ext_getElem (by simp) λi a a=>by simp
theorem kst_len (M K:List Nat)(ks:List Cls.KE)(w t:Nat):(kst M K ks w t).length=w:=by simp [kst]
theorem kst_set {M K:List Nat}{w t:Nat}(a:K.Perm M)(nd:M.Nodup)(i:M.length=w)(g:t<w):(kst M K ks w t).set (K.idxOf (M.getD t 0)) (ks.getD t zKE)=kst M K ks w (t+1):=by
 have b:=a.length_eq;have b:=a.nodup_iff.2 nd;have c:M.getD t 0∈K:=a.mem_iff.2 (getD_mem om);have f:=Za.2 c;have d:M.idxOf (M.getD t 0)=t:=by rw[Pm.bT (show t<M.length by omega)];exact nd.idxOf_getElem _ _
 refine List.ext_getElem (by simp [kst]) λq e c=>?_
 have c:q<w:=by simpa [kst] using e
 rw[List.getElem_set];simp only[kst,List.getElem_map,List.getElem_range]
 by_cases e:K.idxOf (M.getD t 0)=q
 ·rw[aV e]
  have c:K.getD q 0=M.getD t 0:=by rw[←e,Pm.bT f,List.getElem_idxOf]
  rw[c,d,aV om]
 ·rw[aZ e]
  have c:M.idxOf (K.getD q 0)≠t:=λh=>by
   have c:K.getD q 0∈M:=a.mem_iff.1 (getD_mem om);have d:=Za.2 c;have c:M.getD t 0=K.getD q 0:=by rw[←h,Pm.bT d,List.getElem_idxOf]
   rw[c,Pm.bT (show q<K.length by omega)] at e;exact e (b.idxOf_getElem _ _)
  by_cases h:M.idxOf (K.getD q 0)<t
  ·rw[aV h,aV om]
  ·rw[aZ h,aZ om]
theorem kst_done {M K:List Nat}{w:Nat}(b:K.Perm M)(f:M.length=w){P:Cls.KE->Nat->Prop}(al:All2 P ks M):All2 P (kst M K ks w w) K:=by
 have a:=b.length_eq;have a:=All2.length al;refine All2.iC (by rw[kst_len];omega) λq a d=>?_
 have a:K.getD q 0∈M:=b.mem_iff.1 (getD_mem om);have c:=Za.2 a;simp only[kst,List.getElem_map,List.getElem_range];rw[aV om,List.getD,eV om];have:=All2.get al (M.idxOf (K.getD q 0)) om c;rw[List.getElem_idxOf] at this;have e:K.getD q 0=K[q]:=Pm.bT d;have:P ks[M.idxOf (K.getD q 0)] K[q]:=by rw[←e];exact this
 exact this
theorem rbefore_ok (a b:Cls.KE)(n:Nat)(x y:List Nat)(h:H)(K:n<100000)(A:x.length=n)(s:y.length=n)(J:SI h a.rep (zi x))(G:SI h b.rep (zi y))(c:Bool)(j:(a.ord<b.ord∨a.ord=b.ord/\(a.size<b.size∨a.size=b.size/\Lt x y))↔c=true):
  Ev T 124 [.agg [a.rep,aB (a.ord:Int),aB (a.size:Int)],.agg [b.rep,aB (b.ord:Int),aB (b.size:Int)]] h (λv h'=>v= .bool c/\Fr h h'):=by
 refine bH c_ref15_before rfl rfl ?_
 obtain⟨B,i⟩:=JR h.next
 obtain⟨e,l,g,m,L,t⟩:=dN i [a.rep,aB (a.ord:Int),aB (a.size:Int)]
 obtain⟨r,p,L,z,L,f⟩:=dN g [b.rep,aB (b.ord:Int),aB (b.size:Int)]
 have k:=bD h (v:=a.rep) (u:= aB (a.ord:Int)) (w:= aB (a.size:Int)) a.hrep.2.1 rfl rfl
 have d:=bD e (v:=b.rep) (u:= aB (b.ord:Int)) (w:= aB (b.size:Int)) b.hrep.2.1 rfl rfl
 have e:r.get B=some (.cells false [a.rep,aB (a.ord:Int),aB (a.size:Int)]):=by rw[f.get _ om];exact m
 have F:=t.trans f
 have go:=H.aG e
 have e:=H.aG z
 by_cases o:a.ord=b.ord
 case neg=>
  have f:decide ((a.ord:Int)≠(b.ord:Int))=true:=bM om;simp(disch:=omega)only[go_sem,c_ref15_before,aF,k,i,l,d,g,p,go,e,f];refine⟨?_,F⟩;congr 1;rw[xJ,Co,←j];exact⟨λh=> .inl om,by rintro (h|⟨h,_⟩);omega;exact absurd h o⟩
 have f:decide ((a.ord:Int)≠(b.ord:Int))=false:=bJ om
 by_cases q:a.size=b.size
 case neg=>
  have m:decide ((a.size:Int)≠(b.size:Int))=true:=bM om;simp(disch:=omega)only[go_sem,c_ref15_before,aF,k,i,l,d,g,p,go,e,f,m];refine⟨?_,F⟩;congr 1;rw[xJ,Co,←j];exact⟨λh=> .inr ⟨o,.inl om⟩,by rintro (h|⟨_,h|⟨h,_⟩⟩);omega;omega;exact absurd h q⟩
 have m:decide ((a.size:Int)≠(b.size:Int))=false:=bJ om
 simp(disch:=omega)only[go_sem,c_ref15_before,aF,k,i,l,d,g,p,go,e,f,m]
 refine (less_ok a.rep b.rep n x y r K A s (J.mono F) (G.mono F)).mono ?_
 rintro _ d ⟨rfl,d⟩
 simp(disch:=omega)only[go_sem]
 refine⟨?_,F.trans d⟩
 congr 1
 rw[xJ,lessB_iff om,←j]
 exact⟨λh=> .inr ⟨o,.inr ⟨q,h⟩⟩,by rintro (h|⟨_,h|⟨_,h⟩⟩);omega;omega;exact h⟩
end
section
variable {i j:Nat} {Q:List Nat}
theorem cnt_asc {α:Type}{R:α->α->Prop}(c: ∀a b,R a b-> ¬R b a)(p:α->Bool){y:α}(f: ∀a,p a=true↔R a y): ∀{S:List α},S.Pairwise R-> ∀q,S[q]? =some y->(S.filter p).length=q
 | [],_,q,h=>by simp at h
 |x::S,hs,0,h=>by
  obtain⟨g,_⟩:=List.pairwise_cons.1 hs;have e:x=y:=by simpa using h
  rw[List.length_eq_zero_iff,List.filter_eq_nil_iff];intro b k l;have d:=(f b).1 l;rcases Dw.1 k with n|k
  ·subst n e;exact c _ _ d d
  ·subst e;exact c _ _ d (g b k)
 |x::S,hs,q+1,h=>by
  obtain⟨g,s⟩:=List.pairwise_cons.1 hs;have m:S[q]? =some y:=by simpa using h
  have o:=cnt_asc c p f s q m;have r:p x=true:=(f x).2 (g _ (Sg m));rw[List.filter_cons,aV r,List.length_cons,o]
section
variable {n:Nat} {G:List Nat->Prop} {L:LN} {K:List Nat}
theorem repsC_nodup (k:Nat):(repsC G L k).Nodup:=by
 unfold repsC;exact List.Pairwise.filter _ List.nodup_range
theorem isK_ex (n:Nat)(G:List Nat->Prop)(L:LN): ∃K,IsK n G L K:=by
 classical
 refine⟨(repsC G L L.length).mergeSort λr s=>decide (¬kLt n G L s r),List.mergeSort_perm _ _,?_⟩
 have e:=List.pairwise_mergeSort (le:=λr s=>decide (¬kLt n G L s r)) (λa b c e d=>by
  simp only[decide_eq_true_eq] at e d ⊢
  unfold kLt at*;omega) (λa b=>by
  simp only[Bool.or_eq_true,decide_eq_true_eq]
  unfold kLt;omega) (repsC G L L.length)
 have d:((repsC G L L.length).mergeSort λr s=>decide (¬kLt n G L s r)).Nodup:=(List.mergeSort_perm _ _).nodup_iff.2 (repsC_nodup _);rw[DE] at d;refine (e.and d).imp λ⟨f,h4⟩=>?_
 simp only[decide_eq_true_eq] at f;unfold kLt at*;omega
theorem repsC_pre {i:Nat}: ∀k,∃r,repsC G L (i+k)=repsC G L i++r
 |0=>⟨[],by simp⟩
 |k+1=>by
  obtain⟨r,h⟩:=repsC_pre (i:=i) k
  by_cases a:isR G L (i+k)
  ·exact⟨r++ [i+k],by rw[←Nat.add_assoc,(repsC_succ _).1 a,h,oF]⟩
  ·exact⟨r,by rw[←Nat.add_assoc,(repsC_succ _).2 a,h]⟩
theorem repsC_at (hi:i<L.length)(a:isR G L i):(repsC G L i).length<(repsC G L L.length).length/\(repsC G L L.length).getD (repsC G L i).length 0=i:=by
 obtain⟨r,h⟩:=repsC_pre (G:=G) (L:=L) (i:=i+1) (L.length-(i+1));rw[show i+1+(L.length-(i+1))=L.length by omega,(repsC_succ i).1 a] at h;rw[h];simp [List.getD]
open Classical in
noncomputable def lbC (G:List Nat->Prop)(L:LN)(i j:Nat):Nat:=if ∃i0,i0<i/\cR G L i0 j then numC G L (repsC G L L.length) j+1 else 0
open Classical in
noncomputable def lbQ (G:List Nat->Prop)(L:LN)(i:Nat)(Q:List Nat)(j:Nat):Nat:=if j∈Q then (repsC G L i).length+1 else lbC G L i j
theorem lbC_zero (j:Nat):lbC G L 0 j=0:=by
 unfold lbC;rw[aZ];rintro⟨i0,h,_⟩;omega
theorem lbQ_nil (i j:Nat):lbQ G L i [] j=lbC G L i j:=by
 unfold lbQ;rw[aZ (by simp)]
theorem lbQ_push {k:Nat}:lbQ G L i (Q++ [k]) j=if j=k then (repsC G L i).length+1 else lbQ G L i Q j:=by
 unfold lbQ
 by_cases e:j=k
 ·subst e;rw[aV (by simp),aV rfl]
 ·rw[aZ e]
  by_cases h:j∈Q
  ·rw[aV (by simp [h]),aV h]
  ·rw[aZ (by simp [h,e]),aZ h]
theorem lbC_iff:lbC G L i j=0↔ ¬ ∃i0,i0<i/\cR G L i0 j:=by
 unfold lbC
 by_cases h: ∃i0,i0<i/\cR G L i0 j
 ·rw[aV h];exact⟨λa=>om,λa=>absurd h a⟩
 ·rw[aZ h];exact⟨λ_=>h,λ_=>rfl⟩
theorem lbC_self:lbC G L i i=0↔isR G L i:=by
 rw[lbC_iff];exact⟨λh j a b=>h ⟨j,a,b⟩,λh ⟨j,a,b⟩=>h j a b⟩
variable (hG:mH n G) (E:eP G L)
include hG E
theorem lbC_skip (hi:i<L.length)(f: ¬isR G L i)(j:Nat):lbC G L (i+1) j=lbC G L i j:=by
 have e:(∃a,a<i+1/\cR G L a j)↔ ∃a,a<i/\cR G L a j:=by
  refine⟨λ⟨a,h1,h2⟩=>?_,λ⟨a,h1,h2⟩=>⟨a,om,h2⟩⟩
  by_cases e:a=i
  ·subst e
   obtain⟨k,c,b⟩: ∃k,k<a/\cR G L k a:=Am λd=>f λk c b=>d ⟨k,c,b⟩
   exact⟨k,c,cR_trans hG E om b h2⟩
  ·exact⟨a,om,h2⟩
 unfold lbC
 by_cases h: ∃a,a<i/\cR G L a j
 ·rw[aV (e.2 h),aV h]
 ·rw[aZ (λx=>h (e.1 x)),aZ h]
theorem numC_rep (hi:i<L.length)(e:isR G L i)(d:j<L.length)(a:cR G L i j):numC G L (repsC G L L.length) j=(repsC G L i).length:=by
 obtain⟨c,b⟩:=repsC_at hi e;exact numC_at hG E (List.Perm.refl _) c (orbC_mem.2 ⟨d,by rw[b];exact a⟩)
theorem lbQ_iff (hi:i<L.length)(d:isR G L i)(e:j<L.length)(b:cR G L i j):lbQ G L i Q j=0↔j∉Q:=by
 unfold lbQ
 by_cases h:j∈Q
 ·rw[aV h];exact⟨λa=>om,λa=>absurd h a⟩
 ·rw[aZ h,lbC_iff]
  exact⟨λ_=>h,λ_ ⟨c,h1,a⟩=>d c h1 (cR_trans hG E om a (cR_symm hG E hi b))⟩
theorem lbQ_done (hi:i<L.length)(g:isR G L i)(d: ∀j,j∈Q↔j<L.length/\cR G L i j)(c:j<L.length):lbQ G L i Q j=lbC G L (i+1) j:=by
 unfold lbQ
 by_cases h:j∈Q
 ·have b:=((d j).1 h).2
  rw[aV h];unfold lbC;rw[aV ⟨i,om,b⟩,numC_rep hG E hi g c b]
 ·rw[aZ h]
  have f: ¬cR G L i j:=λb=>h ((d j).2 ⟨c,b⟩)
  have e:(∃a,a<i+1/\cR G L a j)↔ ∃a,a<i/\cR G L a j:=by
   refine⟨λ⟨a,h1,h2⟩=>?_,λ⟨a,h1,h2⟩=>⟨a,om,h2⟩⟩
   by_cases e:a=i
   ·subst e;exact absurd h2 f
   ·exact⟨a,om,h2⟩
  unfold lbC
  by_cases h: ∃a,a<i/\cR G L a j
  ·rw[aV (e.2 h),aV h]
  ·rw[aZ (λx=>h (e.1 x)),aZ h]
theorem lbC_done (a:j<L.length):lbC G L L.length j=numC G L (repsC G L L.length) j+1:=by
 unfold lbC;rw[aV ⟨j,a,cR_refl hG E a⟩]
omit hG in
theorem lt_rank {r s:Nat}(l:r<L.length)(e:s<L.length):Lt (L.getD r []) (L.getD s [])↔r<s:=by
 have d:=Ta.1 E.asc
 have g: ∀{a b:Nat},a<L.length->b<L.length->a<b->Lt (L.getD a []) (L.getD b []):=λ{a b} k f h=>by
  have:=d a b k f h;rwa [List.getD,eV k,List.getD,eV f]
 refine⟨λh=>?_,g l e⟩;rcases Nat.lt_trichotomy r s with c|c|c
 ·exact c
 ·subst c;exact (Lt.irrefl h).elim
 ·exact ((g e l c).asymm h).elim
omit hG E in
theorem nb_count (c:IsK n G L K)(p:Nat->Bool){t:Nat}(h:t<(repsC G L L.length).length)(d: ∀u,u<(repsC G L L.length).length->(p u=true↔kLt n G L ((repsC G L L.length).getD u 0) ((repsC G L L.length).getD t 0))):
  ((List.range (repsC G L L.length).length).filter p).length=K.idxOf ((repsC G L L.length).getD t 0):=by
 classical
 have a:(repsC G L L.length).getD t 0∈K:=c.perm.mem_iff.2 (getD_mem h)
 have k:=Za.2 a
 have e:=cnt_asc (R:=kLt n G L) (λa b f g=>kLt_asymm f g) (λr=>decide (kLt n G L r ((repsC G L L.length).getD t 0))) (y:=(repsC G L L.length).getD t 0) (λa=>by simp) c.asc (K.idxOf ((repsC G L L.length).getD t 0)) (by rw[eV k,List.getElem_idxOf])
 rw[←e,(c.perm.filter _).length_eq]
 generalize repsC G L L.length=M at d
 generalize M.getD t 0=y at d
 have:(List.range M.length).filter p=(List.range M.length).filter λu=>decide (kLt n G L (M.getD u 0) y):=List.filter_congr λu a=>by
  have:=d u (Db.1 a);rw[xJ,this,Co]
 rw[this]
 have e:M=(List.range M.length).map λu=>M.getD u 0:=List.ext_getElem (by simp) λi f g=>by simp [List.getD,f]
 conv=>rhs;rw[e]
 rw[List.filter_map,iR]
 rfl
theorem numC_ord (c:IsK n G L K)(f:j<L.length):numC G L (repsC G L L.length) j<(repsC G L L.length).length/\numC G L K j=K.idxOf ((repsC G L L.length).getD (numC G L (repsC G L L.length) j) 0):=by
 obtain⟨k,a,b⟩:=num_cover hG E (List.Perm.refl _) f;have d:=numC_at hG E (List.Perm.refl _) a b;rw[d];have e:(repsC G L L.length).getD k 0∈K:=c.perm.mem_iff.2 (getD_mem a);have d:=Za.2 e;refine⟨a,numC_at hG E c.perm d ?_⟩;rw[bT d,List.getElem_idxOf];exact b
end
end
section
variable {a b c d e f:V}
theorem bld_six {v:V}(j:a.one=true)(k:b.one=true)(h:c.one=true)(i:v.cells= [v])(g:v.one=true):kY [aB 0,.aD,.aD,.aD,.aD,.aD] [(0,3,.agg [a,b,c]),(3,1,v)]=some (.agg [a,b,c,v,.aD,.aD]):=by
 simp [kY,gI,putAt,j,k,h,i,g,show (V.agg [a,b,c]).cells= [a,b,c] from rfl]
theorem stV_six (h:H)(id:Nat)(l:a.one=true)(m:b.one=true)(i:c.one=true)(j:d.one=true)(k:e.one=true)(g:f.one=true):Ln h 6 (.ptr id 0) (.agg [a,b,c,d,e,f])=dQ (h.get id) h id 0 [a,b,c,d,e,f]:=qE h id 0 6 _ rfl (by simp [l,m,i,j,k,g])
theorem putO_six {k i g l m j:V}(h:H)(id:Nat):dQ (some (.cells false [k,i,g,l,m,j])) h id 0 [a,b,c,d,e,f]=some (h.set id (some (.cells false [a,b,c,d,e,f]))):=by
 simp [dQ,putAt]
theorem row_six {h:H}{id:Nat}{ro:Bool}(g:h.get id=some (.cells ro [a,b,c,d,e,f])):h.row id 0 6=some [a,b,c,d,e,f]:=by
 simp [H.row,g,sub]
theorem rread_bad (r:V)(d:Int)(O:List (List Int))(R:List (List (List Int)))(h:H)(n:ChI h r d O R)(A:d<=7∨64<d)(F:SmallO O)(sr:SmallR R)(s:chkE d O R≠0):
  Ev T 103 [r] h (λv h'=>v= .tup [.agg [aB 0,.aD,.aD,.aD,.aD,.aD],aB (chkE d O R)]/\Fr h h'):=by
 have m:=n
 obtain⟨k,j,rfl,Q,U⟩:=n
 refine bH c_ref15_read rfl rfl ?_
 have g:k.one=true:=rL Q
 have i:j.one=true:=qZ U
 obtain⟨B,y⟩:=JR h.next
 obtain⟨Q,K,q,z,Q,o⟩:=dN y [aB d,k,j]
 obtain⟨p,W,Q,P,Q,l⟩:=dN q [aB 0,.aD,.aD,.aD,.aD,.aD]
 have G:=bD h (v:= aB d) (u:=k) (w:=j) rfl g i
 have g:p.row B 0 3=some [aB d,k,j]:=aS (by rw[l.get B om];exact z)
 simp(disch:=omega)only[go_sem,c_ref15_read,aF,G,y,K,q,W,g]
 refine (rlist_bad _ d O R p (m.mono (o.trans l)) A F sr s).mono ?_
 rintro _ t ⟨rfl,x⟩
 have N:=bM s
 have J:t.get (B+1)=some (.cells false [aB 0,.aD,.aD,.aD,.aD,.aD]):=by rw[x.get _ om];exact P
 have L:kY [aB 0,.aD,.aD,.aD,.aD,.aD] []=some (.agg [aB 0,.aD,.aD,.aD,.aD,.aD]):=rfl
 simp(disch:=omega)only[go_sem,N,L,stV_six t (B+1) (a:= aB 0) (b:= .aD) (c:= .aD) (d:= .aD) (e:= .aD) (f:= .aD) rfl rfl rfl rfl rfl rfl,J,putO_six,row_six (H.aT ..)]
 exact ((o.trans l).trans x).set om _
theorem put_third3 (hh:H)(id:Nat)(y:V):dQ (some (.cells false [a,b,c])) hh id 2 [y]=some (hh.set id (some (.cells false [a,b,y]))):=by
 simp [dQ,putAt]
structure KFd (n:Nat)(G:List Nat->Prop)(L:LN)(W:Nat->Prop)(h:H)(a:Cls.KE)(r:Nat):Prop where
 ord:a.ord=iH (L.getD r []) n
 size:a.size=(orbC G L r).length
 rep:PV W h a.rep (L.getD r [])
structure RdO (n:Nat)(G:List Nat->Prop)(L:LN)(K:List Nat)(b:Nat)(vO vR:V)(hh:H)(v:V):Prop where
 ex: ∃vL S ks vM,v= .agg [aB n,vO,vR,vL,.sl S 0 K.length (.kn K.length),vM]/\b<=S/\S<hh.next/\hh.get S=some (.cells false (list3 ks))/\All2 (KFd n G L (λq=>q<b∨S<=q) hh) ks K/\SP hh vL L/\SI hh vM (zi (numsL G L K))
theorem row3_cells {h:H}{id o:Nat}(j:h.cell id o=some a)(i:h.cell id (o+1)=some b)(g:h.cell id (o+2)=some c):h.row id o 3=some [a,b,c]:=by
 unfold H.cell at j i g;unfold H.row;split at j
 ·rename_i r k e
  rw[e] at i g;have i:k[o+1]? =some b:=i;have g:k[o+2]? =some c:=g;obtain⟨m,l⟩:=xI.1 j;obtain⟨lb,n⟩:=xI.1 i;obtain⟨q,p⟩:=xI.1 g;rw[e];simp only[sub];rw[aV om,Ts m,Ts lb,Ts q,l,n,p]
  rfl
 ·cases j
theorem rread_ok {W:Nat->Prop}(vc:V)(n:Nat)(O:LN)(R:jL)(G:List Nat->Prop)(h:H)(gc:GC W h vc n O R G)(L:LN)(hL:cF O R n 0 (cH n)=L):
  Ev T 103 [vc] h (λv h'=> ∃vO vR K vg,vc= .agg [aB n,vO,vR]/\v= .tup [vg,aB 0]/\IsK n G L K/\RdO n G L K h.next vO vR h' vg/\Fr h h'):=by
 have a5:=gc
 obtain⟨vO,vR,rfl,sO,sR⟩:=gc.ch
 refine bH c_ref15_read rfl rfl ?_
 have hG:=gc.grp
 have n7:=gc.n7
 have n0:=gc.n0
 obtain⟨E,ll⟩:=eE gc.grp gc.isc
 have l9:=szF_fact gc
 rw[hL] at E ll
 have a0:vO.one=true/\vR.one=true:=⟨rL sO,qZ sR⟩
 obtain⟨B,hB⟩:=JR h.next
 obtain⟨l,e1,n1,g1,o1,f1⟩:=dN hB [aB n,vO,vR]
 obtain⟨A,e2,n2,g2,o2,f2⟩:=dN n1 [aB 0,.aD,.aD,.aD,.aD,.aD]
 have bx:=bD h (v:= aB n) (u:=vO) (w:=vR) rfl a0.1 a0.2
 have rB: ∀hh,Fr A hh->hh.row B 0 3=some [aB n,vO,vR]:=λhh f=>aS (by rw[f.get B om,f2.get B om];exact g1)
 have F2:=f1.trans f2
 simp(disch:=omega)only[go_sem,c_ref15_read,aF,bx,hB,e1,n1,e2,rB A (Fr.refl _)]
 refine (rlist_ok _ n O R G A (a5.mono F2) L hL).mono ?_
 rintro _ h3 ⟨Z,k0,rfl,c5,j8,f3⟩
 have sL:SP h3 Z L:=PVs.sp' c5.sv j8
 obtain⟨m,hm⟩:=JR L.length
 have a8:=sL.lens
 have wL:=SV.dG (show SV h3 Z 1 _ from sL.choose_spec.1)
 rw[iR,hm] at a8
 obtain⟨P,hP⟩:=JR h3.next
 obtain⟨h4,e4,n4,g4,o4,f4⟩:=dN hP [aB 0,.aD,.aD,.aD,.aD,.aD]
 obtain⟨h5,e5,n5,g5,o5⟩:=mS h4 P [aB n,vO,vR,Z,.aD,.aD]
 have c6:Fr h3 h5:=⟨om,λq hq=>by rw[o5 q om,o4 q om]⟩
 simp(disch:=omega)only[go_sem,rB h3 f3]
 refine bB (λhc=>(hc rfl).elim) (λ_=>?_)
 simp(disch:=omega)only[go_sem,rB h3 f3,bld_six (a:= aB n) rfl a0.1 a0.2 wL.1 wL.2.1,hP,e4,stV_six h4 P (a:= aB n) (b:=vO) (c:=vR) (d:=Z) (e:= .aD) (f:= .aD) rfl a0.1 a0.2 wL.2.1 rfl rfl,g4,putO_six,e5,rB h5 (f3.trans c6)]
 have F5:=(F2.trans f3).trans c6
 refine (kstrong_ok _ n O R G h5 (a5.mono F5)).mono ?_
 rintro vS h6 ⟨sS,f6⟩
 obtain⟨D,hD⟩:=JR h6.next
 obtain⟨h7,e7,l9,g7,o7,f7⟩:=dN hD (rc m λ_=> aB 0)
 simp(disch:=omega)only[go_sem,a8,mks_zeros _ m om,hD,e7]
 obtain⟨r6,o0,c3,cL⟩:=pvs_open c5 j8
 obtain⟨c7,l9,t0,q9,m4,j9,cS⟩:=sp_open sS
 rw[hm] at c3 cL
 obtain⟨S,hS⟩:=JR R.flatten
 have c2: ∀s∈S,G s:=by rw[←hS];exact chain_mem a5.isc
 have l2: ∀x,G x->fE n (λg=>g∈S) x:=λx hx=>by
  have:=(chain_iff hG a5.isc x).2 hx;rw[←hS];exact this
 have l9:R.flatten.length<=49:=by
  have l:=flat_len (m:=7) (R:=R.map (List.map zi)) (i:=n) (by rw[iR,a5.isc.lr];exact eS _) (λj hj=>by
   rw[gd_map (List.map zi) (d:= []) (by rw[a5.isc.lr];exact hj),iR,a5.isc.rl j hj]
   have:=(a5.row hj).2;omega)
  rw[yW (by rw[iR,a5.isc.lr];exact eS _)] at l;have e:(R.map (List.map zi)).flatten.length=R.flatten.length:=by simp [List.length_flatten,List.map_map,Function.comp_def]
  rw[e] at l;have A:n*7<=7*7:=Nat.mul_le_mul_right 7 n7;omega
 rw[hS] at c7 j9 cS l9
 obtain⟨sl,o3⟩:=JR S.length
 rw[o3] at c7 j9 cS l9
 have a5:=f6.next
 have a5:=c6.next
 have F6:=F5.trans f6
 have a5:=F2.next
 have a5:=f3.next
 have fD: ∀hh,Fx (· =D) h7 hh->Fr h6 hh:=λhh f=>⟨by have:=f.next;omega,λq hq=>by rw[f.get q om (λe=>by have:q=D:=e;omega)];exact o7 q om⟩
 have i6: ∀hh,Fx (· =D) h7 hh->Fr h3 hh:=λhh f=>(c6.trans f6).trans (fD hh f)
 have o8: ∀i,i<m-> ∀hh,Fr h3 hh->hh.cell r6 (o0+i)=some (k0.getD i V.undef):=λi hi hh f=>by rw[f.cell (cL i hi).1];exact (cL i hi).2.1
 have s3: ∀i,i<sl-> ∀hh,Fr h6 hh->hh.cell t0 (q9+i)=some (m4.getD i V.undef):=λi hi hh f=>by rw[f.cell (cS i hi).1];exact (cS i hi).2.1
 have LP: ∀g∈L,bV n g:=λg hg=>hG.isP ((E.mem g).1 hg)
 clear e1 e2 o2 e4 g4 o4 e5 o5 bx
 refine bX (λvs hh=> ∃(vK:V) (ks:List Cls.KE),(∃g:Nat->V,vs= [g 0,.ptr B 0,.ptr (B+1) 0,g 3,Z,g 5,.ptr P 0,g 7,.sl D 0 m (.kn m),vK,g 10,g 11,g 12,g 13,g 14,g 15,g 16,g 17,g 18,g 19,g 20,g 21,g 22,g 23,g 24,g 25,g 26,g 27,g 28,g 29,g 30,g 31,g 32,g 33])/\Own hh vK 3 (list3 ks) (D+1)/\All2 (KFd n G L (λq=>q<A.next) h3) ks (repsC G L m)/\hh.get D=some (.cells false (rc m λj=> aB (lbC G L m j:Nat)))/\D<hh.next/\Fx (· =D) h7 hh) ?_ ?_
 ·refine aH (λk' vs hh=> ∃(i:Nat) (vK:V) (ks:List Cls.KE),(∃g:Nat->V,vs= [g 0,.ptr B 0,.ptr (B+1) 0,g 3,Z,g 5,.ptr P 0,vS,.sl D 0 m (.kn m),vK,aB i,g 11,g 12,g 13,g 14,g 15,g 16,g 17,g 18,g 19,g 20,g 21,g 22,g 23,g 24,g 25,g 26,g 27,g 28,g 29,g 30,g 31,g 32,g 33])/\i<=m/\Own hh vK 3 (list3 ks) (D+1)/\All2 (KFd n G L (λq=>q<A.next) h3) ks (repsC G L i)/\hh.get D=some (.cells false (rc m λj=> aB (lbC G L i j:Nat)))/\D<hh.next/\Fx (· =D) h7 hh/\k'=m-i) m
   ⟨0,.aD, [],aA rfl,fF _,Own.aD _ _ _,trivial,by rw[g7,show (λj=>aB (lbC G L 0 j:Nat))=λ_=>aB 0 from funext λj=>by rw[lbC_zero];rfl],om,Fx.refl _ _,rfl⟩ ?_
  rintro k' Y ha ⟨i,vK,ks,⟨g,rfl⟩,hi,ow,al,gD,nD,Fa,rfl⟩
  by_cases a2:(i:Int)<(m:Int)
  case neg=>
   have d1:=bJ a2;obtain rfl:i=m:=om
   simp(disch:=omega)only[go_sem,a8,d1];exact⟨vK,ks,aA rfl,ow,al,gD,nD,Fa⟩
  have d1:=bM a2
  have j4:i<m:=om
  have b6:i<L.length:=om
  have cD:=gU gD j4
  by_cases hr:isR G L i
  case neg=>
   have d2:decide (((lbC G L i i:Nat):Int)≠0)=true:=bM λh=>hr (lbC_self.1 om)
   simp(disch:=omega)only[go_sem,a8,d1,cD,d2];rw[dY i];exact⟨m-(i+1),om,i+1,vK,ks,aA rfl,om,ow,by rw[(repsC_succ i).2 hr];exact al,by rw[gD,show (λj=>aB (lbC G L (i+1) j:Nat))=λj=>aB (lbC G L i j:Nat) from funext λj=>by rw[lbC_skip hG E b6 hr j]],nD,Fa,rfl⟩
  have d2:decide (((lbC G L i i:Nat):Int)≠0)=false:=bJ λh=>h (by rw[lbC_self.2 hr];rfl)
  obtain⟨_,_,pi⟩:=cL i j4
  have j0:=o8 i j4
  generalize k0.getD i V.undef=vx at j0 pi
  have si:=pi.si
  have X:=el_isP hG E b6
  have j6:=i6 ha Fa
  simp(disch:=omega)only[go_sem,a8,d1,cD,d2,c3.ixa,j0 ha j6]
  refine (rorder_ok vx n (L.getD i []) ha n0 n7 X (si.mono j6)).mono ?_
  rintro _ r ⟨rfl,fb⟩
  obtain⟨o,ho⟩:=JR (iH (L.getD i []) n)
  rw[ho]
  have t3:=j6.trans fb
  have b4:=SV.dG si
  obtain⟨C,hC⟩:=JR r.next
  obtain⟨hc,ec,nc,a4,oc,fc⟩:=dN hC [.aD,aB 0,aB 0]
  obtain⟨hd,ed,nd,gd,od⟩:=mS hc C [vx,aB o,aB 0]
  have p8:hd.next=C+1:=om
  obtain⟨he,ee,ne,ge,oe,fe⟩:=dN p8 [aB i]
  have nb:=fb.next
  have i2:he.get D=some (.cells false (rc m λj=> aB (lbC G L i j:Nat))):=by rw[oe _ om,od _ om,oc _ om,fb.get _ om];exact gD
  obtain⟨hf,ef,nf,gf,of⟩:=mS he D ((rc m λj=> aB (lbC G L i j:Nat)).set i (aB ((repsC G L i).length+1:Nat)))
  have b2:=All2.length al
  have a5:(repsC G L i).length<=i:=by
   unfold repsC;refine jK (List.length_filter_le _ _) (by rw[zU];exact eS _)
  have a3:dA vK=some (aB ((repsC G L i).length:Int)):=by unfold dA;rw[SV.len ow.sv (n:=ks.length) (list3_len ks) om,b2];rfl
  have s9:kY [.aD,aB 0,aB 0] [(0,1,vx),(1,1,aB o)]=some (.agg [vx,aB o,aB 0]):=by
   simp [kY,gI,putAt,b4.1,b4.2.1,show (aB o).cells= [aB o] from rfl,show (aB o).one=true from rfl]
  have pt:=bF (vs:=rc m λj=> aB (lbC G L i j:Nat)) (off:=i) (by rw[cK];omega)
  have a5:=j0 r t3
  simp(disch:=omega)only[go_sem,a8,c3.ixa,a5,s9,hC,ec,dK hc C 0 (v:=vx) (u:= aB o) (w:= aB 0) b4.2.1 rfl rfl,a4,cW,ed,cJ hd (z:= aB 0) (v:= aB i) rfl rfl,p8,ee,a3,i2,pt,show ((repsC G L i).length:Int)+1=(((repsC G L i).length+1:Nat):Int) from rfl,ef]
  obtain⟨pl,q3⟩:=JR ((repsC G L i).length)
  have Fbf:Fx (· =D) r hf:=⟨om,λq l A=>by rw[of q A,oe q om,od q om,oc q om]⟩
  have a5:Fx (· =D) h7 r:=⟨by have:=Fa.next;omega,λq l A=>by rw[fb.get q (by have:=Fa.next;omega)];exact Fa.get q l A⟩
  have FT: ∀{hh},Fx (· =D) r hh->Fx (· =D) h7 hh:=λ{hh} f=>⟨by have:=f.next;have:=a5.next;omega,λq l A=>by rw[f.get q (by have:=a5.next;omega) A];exact a5.get q l A⟩
  have i8:hf.get D=some (.cells false (rc m λj=> aB (lbQ G L i [i] j:Nat))):=by
   rw[gf,eJ];congr 2;refine aY λj _=>?_
   rw[show [i]= []++ [i] from rfl,lbQ_push]
   by_cases e:j=i
   ·rw[aV e,aV e]
   ·rw[aZ e,aZ e,lbQ_nil]
  have i9:hf.get C=some (.cells false [vx,aB o,aB 0]):=by rw[of _ om,oe _ om];exact gd
  have k8:Own hf (.sl (C+1) 0 1 (.kn 1)) 1 (ints (zi [i])) (C+1):= .inr ⟨C+1,1,.kn 1, [],rfl,rfl,.inr ⟨rfl,rfl⟩,eS _,om,by rw[of _ om,qA];exact ge⟩
  have B0:BQ G L S i [i] 0:=⟨by simp,by simp,rfl,λj hj=>by
   obtain rfl:j=i:=by simpa using hj
   exact⟨om,cR_refl hG E b6⟩,λk hk=>om⟩
  refine bX (λvs hh=> ∃(Q:List Nat) (vQ:V),(∃g:Nat->V,vs= [g 0,.ptr B 0,.ptr (B+1) 0,g 3,Z,g 5,.ptr P 0,vS,.sl D 0 m (.kn m),vK,aB i,g 11,.ptr C 0,vQ,g 14,g 15,g 16,g 17,g 18,g 19,g 20,g 21,g 22,g 23,g 24,g 25,g 26,g 27,g 28,g 29,g 30,g 31,g 32,g 33])/\BQ G L S i Q Q.length/\hh.get C=some (.cells false [vx,aB o,aB (Q.length:Int)])/\C<hh.next/\hh.get D=some (.cells false (rc m λj=> aB (lbQ G L i Q j:Nat)))/\Fx (· =D) r hh) ?_ ?_
  ·refine aH (λk' vs hh=> ∃(Q:List Nat) (vQ:V) (p:Nat),(∃g:Nat->V,vs= [g 0,.ptr B 0,.ptr (B+1) 0,g 3,Z,g 5,.ptr P 0,vS,.sl D 0 m (.kn m),vK,aB i,g 11,.ptr C 0,vQ,aB p,g 15,g 16,g 17,g 18,g 19,g 20,g 21,g 22,g 23,g 24,g 25,g 26,g 27,g 28,g 29,g 30,g 31,g 32,g 33])/\p<=Q.length/\BQ G L S i Q p/\Own hh vQ 1 (ints (zi Q)) (C+1)/\hh.get C=some (.cells false [vx,aB o,aB p])/\C<hh.next/\hh.get D=some (.cells false (rc m λj=> aB (lbQ G L i Q j:Nat)))/\Fx (· =D) r hh/\k'=m-p) m
    ⟨[i],_,0,aA rfl,fF _,B0,k8,i9,om,i8,Fbf,rfl⟩ ?_
   clear i8 i9 k8 B0 Fbf ef nf gf of ee ne ge oe fe ed nd gd od ec nc a4 oc fc i2 pt cD d2
   rintro k' Y ka ⟨Q,vQ,p,⟨g2,rfl⟩,hp,F,oQ,gC,nC,a9,Fk,rfl⟩
   have j5:=F.len
   have g6:=Own.lens oQ (show (ints (zi Q)).length=Q.length by rw[aL,aQ])
   by_cases i5:(p:Int)<(Q.length:Int)
   case neg=>
    have d5:=bJ i5;obtain rfl:p=Q.length:=om
    simp(disch:=omega)only[go_sem,g6,d5];exact⟨Q,vQ,aA rfl,F,gC,nC,a9,Fk⟩
   have d5:=bM i5
   have b1:p<Q.length:=om
   obtain⟨kb,q8,r2,m0,c8⟩:=mS ka C [vx,aB o,aB (p+1:Nat)]
   have pC:=put_third3 (a:=vx) (b:= aB o) (c:= aB p)
   simp(disch:=omega)only[go_sem,g6,d5,H.aG gC,gC,pC,show (p:Int)+1=((p+1:Nat):Int) from rfl,q8]
   obtain⟨c,a6⟩:=JR (Q.getD p 0)
   obtain⟨m1,s6⟩:=F.mem c (by rw[←a6];exact getD_mem b1)
   have Cp:=el_isP hG E m1
   have f8: ∀hh,Fx (λq=>q=D∨q=C) kb hh->Fx (· =D) r hh:=λhh f=>⟨by have:=f.next;have:=Fk.next;omega,λq l A=>by rw[f.get q (by have:=Fk.next;omega) (by rintro (e|e);exact A e;omega),c8 q om];exact Fk.get q l A⟩
   have Fkb:Fx (· =D) r kb:=f8 kb (Fx.refl _ _)
   have nk:=Fk.next
   have q4:Own kb vQ 1 (ints (zi Q)) (C+1):=oQ.keep om λid off n' cp e l=>c8 id (by have:=(oQ.in _ _ _ _ e).2.1;omega)
   have d4:kb.get D=some (.cells false (rc m λj=> aB (lbQ G L i Q j:Nat))):=by rw[c8 D om];exact a9
   refine aH (λk' vs hh=> ∃(Q:List Nat) (vQ:V) (t:Nat),(∃g:Nat->V,vs= [g 0,.ptr B 0,.ptr (B+1) 0,g 3,Z,g 5,.ptr P 0,vS,.sl D 0 m (.kn m),vK,aB i,g 11,.ptr C 0,vQ,aB p,aB t,g 16,g 17,g 18,g 19,g 20,g 21,g 22,g 23,g 24,g 25,g 26,g 27,g 28,g 29,g 30,g 31,g 32,g 33])/\t<=sl/\p<Q.length/\BQ G L S i Q p/\Q.getD p 0=c/\(∀s∈S.take t,∃j∈Q,L.getD j []=conjP (L.getD c []) s)/\Own hh vQ 1 (ints (zi Q)) (C+1)/\hh.get C=some (.cells false [vx,aB o,aB (p+1:Nat)])/\C<hh.next/\hh.get D=some (.cells false (rc m λj=> aB (lbQ G L i Q j:Nat)))/\Fx (· =D) r hh/\k'=sl-t) sl
    ⟨Q,vQ,0,aA rfl,fF _,b1,F,a6,λs hs=>(by simp at hs),q4,m0,om,d4,Fkb,rfl⟩ ?_
   clear F oQ gC a9 Fk a6 b1 j5 g6 d5 hp i5 q8 r2 m0 c8 f8 Fkb q4 d4 nk nC kb ka
   clear Q vQ
   rintro k' Y ka ⟨Q,vQ,t,⟨g3,rfl⟩,ht,b1,F,a6,i4,oQ,gC,nC,a9,Fk,rfl⟩
   have j5:=F.len
   by_cases p6:(t:Int)<(sl:Int)
   case neg=>
    have d5:=bJ p6;obtain rfl:t=sl:=om
    simp(disch:=omega)only[go_sem,c7,d5];rw[dY p];refine⟨m-(p+1),om,Q,vQ,p+1,aA rfl,om,⟨F.nd,F.ne,F.hd,F.mem,λk hk s hs=>?_⟩,oQ,gC,nC,a9,Fk,rfl⟩
    by_cases e:k=p
    ·subst e
     rw[a6];exact i4 s (by rw[←o3,List.take_length];exact hs)
    ·exact F.cl k om s hs
   have d5:=bM p6
   have m9:t<sl:=om
   have r4:p<Q.length:=b1
   obtain⟨a5,a5,r8,cq⟩:=zi_cell (h:=ka) (hh:=ka) (b:=Q.length) oQ.sv rfl
   have j2:=λhh f=>cq hh f p r4
   rw[a6] at j2
   have c1:=fD ka (FT Fk)
   have c9:=i6 ka (FT Fk)
   obtain⟨_,_,sy⟩:=cS t m9
   have cy:=s3 t m9
   obtain⟨_,_,pz⟩:=cL c om
   have cz:=o8 c om
   generalize m4.getD t V.undef=vy at cy sy
   generalize k0.getD c V.undef=vz at cz pz
   have sz:=pz.si
   obtain⟨s,hs⟩:=JR (S.getD t [])
   rw[hs] at sy
   have d7:s∈S:=by rw[←hs];exact getD_mem om
   have Sp:=hG.isP (c2 s d7)
   simp(disch:=omega)only[go_sem,c7,d5,j9.ixa,cy ka c1,r8.ixa,j2 ka (Fr.refl _),c3.ixa,cz ka c9]
   have c3:Fr ka (H.mk ka.tr (ka.next+19)):=(Fr.refl ka).bN om
   refine (kinv_ok vy n s _ om Sp ((sy.mono c1).mono c3)).mono ?_
   rintro c6 k1 a5
   have K1:=c3.trans a5.fr
   have ez:=SV.dJ sz
   have ey:=SV.dJ sy
   simp(disch:=omega)only[go_sem,j2 k1 K1,cz k1 (c9.trans K1),cy k1 (c1.trans K1),ez,ey]
   refine (kmul_ok c6 vz (dM s) (L.getD c []) k1 (by rw[gG,Sp.len];omega) (a5.pv (W:=λ_=>False) id).si (sz.mono (c9.trans K1)) (λj hj=>by rw[Cp.len];exact Sp.inv.dZ (by rw[←Sp.inv.len];exact hj))).mono ?_
   rintro c6 k2 ⟨a5,c3,_⟩
   have K2:=K1.trans c3
   have P2:=Sp.inv.mul Cp
   simp(disch:=omega)only[go_sem,cy k2 (c1.trans K2),ey]
   refine (kmul_ok c6 vy _ s k2 (by rw[P2.len];omega) a5 (sy.mono (c1.trans K2)) (λj hj=>by rw[Sp.len];exact P2.dZ (by rw[←P2.len];exact hj))).mono ?_
   rintro c1 k3 ⟨a5,c3,_⟩
   have K3:=K2.trans c3
   have P3:=P2.mul Sp
   simp(disch:=omega)only[go_sem]
   have s8:bE (bE (dM s) (L.getD c [])) s∈L:=(E.mem _).2 (hG.mul (hG.mul (hG.inv (c2 s d7)) (el_mem E m1)) (c2 s d7))
   refine (index_ok Z c1 n L _ k3 om om LP P3 E.asc (sL.mono (c9.trans K3)) a5).mono ?_
   rintro a5 k4 ⟨a5,r9⟩
   rcases a5 with ⟨j,rfl,hj,ej⟩|⟨a5,_⟩
   case inr=>exact absurd s8 a5
   have K4:=K3.trans r9
   have i1:L.getD j []=conjP (L.getD c []) s:=ej
   have m2:cR G L i j:=cR_trans hG E om s6 ⟨s,c2 s d7,i1.symm⟩
   have l7:S.take (t+1)=S.take t++ [s]:=by rw[take_getD [] om,hs]
   have a5:=K4.next
   have a5:=Fk.next
   have k9:k4.get D=some (.cells false (rc m λj=> aB (lbQ G L i Q j:Nat))):=by rw[K4.get _ om];exact a9
   have q7:k4.get C=some (.cells false [vx,aB o,aB (p+1:Nat)]):=by rw[K4.get _ nC];exact gC
   have l1:=oQ.fr K4
   have r0:Fx (· =D) r k4:=⟨om,λq l A=>by rw[K4.get q om];exact Fk.get q l A⟩
   have l3:=gU k9 (i:=j) om
   have f5:=lbQ_iff hG E (Q:=Q) b6 hr hj m2
   by_cases d3:j∈Q
   ·have d6:decide (((lbQ G L i Q j:Nat):Int)=0)=false:=bJ λh=>f5.1 om d3
    simp(disch:=omega)only[go_sem,l3,d6]
    rw[dY t]
    refine⟨sl-(t+1),om,Q,vQ,t+1,aA rfl,om,b1,F,a6,?_,l1,q7,om,k9,r0,rfl⟩
    rw[l7]
    intro s' b9
    rcases sZ.1 b9 with l|l
    ·exact i4 s' l
    ·obtain rfl:s'=s:=by simpa using l
     exact⟨j,d3,i1⟩
   have d6:decide (((lbQ G L i Q j:Nat):Int)=0)=true:=bM (by rw[f5.2 d3];rfl)
   obtain⟨k5,e5,p,r7,r1⟩:=mS k4 D ((rc m λj=> aB (lbQ G L i Q j:Nat)).set j (aB (pl+1:Nat)))
   have pt:=bF (vs:=rc m λj=> aB (lbQ G L i Q j:Nat)) (off:=j) (by rw[cK];omega)
   have q5:Own k5 vQ 1 (ints (zi Q)) (C+1):=l1.keep om λid off n' cp e l=>r1 id (by have:=(l1.in _ _ _ _ e).2.1;omega)
   obtain⟨p,t6,p,s4,l8,t5⟩:=dN (h:=k5) rfl [aB j]
   obtain⟨k7,a7,p7⟩:=(q5.fr t5).push (bytes:=8) (SV.one (v:= aB j) (id:=k5.next) om s4 (.kn 1)) (n:=Q.length) (m:=1) (by rw[aL,aQ];simp) rfl om om om
   have p:=a3
   rw[q3] at p
   simp(disch:=omega)only[go_sem,l3,d6,p,show (pl:Int)+1=((pl+1:Nat):Int) from rfl,k9,pt,e5,cJ k5 (z:= aB 0) (v:= aB j) rfl rfl,t6,a7]
   rw[dY t]
   have el:ints (zi (Q++ [j]))=ints (zi Q)++ [aB j]:=by simp [zi,ints]
   have p:=p7.next
   have l6: ∀q,q<=C->dH vQ q:=λq hq id off n' cp e e2=>by have:=(q5.in _ _ _ _ e).2.1;omega
   have e8: ∀q,q<=C->q≠D->k7.get q=k4.get q:=λq l A=>by rw[p7.old q om (l6 q l),l8 q om,r1 q A]
   have t4:(rc m λp=>aB (lbQ G L i Q p:Nat)).set j (aB (pl+1:Nat))=rc m λp=> aB (lbQ G L i (Q++ [j]) p:Nat):=by
    rw[eJ]
    exact aY λp _=>by
     rw[lbQ_push,q3]
     by_cases e:p=j
     ·rw[aV e,aV e]
     ·rw[aZ e,aZ e]
   refine⟨sl-(t+1),om,Q++ [j],_,t+1,aA rfl,om,by rw[iZ];omega,⟨?_,by rw[iZ];simp,?_,?_,?_⟩,?_,?_,by rw[el];exact p7.own (by rw[aL,aQ];omega) rfl om,by rw[e8 C (eS _) om];exact q7,om,?_,?_,rfl⟩
   ·rw[List.nodup_append]
    exact⟨F.nd,by simp,λx hx y hy e=>by
     obtain rfl:y=j:=by simpa using hy
     exact d3 (e▸hx)⟩
   ·rw[List.getD,wE F.ne];exact F.hd
   ·intro x hx
    rcases sZ.1 hx with l|l
    ·exact F.mem x l
    ·obtain rfl:x=j:=by simpa using l
     exact⟨hj,m2⟩
   ·intro k hk s' b9
    obtain⟨y,hy,ey⟩:=F.cl k hk s' b9
    refine⟨y,sZ.2 (.inl hy),?_⟩
    rw[ey,List.getD,List.getD,List.getD,List.getD,wE om]
   ·rw[List.getD,wE b1];exact a6
   ·rw[l7]
    intro s' b9
    rcases sZ.1 b9 with l|l
    ·obtain⟨y,hy,ey⟩:=i4 s' l
     exact⟨y,sZ.2 (.inl hy),ey⟩
    ·obtain rfl:s'=s:=by simpa using l
     exact⟨j,sZ.2 (.inr (by simp)),i1⟩
   ·rw[p7.old D om (l6 D om),l8 D om,r7,t4]
   ·refine⟨om,λq l A=>?_⟩
    rw[e8 q om A]
    exact r0.get q l A
  clear i8 i9 k8 B0 Fbf ef nf gf of ee ne ge oe fe ed nd gd od ec nc a4 oc fc i2 pt cD d2
  rintro Y ka ⟨Q,vQ,⟨g2,rfl⟩,p,gC,nC,a9,Fk⟩
  have hQ:=p.done hG E (eS _) b6 c2 l2
  have t2:Q.length=(orbC G L i).length:=by
   have:=(List.perm_ext_iff_of_nodup p.nd (orbC_nodup (G:=G) (L:=L) i)).2 λj=>by rw[hQ j,orbC_mem]
   exact this.length_eq
  have j5:=p.len
  have nk:=Fk.next
  obtain⟨kc,s5,p,s2,j3,p⟩:=dN (h:=ka) rfl [vx,aB o,aB (Q.length:Int)]
  have d0:=FT Fk
  have p:Own kc vK 3 (list3 ks) (D+1):=ow.keep (by have:=fb.next;omega) λid off n' cp e l=>by
   have A:=(ow.in _ _ _ _ e).2.1;rw[j3 id om,Fk.get id om (λe=>by have:id=D:=e;omega),fb.get id om]
  obtain⟨s,r3,d8⟩:=p.push (bytes:=40) (y:= .sl ka.next 0 1 (.kn 1)) (us:= [vx,aB o,aB (Q.length:Int)]) (SV.all rfl om s2 _) (n:=ks.length) (m:=1) (by rw[list3_len]) rfl om om om
  have p:=d8.next
  simp(disch:=omega)only[go_sem,aS gC,bls_three b4.2.1,s5,r3]
  rw[dY i]
  obtain⟨ke,g0,e3,e6⟩: ∃a:Cls.KE,a.rep=vx/\a.ord=o/\a.size=Q.length:=⟨⟨vx,o,Q.length,.aD,0,⟨b4.1,b4.2.1,SV.dJ si⟩,⟨rfl,rfl,rfl⟩⟩,rfl,rfl,rfl⟩
  have ap: ∀q,q<=D->dH vK q:=λq hq id off n' cp e e2=>by have:=(ow.in _ _ _ _ e).2.1;omega
  refine⟨m-(i+1),om,i+1,_,ks++ [ke],aA rfl,om,?_,?_,?_,om,?_,rfl⟩
  ·have t:=d8.own (b:=D+1) (by rw[list3_len]) rfl om
   have e:list3 (ks++ [ke])=list3 ks++ [vx,aB o,aB (Q.length:Int)]:=by rw[list3_app];simp [list3,g0,e3,e6]
   rw[e]
   exact t
  ·rw[(repsC_succ i).1 hr]
   exact al.append ⟨⟨by rw[e3,ho],by rw[e6,t2],by rw[g0];exact pi⟩,trivial⟩
  ·rw[d8.old D om (ap D (eS _)),j3 D om,a9,aY λj hj=>by rw[lbQ_done hG E b6 hr hQ om]]
  ·refine⟨by have:=d0.next;omega,λq l A=>?_⟩
   have o:q≠D:=A
   rw[d8.old q (by have:=d0.next;omega) (ap q om),j3 q (by have:=d0.next;omega)]
   exact d0.get q l A
 rintro Y h8 ⟨vK,ks,⟨g,rfl⟩,ow,al,gD,nD,F8⟩
 obtain⟨K,ik⟩:=isK_ex n G L
 obtain⟨M,hM⟩:=JR (repsC G L m)
 rw[hM] at al
 have b2:=All2.length al
 obtain⟨w,hw⟩:=JR M.length
 rw[hw] at b2
 have o:w<=m:=by
  rw[←hw,←hM];unfold repsC;exact jK (List.length_filter_le _ _) (by rw[zU];exact eS _)
 have a3:dA vK=some (aB w):=by unfold dA;rw[SV.len ow.sv (n:=w) (by rw[list3_len,b2]) om];rfl
 obtain⟨c0,f0,j7,b3,b5⟩:=SV.shape ow.sv w (by rw[list3_len,b2]) om
 rw[list3_len,b2] at b5
 have o:=fD h8 F8
 have b8:=i6 h8 F8
 have rK: ∀i,(hi:i<w)-> ∀hh,Fr h8 hh->hh.row c0 (f0+i*3) 3=some [(ks[i]'om).rep,aB ((ks[i]'om).ord:Int),aB ((ks[i]'om).size:Int)]:=λi hi hh f=>by
  obtain⟨o,p,s⟩:=list3_at (ks:=ks) (i:=i) om;refine row3_cells ?_ ?_ ?_
  ·rw[f.cell (b3 om),b5 _ om,o]
  ·rw[f.cell (b3 om),Nat.add_assoc,b5 _ om,p]
  ·rw[f.cell (b3 om),Nat.add_assoc,b5 _ om,s]
 obtain⟨N,o⟩:=JR h8.next
 obtain⟨h9,e9,n9,g9,o9,f9⟩:=dN o (rc w λ_=> aB 0)
 simp(disch:=omega)only[go_sem,a3,mks_zeros _ w om,o,e9]
 have o:=F8.next
 have fN: ∀hh,Fx (· =N) h9 hh->Fr h8 hh:=λhh f=>⟨by have:=f.next;omega,λq hq=>by rw[f.get q om (λe=>by have:q=N:=e;omega)];exact o9 q om⟩
 have l4: ∀i,(hi:i<w)->KFd n G L (λq=>q<A.next) h3 (ks[i]'om) (M.getD i 0)/\M.getD i 0<L.length:=λi hi=>by
  have l:=All2.get al i om om;have e:M.getD i 0=M[i]'om:=bT om;have j1:M.getD i 0∈repsC G L m:=by rw[hM];exact getD_mem om
  refine⟨by rw[e];exact l,?_⟩;have:=(repsC_mem.1 j1).1;omega
 obtain⟨bK,n6⟩: ∃bK:Nat->Nat->Bool,∀k i,bK k i=true↔kLt n G L (M.getD k 0) (M.getD i 0):=by
  classical
  exact⟨λk i=>decide (kLt n G L (M.getD k 0) (M.getD i 0)),λk i=>by simp⟩
 have t7: ∀i,i<w->cntB (λu=>bK u i) w=K.idxOf (M.getD i 0):=λi hi=>by
  have:=nb_count ik (λu=>bK u i) (t:=i) (by rw[hm,hM];omega) (λu o=>by rw[hm,hM];exact n6 u i);rw[hm,hM,hw] at this;exact this
 refine bX (λvs hh=>(∃g:Nat->V,vs= [g 0,.ptr B 0,.ptr (B+1) 0,g 3,Z,g 5,.ptr P 0,g 7,.sl D 0 m (.kn m),vK,g 10,g 11,g 12,g 13,g 14,g 15,g 16,g 17,.sl N 0 w (.kn w),g 19,g 20,g 21,g 22,g 23,g 24,g 25,g 26,g 27,g 28,g 29,g 30,g 31,g 32,g 33])/\hh.get N=some (.cells false (rc w λt=> aB (K.idxOf (M.getD t 0):Nat)))/\N<hh.next/\Fx (· =N) h9 hh) ?_ ?_
 ·refine aH (λk' vs hh=> ∃(i:Nat),(∃g:Nat->V,vs= [g 0,.ptr B 0,.ptr (B+1) 0,g 3,Z,g 5,.ptr P 0,g 7,.sl D 0 m (.kn m),vK,g 10,g 11,g 12,g 13,g 14,g 15,g 16,g 17,.sl N 0 w (.kn w),aB i,g 20,g 21,g 22,g 23,g 24,g 25,g 26,g 27,g 28,g 29,g 30,g 31,g 32,g 33])/\i<=w/\hh.get N=some (.cells false (rc w λt=> aB (if t<i then K.idxOf (M.getD t 0) else 0:Nat)))/\N<hh.next/\Fx (· =N) h9 hh/\k'=w-i) w
   ⟨0,aA rfl,fF _,by rw[g9];rfl,om,Fx.refl _ _,rfl⟩ ?_
  rintro k' Y ha ⟨i,⟨g,rfl⟩,hi,gN,nN,Fa,rfl⟩
  by_cases a2:(i:Int)<(w:Int)
  case neg=>
   have d1:=bJ a2;obtain rfl:i=w:=om
   simp(disch:=omega)only[go_sem,a3,d1];exact⟨aA rfl,by rw[gN,aY λj hj=>by rw[aV hj]],nN,Fa⟩
  have d1:=bM a2
  have i7:i<w:=om
  simp(disch:=omega)only[go_sem,a3,d1]
  refine aH (λk' vs hh=> ∃(k:Nat),(∃g:Nat->V,vs= [g 0,.ptr B 0,.ptr (B+1) 0,g 3,Z,g 5,.ptr P 0,g 7,.sl D 0 m (.kn m),vK,g 10,g 11,g 12,g 13,g 14,g 15,g 16,g 17,.sl N 0 w (.kn w),aB i,aB k,g 21,g 22,g 23,g 24,g 25,g 26,g 27,g 28,g 29,g 30,g 31,g 32,g 33])/\k<=w/\hh.get N=some (.cells false (rc w λt=> aB (if t<i then K.idxOf (M.getD t 0) else if t=i then cntB (λu=>bK u i) k else 0:Nat)))/\N<hh.next/\Fx (· =N) h9 hh/\k'=w-k) w
   ⟨0,aA rfl,fF _,by
    rw[gN,aY λj hj=>?_]
    by_cases e:j<i
    ·rw[aV e,aV e]
    ·rw[aZ e,aZ e];split<;>rfl,nN,Fa,rfl⟩ ?_
  clear gN nN Fa ha
  rintro k' Y ha ⟨k,⟨g,rfl⟩,hk,gN,nN,Fa,rfl⟩
  by_cases m3:(k:Int)<(w:Int)
  case neg=>
   have d2:=bJ m3;obtain rfl:k=w:=om
   simp(disch:=omega)only[go_sem,a3,d2];rw[dY i];refine⟨k-(i+1),om,i+1,aA rfl,om,?_,nN,Fa,rfl⟩;rw[gN,aY λj hj=>?_]
   by_cases e:j<i
   ·rw[aV e,aV om]
   ·rw[aZ e]
    by_cases e2:j=i
    ·subst e2;rw[aV rfl,aV om,t7 j hj]
    ·rw[aZ e2,aZ om]
  have d2:=bM m3
  have o:k<w:=om
  have a1:=fN ha Fa
  simp(disch:=omega)only[go_sem,a3,d2,j7.ixa,rK k o ha a1,rK i i7 ha a1]
  obtain⟨l0,l5⟩:=l4 k o
  obtain⟨i0,m8⟩:=l4 i i7
  have b0:Fr ha (H.mk ha.tr (ha.next+9)):=(Fr.refl ha).bN om
  have s0:(ks[k]'om).ord<(ks[i]'om).ord∨(ks[k]'om).ord=(ks[i]'om).ord/\((ks[k]'om).size<(ks[i]'om).size∨(ks[k]'om).size=(ks[i]'om).size/\Lt (L.getD (M.getD k 0) []) (L.getD (M.getD i 0) []))↔bK k i=true:=by
   rw[n6,l0.ord,l0.size,i0.ord,i0.size,lt_rank E l5 m8];rfl
  refine (rbefore_ok _ _ n (L.getD (M.getD k 0) []) (L.getD (M.getD i 0) []) _ om (el_isP hG E l5).len (el_isP hG E m8).len (((l0.rep.si.mono b8).mono a1).mono b0) (((i0.rep.si.mono b8).mono a1).mono b0) (bK k i) s0).mono ?_
  rintro _ r ⟨rfl,fb⟩
  have Fb:Fx (· =N) h9 r:=⟨by have:=Fa.next;have:=b0.next;have:=fb.next;omega,λq l A=>by rw[fb.get q (by have:=Fa.next;have:=b0.next;omega),b0.get q (by have:=Fa.next;omega)];exact Fa.get q l A⟩
  have b7:=gN
  rw[←(b0.trans fb).get N nN] at b7
  have o:=(b0.trans fb).next
  have p9:=gU b7 i7
  rw[aZ om,aV rfl] at p9
  have cs:=cntB_succ (λu=>bK u i) k
  have cl:=cntB_le (λu=>bK u i) k
  cases hb1:bK k i with
  |false=>
   simp(disch:=omega)only[go_sem];rw[dY k];have cs:cntB (λu=>bK u i) (k+1)=cntB (λu=>bK u i) k:=by rw[cs,hb1];rfl
   exact⟨w-(k+1),om,k+1,aA rfl,om,by rw[b7,cs],om,Fb,rfl⟩
  |true=>
   rw[hb1,aV rfl] at cs;have pt:=bF (vs:=rc w λt=>aB (if t<i then K.idxOf (M.getD t 0) else if t=i then cntB (λu=>bK u i) k else 0:Nat)) (off:=i) (by rw[cK];omega);simp(disch:=omega)only[go_sem,p9,b7,pt];rw[dY k];refine⟨w-(k+1),om,k+1,aA rfl,om,?_,(show N<r.next by omega),⟨(show h9.next<=r.next from Fb.next),λq l A=>by rw[H.aI _ A];exact Fb.get q l A⟩,rfl⟩;rw[eJ];congr 2;refine aY λj hj=>?_
   by_cases e:j=i
   ·subst e
    rw[aV rfl,aZ om,aV rfl,cs];rfl
   ·rw[aZ e,aZ e,aZ e]
 clear n9 g9 o9 f9 e9
 rintro Y ha ⟨⟨g,rfl⟩,gN,nN,Fa⟩
 have a1:=fN ha Fa
 have o:=Fa.next
 have o:P<D:=om
 have o:ha.get P=some (.cells false [aB n,vO,vR,Z,.aD,.aD]):=by
  rw[a1.get P om,F8.get P om (λe=>by have:P=D:=e;omega),o7 P om,f6.get P om];exact g5
 have t1:ha.get (B+1)=some (.cells false [aB 0,.aD,.aD,.aD,.aD,.aD]):=by
  rw[a1.get _ om,b8.get _ om,f3.get _ om];exact g2
 have s1:ha.get D=some (.cells false (rc m λj=> aB (lbC G L m j:Nat))):=by rw[a1.get _ om];exact gD
 obtain⟨J,p⟩:=JR ha.next
 obtain⟨r,eb,nb,gb,ob,fb⟩:=dN p (list3 (List.replicate w zKE))
 obtain⟨hc,ec,nc,a4,oc⟩:=mS r P [aB n,vO,vR,Z,.sl J 0 w (.kn w),.aD]
 have i3:r.get P=some (.cells false [aB n,vO,vR,Z,.aD,.aD]):=by rw[fb.get _ om];exact o
 have o: ∀(hh:H) (y:V),dQ (some (.cells false [aB n,vO,vR,Z,.aD,.aD])) hh P 4 [y]=some (hh.set P (some (.cells false [aB n,vO,vR,Z,y,.aD]))):=λhh y=>by simp [dQ,putAt]
 simp(disch:=omega)only[go_sem,a3,mks3 ha w om,p,eb,i3,o,ec]
 have t8:M.Nodup:=by rw[←hM];exact repsC_nodup _
 have pK:K.Perm M:=by rw[←hM,←hm];exact ik.perm
 have lK:K.length=w:=by rw[pK.length_eq,hw]
 have U0: ∀q,q<J->q≠P->hc.get q=ha.get q:=λq l A=>by rw[oc q A,ob q om]
 have s7:0<w->D+1<=c0:=λo=>Own.ge ow (n:=w) (by rw[list3_len,b2]) om j7 o
 refine bX (λvs hh=>(∃g:Nat->V,vs= [g 0,.ptr B 0,.ptr (B+1) 0,g 3,Z,g 5,.ptr P 0,g 7,.sl D 0 m (.kn m),vK,g 10,g 11,g 12,g 13,g 14,g 15,g 16,g 17,.sl N 0 w (.kn w),g 19,g 20,g 21,g 22,g 23,g 24,g 25,g 26,g 27,g 28,g 29,g 30,g 31,g 32,g 33])/\hh.get P=some (.cells false [aB n,vO,vR,Z,.sl J 0 w (.kn w),.aD])/\hh.get J=some (.cells false (list3 (kst M K ks w w)))/\J<hh.next/\ ∀q,q<J->q≠P->hh.get q=ha.get q) ?_ ?_
 ·refine aH (λk' vs hh=> ∃(t:Nat),(∃g:Nat->V,vs= [g 0,.ptr B 0,.ptr (B+1) 0,g 3,Z,g 5,.ptr P 0,g 7,.sl D 0 m (.kn m),vK,g 10,g 11,g 12,g 13,g 14,g 15,g 16,g 17,.sl N 0 w (.kn w),g 19,g 20,aB t,g 22,g 23,g 24,g 25,g 26,g 27,g 28,g 29,g 30,g 31,g 32,g 33])/\t<=w/\hh.get P=some (.cells false [aB n,vO,vR,Z,.sl J 0 w (.kn w),.aD])/\hh.get J=some (.cells false (list3 (kst M K ks w t)))/\J<hh.next/\(∀q,q<J->q≠P->hh.get q=ha.get q)/\k'=w-t) w
   ⟨0,aA rfl,fF _,a4,by rw[oc J om,kst_zero];exact gb,om,U0,rfl⟩ ?_
  clear U0 a4 oc nc ec i3 gb ob fb nb eb
  rintro k' Y hd ⟨t,⟨g,rfl⟩,ht,gP,gT,nT,U,rfl⟩
  by_cases a2:(t:Int)<(w:Int)
  case neg=>
   have d1:=bJ a2;obtain rfl:t=w:=om
   simp(disch:=omega)only[go_sem,a3,d1];exact⟨aA rfl,gP,gT,nT,U⟩
  have d1:=bM a2
  have g8:t<w:=om
  have o:hd.get N=some (.cells false (rc w λt=> aB (K.idxOf (M.getD t 0):Nat))):=by rw[U N om om];exact gN
  have cN:=gU o g8
  have o6:K.idxOf (M.getD t 0)<w:=by
   have j1:M.getD t 0∈K:=pK.mem_iff.2 (getD_mem om);have:=Za.2 j1;omega
  have d9:=kst_set (ks:=ks) pK t8 hw g8
  have ek:ks.getD t zKE=ks[t]'om:=by rw[List.getD,eV om];rfl
  rw[ek] at d9
  generalize K.idxOf (M.getD t 0)=q0 at cN o6 d9
  have q6:hd.row c0 (f0+t*3) 3=some [(ks[t]'om).rep,aB ((ks[t]'om).ord:Int),aB ((ks[t]'om).size:Int)]:=by
   have l:=rK t g8 h8 (Fr.refl _);have A:=b3 om;have h3:=s7 om;unfold H.row at l ⊢;rw[U c0 om om,a1.get c0 A];exact l
  have e0:=(ks[t]'(show t<ks.length by omega)).hrep.2.1
  generalize ks[t]'(show t<ks.length by omega)=a at d9 q6 e0
  have pt:=λhh=>putO_at3 (ks:=kst M K ks w t) (i:=q0) (by rw[kst_len];exact o6) hh J a
  simp only[Nat.zero_add] at pt
  simp(disch:=omega)only[go_sem,a3,d1,H.aG gP,cN,j7.ixa,q6,dK _ J _ (v:=a.rep) (u:= aB (a.ord:Int)) (w:= aB (a.size:Int)) e0 rfl rfl,gT,pt]
  rw[dY t]
  refine⟨w-(t+1),om,t+1,aA rfl,om,?_,by rw[d9],(show J<hd.next+12 by omega),λq l A=>?_,rfl⟩
  ·exact gP
  ·rw[H.aI _ om];exact U q l A
 clear U0 a4 oc nc ec i3 gb ob fb nb eb hc r
 rintro Y r ⟨⟨g,rfl⟩,gP,gT,nT,U⟩
 simp(disch:=omega)only[go_sem]
 refine bX (λvs hh=> ∃(vM:V),(∃g:Nat->V,vs= [g 0,.ptr B 0,.ptr (B+1) 0,g 3,Z,g 5,.ptr P 0,g 7,.sl D 0 m (.kn m),vK,g 10,g 11,g 12,g 13,g 14,g 15,g 16,g 17,.sl N 0 w (.kn w),g 19,g 20,g 21,g 22,g 23,g 24,g 25,g 26,g 27,g 28,g 29,g 30,g 31,g 32,g 33])/\hh.get P=some (.cells false [aB n,vO,vR,Z,.sl J 0 w (.kn w),vM])/\Own hh vM 1 (ints (zi (numsL G L K))) (J+1)/\hh.get J=some (.cells false (list3 (kst M K ks w w)))/\J<hh.next/\ ∀q,q<J->q≠P->hh.get q=ha.get q) ?_ ?_
 ·refine aH (λk' vs hh=> ∃(j:Nat) (vM:V),(∃g:Nat->V,vs= [g 0,.ptr B 0,.ptr (B+1) 0,g 3,Z,g 5,.ptr P 0,g 7,.sl D 0 m (.kn m),vK,g 10,g 11,g 12,g 13,g 14,g 15,g 16,g 17,.sl N 0 w (.kn w),g 19,g 20,g 21,aB j,g 23,g 24,g 25,g 26,g 27,g 28,g 29,g 30,g 31,g 32,g 33])/\j<=m/\hh.get P=some (.cells false [aB n,vO,vR,Z,.sl J 0 w (.kn w),vM])/\Own hh vM 1 (ints (zi ((numsL G L K).take j))) (J+1)/\hh.get J=some (.cells false (list3 (kst M K ks w w)))/\J<hh.next/\(∀q,q<J->q≠P->hh.get q=ha.get q)/\k'=m-j) m
   ⟨0,.aD,aA rfl,fF _,gP,Own.aD _ _ _,gT,nT,U,rfl⟩ ?_
  clear gP gT nT U r
  rintro k' Y r ⟨j,vM,⟨g,rfl⟩,hj,gP,oM,gT,nT,U,rfl⟩
  have i:(numsL G L K).length=m:=by simp [numsL,hm]
  by_cases a2:(j:Int)<(m:Int)
  case neg=>
   have d1:=bJ a2;obtain rfl:j=m:=om
   simp(disch:=omega)only[go_sem,a8,d1];rw[yW om] at oM;exact⟨vM,aA rfl,gP,oM,gT,nT,U⟩
  have d1:=bM a2
  have n3:j<m:=om
  have d4:r.get D=some (.cells false (rc m λj=> aB (lbC G L m j:Nat))):=by rw[U D om om];exact s1
  have b7:r.get N=some (.cells false (rc w λt=> aB (K.idxOf (M.getD t 0):Nat))):=by rw[U N om om];exact gN
  have cD:=gU d4 n3
  have i:=lbC_done hG E (j:=j) om
  obtain⟨q1,q2⟩:=numC_ord hG E ik (j:=j) om
  rw[hm,hM] at i q1 q2
  rw[i] at cD
  rw[hw] at q1
  generalize numC G L M j=u at cD q1 q2
  have cN:=gU b7 q1
  rw[←q2] at cN
  have eN:(numsL G L K).take (j+1)=(numsL G L K).take j++ [numC G L K j]:=by
   rw[take_getD 0 om];have:(numsL G L K).getD j 0=numC G L K j:=by simp [numsL,hm,n3]
   rw[this]
  have b5:numC G L K j<=K.length:=by unfold numC;exact List.findIdx_le_length
  generalize numC G L K j=c at cN eN b5
  obtain⟨hc,c4⟩: ∃hc:H,hc=H.mk ((H.mk r.tr (r.next+10)).new (.cells false [aB c])).tr (r.next+14):=⟨_,rfl⟩
  have nc:hc.next=r.next+14:=by rw[c4]
  have a4:hc.get (r.next+10)=some (.cells false [aB c]):=by rw[c4];exact H.aN (H.mk r.tr (r.next+10)) _
  have oc: ∀q,q≠r.next+10->hc.get q=r.get q:=λq hq=>by rw[c4];exact H.bL (H.mk r.tr (r.next+10)) hq _
  have fc:Fr r hc:=⟨om,λq hq=>oc q om⟩
  obtain⟨hd,ad,pd⟩:=(oM.fr fc).push (bytes:=8) (SV.one (v:= aB c) (id:=r.next+10) om a4 (.kn 1)) (n:=j) (m:=1) (by rw[aL,aQ,xF];omega) rfl om om om
  have nd:=pd.next
  have i: ∀q,q<=J->dH vM q:=λq hq id off n' cp e e2=>by have:=(oM.in _ _ _ _ e).2.1;omega
  have od: ∀q,q<=J->hd.get q=r.get q:=λq hq=>by
   rw[pd.old q om (i q hq),oc q om]
  have r5:hd.get P=some (.cells false [aB n,vO,vR,Z,.sl J 0 w (.kn w),vM]):=by rw[od P om];exact gP
  have p5: ∀(hh:H) (y:V),dQ (some (.cells false [aB n,vO,vR,Z,.sl J 0 w (.kn w),vM])) hh P 5 [y]=some (hh.set P (some (.cells false [aB n,vO,vR,Z,.sl J 0 w (.kn w),y]))):=λhh y=>by simp [dQ,putAt]
  simp(disch:=omega)only[go_sem,a8,d1,H.aG gP,cD,show ((u+1:Nat):Int)- 1=(u:Int) from om,cN,cJ _ (z:= aB 0) (v:= aB c) rfl rfl,←c4,ad,r5,p5]
  rw[dY j]
  have t:=pd.own (b:=J+1) (by rw[aL,aQ,xF];omega) rfl om
  have el:ints (zi ((numsL G L K).take (j+1)))=ints (zi ((numsL G L K).take j))++ [aB c]:=by rw[eN];simp [zi,ints]
  rw[←el] at t
  refine⟨m-(j+1),om,j+1,_,aA rfl,om,rfl,?_,?_,(show J<hd.next by omega),λq l A=>?_,rfl⟩
  ·exact t.mono (eS _) λid off n' cp e l A=>H.aI _ om _
  ·rw[od J (eS _)];exact gT
  ·rw[H.aI _ A,od q om];exact U q l A
 clear gP gT nT U r
 rintro Y r ⟨vM,⟨g,rfl⟩,gP,oM,gT,nT,U⟩
 have gA:r.get (B+1)=some (.cells false [aB 0,.aD,.aD,.aD,.aD,.aD]):=by rw[U _ om om];exact t1
 have p0:=(SV.dG oM.sv).2.1
 simp(disch:=omega)only[go_sem,row_six gP,stV_six _ (B+1) (a:= aB n) (b:=vO) (c:=vR) (d:=Z) (e:= .sl J 0 w (.kn w)) (f:=vM) rfl a0.1 a0.2 wL.2.1 rfl p0,gA,putO_six,row_six (H.aT ..)]
 obtain⟨hz,ez⟩:=JR (r.set (B+1) (some (.cells false [aB n,vO,vR,Z,.sl J 0 w (.kn w),vM])))
 rw[ez]
 have g:hz.next=r.next:=by rw[←ez];rfl
 have oz: ∀q,q≠B+1->hz.get q=r.get q:=λq hq=>by rw[←ez];exact H.aI _ hq _
 have x3:Fx (λq=>q<A.next) h3 hz:=⟨om,λq l A=>by rw[oz q om,U q om om,a1.get q om,b8.get q l]⟩
 have g:=b8.next
 refine⟨vO,vR,K,_,rfl,rfl,ik,⟨Z,J,kst M K ks w w,vM,by rw[lK],om,om,by rw[oz J om];exact gT,?_,?_,?_⟩,?_⟩
 ·exact (kst_done pK hw al).mono λa r k=>⟨k.ord,k.size,PV.go k.rep x3 λq g g=>(show q<A.next from om)⟩
 ·exact PVs.sp' (c5.keep x3.next λid off n' cp e l=>x3.get id l (by have:=(c5.in _ _ _ _ e).2.1;omega)).sv (j8.fx x3)
 ·exact (oM.keep om λid off n' cp e l=>oz id (by have:=(oM.in _ _ _ _ e).2.1;omega)).sv
 ·refine⟨om,λq hq=>?_⟩
  rw[oz q om,U q om om,a1.get q om,b8.get q om]
  exact (F2.trans f3).get q om
end
section
variable {n:Nat} {G:List Nat->Prop} {L:LN} {W:Nat->Prop} {a:Cls.KE}
theorem KFd.go {b:Nat->Prop}{h h':H}{r:Nat}(k:KFd n G L W h a r)(f:Fx W h h')(c: ∀id,id<h.next->b id->W id):KFd n G L b h' a r:=⟨k.ord,k.size,PV.go k.rep f c⟩
theorem KFd.fr {h h':H}{r:Nat}(k:KFd n G L W h a r)(f:Fr h h'):KFd n G L W h' a r:=⟨k.ord,k.size,k.rep.si.mono f,k.rep.off⟩
theorem RdO.open {K:List Nat}{b:Nat}{d f:V}{hh:H}{v:V}(r:RdO n G L K b d f hh v):
  ∃vL S ks vM,v= .agg [aB n,d,f,vL,.sl S 0 K.length (.kn K.length),vM]/\vL.one=true/\vM.one=true/\b<=S/\S<hh.next/\hh.get S=bW (list3 ks)/\ks.length=K.length/\All2 (KFd n G L (λq=>q<b∨S<=q) hh) ks K/\SP hh vL L/\SI hh vM (zi (numsL G L K)):=by
 obtain⟨vL,S,ks,vM,e,i,k,j,h,c,g⟩:=r.ex
 exact⟨vL,S,ks,vM,e,(SV.dG (show SV hh vL 1 _ from c.choose_spec.1)).2.1,(SV.dG g).2.1,i,k,j,All2.length h,h,c,g⟩
theorem list3_rep {ks:List Cls.KE}{i:Nat}(hi:i<ks.length)(b:a.ord=ks[i].ord)(h2:a.size=ks[i].size):(list3 ks).set (i*3) a.rep=list3 (ks.set i a):=by
 induction ks generalizing i with
 |nil=>simp at hi
 |cons c r ih=>
  cases i with
  |zero=>
   have b:a.ord=c.ord:=b;have h2:a.size=c.size:=h2;rw[List.set_cons_zero,list3_cons,list3_cons];unfold enc3;rw[b,h2];rfl
  |succ i=>
   have:=ih (i:=i) (by simpa using hi) (by simpa using b) (by simpa using h2);rw[List.set_cons_succ,list3_cons,list3_cons,←this,show (i+1)*3=(enc3 c).length+i*3 from by show (i+1)*3=3+i*3;omega,List.set_append_right _ _ om,Nat.add_sub_cancel_left]
theorem rclist_bad (p:V)(d:Int)(O:List (List Int))(R:List (List (List Int)))(h:H)(r:ChI h p d O R)(z:d<=7∨64<d)(A:SmallO O)(sr:SmallR R)(hb:chkE d O R≠0):
  Ev T 73 [p] h (λv h'=>v= .tup [.aD,aB (chkE d O R)]/\Fr h h'):=by
 have o:=r
 obtain⟨m,l,rfl,Z,B⟩:=r
 refine bH c_ref15_List rfl rfl ?_
 have j:m.one=true:=rL Z
 have k:l.one=true:=qZ B
 obtain⟨B,q⟩:=JR h.next
 obtain⟨h1,Y,B,Q,B,s⟩:=dN q [aB d,m,l]
 have J:=bD h (v:= aB d) (u:=m) (w:=l) rfl j k
 simp(disch:=omega)only[go_sem,c_ref15_List,aF,J,q,Y,aS Q]
 refine (rread_bad _ d O R h1 (o.mono s) z A sr hb).mono ?_
 rintro _ h2 ⟨rfl,m⟩
 obtain⟨P,j⟩:=JR h2.next
 obtain⟨k,l,o,K,o,q⟩:=dN j [aB 0,.aD,.aD,.aD,.aD,.aD]
 obtain⟨y,N,q,U,B⟩:=mS k P [aB 0,.aD,.aD,.aD,.aD,.aD]
 have F:Fr h y:=(s.trans m).trans ⟨om,λq m=>by rw[B q om,o q om]⟩
 simp(disch:=omega)only[go_sem,j,l,stV_six k P (a:= aB 0) (b:= .aD) (c:= .aD) (d:= .aD) (e:= .aD) (f:= .aD) rfl rfl rfl rfl rfl rfl,K,putO_six,N]
 refine aH (λt i x=>(∃g:Nat->V,i= [g 0,g 1,g 2,g 3,.ptr P 0,aB (chkE d O R),aB 0,g 7])/\x=y/\t=0) 0 ⟨aA rfl,rfl,rfl⟩ ?_
 rintro t i x ⟨⟨g,rfl⟩,rfl,rfl⟩
 simp(disch:=omega)only[go_sem,H.aG U,show decide ((0:Int)<0)=false from rfl]
 exact F
theorem rclist_ok (vc:V)(n:Nat)(O:LN)(R:jL)(G:List Nat->Prop)(h:H)(Q:GC W h vc n O R G)(L:LN)(hL:cF O R n 0 (cH n)=L):
  Ev T 73 [vc] h (λv h'=> ∃vl K ks,v= .tup [vl,aB 0]/\IsK n G L K/\SV h' vl 3 (list3 ks)/\All2 (KFd n G L (λ_=>False) h') ks K/\Fr h h'):=by
 have a9:=Q
 obtain⟨J,N,rfl,sO,B⟩:=Q.ch
 refine bH c_ref15_List rfl rfl ?_
 have r:J.one=true:=rL sO
 have z:N.one=true:=qZ B
 have B:=Q.n7
 have hG:=Q.grp
 obtain⟨E,B⟩:=eE Q.grp Q.isc
 have b3:=szF_fact Q
 rw[hL] at E B
 obtain⟨B,hB⟩:=JR h.next
 obtain⟨Z,e1,B,g1,B,f1⟩:=dN hB [aB n,J,N]
 have bx:=bD h (v:= aB n) (u:=J) (w:=N) rfl r z
 simp(disch:=omega)only[go_sem,c_ref15_List,aF,bx,hB,e1,aS g1]
 refine (rread_ok _ n O R G Z (a9.mono f1) L hL).mono ?_
 rintro _ s ⟨B,B,K,B,ee,rfl,ik,rd,f2⟩
 cases ee
 obtain⟨vL,S,ks,vM,rfl,a5,a2,B,nS,Y,l,U,B,B⟩:=rd.open
 obtain⟨P,hP⟩:=JR s.next
 obtain⟨B,e3,n3,g3,o3,f3⟩:=dN hP [aB 0,.aD,.aD,.aD,.aD,.aD]
 obtain⟨h4,e4,n4,g4,o4⟩:=mS B P [aB n,J,N,vL,.sl S 0 K.length (.kn K.length),vM]
 have o:Fr s h4:=⟨om,λq hq=>by rw[o4 q om,o3 q om]⟩
 simp(disch:=omega)only[go_sem,hP,e3,stV_six B P (a:= aB n) (b:=J) (c:=N) (d:=vL) (e:= .sl S 0 K.length (.kn K.length)) (f:=vM) rfl r z a5 rfl a2,g3,putO_six,e4]
 have z:K.length<=5040:=by
  rw[ik.perm.length_eq];unfold repsC;exact jK (List.length_filter_le _ _) (by rw[zU];omega)
 have a6: ∀r∈K,r<L.length:=λr r=>(repsC_mem.1 (ik.perm.mem_iff.1 r)).1
 obtain⟨w,hw⟩:=JR K.length
 rw[hw] at l z
 refine aH (λk' y m=> ∃(i:Nat) (ks:List Cls.KE),(∃g:Nat->V,y= [g 0,g 1,g 2,g 3,.ptr P 0,aB 0,aB i,g 7])/\i<=w/\ks.length=w/\m.get S=bW (list3 ks)/\All2 (KFd n G L (· =S) m) ks K/\Fx (· =S) h4 m/\k'=w-i) w
  ⟨0,ks,aA rfl,fF _,l,by rw[o.get _ nS];exact Y,U.mono λ_ _ k=>KFd.fr (KFd.go k (Fx.refl _ _) (λq _ e=> .inr (by have:q=S:=e;omega))) o,Fx.refl _ _,rfl⟩ ?_
 clear l U Y
 rintro k' y m ⟨i,ks,⟨g,rfl⟩,hi,l,Y,U,F,rfl⟩
 have g:=F.next
 have gP:m.get P=bW [aB n,J,N,vL,.sl S 0 K.length (.kn K.length),vM]:=by rw[F.get P om (λe=>by have:P=S:=e;omega)];exact g4
 rw[hw] at gP
 by_cases a1:(i:Int)<(w:Int)
 case neg=>
  have d1:=bJ a1;simp(disch:=omega)only[go_sem,H.aG gP,d1]
  refine⟨_,K,ks,rfl,ik,SV.all (by rw[list3_len,l]) om Y _,U.mono λ_ _ k=>KFd.go k (Fx.refl _ _) (λq _ e=>e.elim),⟨by have:=o.next;have:=f2.next;omega,λq hq=>by
   have g:=f2.next;have g:=o.next
   rw[F.get q om (λe=>by have:q=S:=e;omega),o.get q om,f2.get q om];exact f1.get q om⟩⟩
 have d1:=bM a1
 have g:i<w:=om
 have k1:=All2.get U i om om
 obtain⟨g,_,_⟩:=list3_at (ks:=ks) (i:=i) om
 have r:m.cell S (i*3)=some (ks[i]'om).rep:=by rw[H.aG Y];exact g
 obtain⟨a,ha⟩:=JR (ks[i]'(show i<ks.length by omega))
 rw[ha] at k1 r
 have o:K[i]'om<L.length:=a6 _ (xR _)
 have g:Fr m (H.mk m.tr (m.next+13)):=(Fr.refl m).bN om
 have y:P≠S:=om
 simp(disch:=omega)only[go_sem,H.aG gP,d1,r]
 refine (own_ok a.rep (zi (L.getD (K[i]'om) [])) _ (k1.rep.si.mono g) (by rw[aQ,(el_isP hG E o).len];omega)).mono ?_
 rintro v1 A ⟨t,o,_⟩
 have k5:=g.trans o
 have g:=k5.next
 have b2:A.get S=bW (list3 ks):=by rw[k5.get S om];exact Y
 have a7:A.get P=bW [aB n,J,N,vL,.sl S 0 w (.kn w),vM]:=by rw[k5.get P om];exact gP
 have p:=SV.dG t.sv
 obtain⟨x,a3,a4,a0⟩: ∃x:Cls.KE,x.rep=v1/\x.ord=a.ord/\x.size=a.size:=⟨⟨v1,a.ord,a.size,.aD,0,⟨p.1,p.2.1,SV.dJ t.sv⟩,⟨rfl,rfl,rfl⟩⟩,rfl,rfl,rfl⟩
 have o:=bF (vs:=list3 ks) (off:=i*3) (by rw[list3_len];omega)
 have g:=list3_rep (ks:=ks) (i:=i) om (a:=x) (by rw[a4,ha]) (by rw[a0,ha])
 rw[a3] at g
 simp(disch:=omega)only[go_sem,H.aG a7,fU p.1 p.2.1,b2,o,g]
 rw[dY i]
 refine⟨by simp [dJ],w-(i+1),om,i+1,ks.set i x,aA rfl,om,by rw[List.length_set];exact l,rfl,?_,⟨(show h4.next<=A.next by omega),λq Z s=>by rw[H.aI _ s,k5.get q om];exact F.get q Z s⟩,rfl⟩
 have g:Fx (· =S) m (A.set S (bW (list3 (ks.set i x)))):=⟨(show m.next<=A.next by omega),λq Z s=>by rw[H.aI _ s];exact k5.get q Z⟩
 have a8:All2 (KFd n G L (· =S) (A.set S (bW (list3 (ks.set i x))))) ks K:=U.mono λ_ _ k=>KFd.go k g λ_ _ e=>e
 have g:=All2.length U
 refine All2.iC (by rw[List.length_set];exact g) λj hj b1=>?_
 rw[List.getElem_set]
 by_cases e:i=j
 ·rw[aV e]
  subst e
  refine⟨by rw[a4,k1.ord],by rw[a0,k1.size],?_⟩
  rw[a3]
  have p5:PV (· =S) A v1 (L.getD (K[i]'om) []):=⟨t.sv,by
   have b0:=t.in
   cases v1 with
   |sl id off len cap=>exact λe=>by have:=(b0 _ _ _ _ rfl).2.1;have:m.next+13<=id:=this;have e:id=S:=e;omega
   |_=>trivial⟩
  exact p5.fx ⟨eS _,λq Z s=>H.aI _ s _⟩
 ·rw[aZ e]
  exact All2.get a8 j (by rw[List.length_set] at hj;exact hj) b1
end
set_option maxHeartbeats 8000000
theorem rmap_ok {W:Nat->Prop}(A:V)(n:Nat)(O:LN)(R:jL)(G:List Nat->Prop)(h:H)(g:GC W h A n O R G)(L:LN)(F:cF O R n 0 (cH n)=L):
  Ev T 75 [A] h (λv h'=> ∃vl K,v= .tup [vl,aB 0]/\IsK n G L K/\SI h' vl (zi (numsL G L K))/\Fr h h'):=by
 have q:=g
 obtain⟨l,m,rfl,Q,J⟩:=g.ch
 refine bH c_ref15_Map rfl rfl ?_
 have i:l.one=true:=rL Q
 have j:m.one=true:=qZ J
 have J:=g.n7
 have J:=g.n0
 have J:=g.grp
 obtain⟨E,J⟩:=eE g.grp g.isc
 have Q:=szF_fact g
 rw[F] at E J
 obtain⟨B,t⟩:=JR h.next
 obtain⟨h1,P,J,x,J,y⟩:=dN t [aB n,l,m]
 have U:=bD h (v:= aB n) (u:=l) (w:=m) rfl i j
 simp(disch:=omega)only[go_sem,c_ref15_Map,aF,U,t,P,aS x]
 refine (rread_ok _ n O R G h1 (q.mono y) L F).mono ?_
 rintro _ z ⟨q,q,K,q,ee,rfl,ik,rd,s⟩
 cases ee
 obtain⟨N,S,q,r,rfl,p,o,q,q,q,q,q,q,sM⟩:=rd.open
 obtain⟨P,J⟩:=JR z.next
 obtain⟨t,U,q,Y,o3,q⟩:=dN J [aB 0,.aD,.aD,.aD,.aD,.aD]
 obtain⟨Q,Z,q,g4,o4⟩:=mS t P [aB n,l,m,N,.sl S 0 K.length (.kn K.length),r]
 have k:Fr z Q:=⟨om,λq z=>by rw[o4 q om,o3 q om]⟩
 have F4:=(y.trans s).trans k
 have q:Q.get B=bW [aB n,l,m]:=by rw[k.get _ (by have:=s.next;omega),s.get _ om];exact x
 simp(disch:=omega)only[go_sem,J,U,stV_six t P (a:= aB n) (b:=l) (c:=m) (d:=N) (e:= .sl S 0 K.length (.kn K.length)) (f:=r) rfl i j p rfl o,Y,putO_six,Z]
 simp(disch:=omega)only[go_sem,H.aG g4]
 exact⟨r,K,rfl,ik,sM.mono k,F4⟩
section
variable {n q:Nat} {G:List Nat->Prop} {L:LN} {K:List Nat} {h h':H} {vL vC vM v:V} {us:List V}
set_option maxHeartbeats 16000000
structure RgO (n:Nat)(G:List Nat->Prop)(L:LN)(K:List Nat)(hh:H)(vL vC vM:V):Prop where
 sL:SP hh vL L
 sM:SI hh vM (zi (numsL G L K))
 ex: ∃ks,SV hh vC 3 (list3 ks)/\All2 (KS n G L hh) ks K
theorem RgO.fr (r:RgO n G L K h vL vC vM)(f:Fr h h'):RgO n G L K h' vL vC vM:=by
 obtain⟨b,s,a⟩:=r.ex;exact⟨r.sL.mono f,r.sM.mono f,b,s.mono f,a.mono λ_ _ k=>⟨k.ord,k.size,k.rep.mono f⟩⟩
theorem RgO.one (r:RgO n G L K h vL vC vM):vL.one=true/\vC.one=true/\vM.one=true:=by
 obtain⟨a,s,a⟩:=r.ex;exact⟨(SV.dG (show SV h vL 1 _ from r.sL.choose_spec.1)).2.1,(SV.dG s).2.1,(SV.dG r.sM).2.1⟩
theorem RgO.cls (r:RgO n G L K h vL vC vM)(b:K.length<1000000):
  dA vC=some (aB (K.length:Int))/\dJ vC vC=true/\ ∃id off,Sl vC 3 K.length id off/\ ∀k,k<K.length->id<h.next/\ ∃rep,h.cell id (off+k*3)=some rep/\h.cell id (off+k*3+2)=some (aB ((orbC G L (K.getD k 0)).length:Int))/\h.row id (off+k*3) 3=some [rep,aB (iH (L.getD (K.getD k 0) []) n:Int),aB ((orbC G L (K.getD k 0)).length:Int)]/\SI h rep (zi (L.getD (K.getD k 0) [])):=by
 obtain⟨a,s,a⟩:=r.ex
 exact cls_openS b s a
theorem SV.keep {sz:Nat}{ws:List V}(s:SV h v sz ws)(g:h.get q=bW us)(a: ∃w∈ws,w∉us)(f:Fx (· =q) h h'):SV h' v sz ws:=by
 rcases s with s|⟨id,b,len,c,l,p,m,r,i,d,k,j⟩
 ·exact .inl s
 ·by_cases e:id=q
  ·subst e
   rw[g] at d;cases d;obtain⟨w,a,o⟩:=a;rw[←j] at a;exact absurd (List.mem_of_mem_drop (List.mem_of_mem_take a)) o
  ·exact .inr ⟨id,b,len,c,l,p,m,r,iP i f.next,by rw[f.get id i e];exact d,k,j⟩
theorem SI.keep {l:List Int}(s:SI h v l)(b:l≠ [])(g:h.get q=bW us)(c: ∀z,aB z∉us)(f:Fx (· =q) h h'):SI h' v l:=by
 refine SV.keep s g ?_ f
 cases l with
 |nil=>exact absurd rfl b
 |cons a r=>exact⟨aB a,by simp [ints],c a⟩
theorem zi_ne {x:List Nat}(X:bV n x)(a:1<=n):zi x≠ []:=λe=>by
 have:=congrArg List.length e;rw[aQ,X.len] at this;simp at this;omega
theorem RgO.keep (u:mH n G)(E:eP G L)(p:IsK n G L K)(t:1<=n)(r:RgO n G L K h vL vC vM)(g:h.get q=bW us)(l: ∀z,aB z∉us)(x: ∀id off m c,V.sl id off m c∉us)(f:Fx (· =q) h h'):RgO n G L K h' vL vC vM:=by
 have K0:=(K_first u E p).1;have o:0<L.length:=by have:=p.lt (getD_mem (d:=0) K0);omega
 have ne: ∀i,i<L.length->zi (L.getD i [])≠ []:=λi hi=>zi_ne (el_isP u E hi) t
 refine⟨?_,SI.keep r.sM (by intro e;have:=congrArg List.length e;rw[aQ] at this;simp [numsL] at this;rw[this] at o;exact absurd o (by decide)) g l f,?_⟩
 ·obtain⟨o,sv,j⟩:=r.sL
  have k:=All2.length j;rw[iR] at k
  have ge: ∀i (hi:i<o.length) (b:i<(L.map zi).length),(L.map zi)[i]≠ []:=λi hi b=>by
   rw[List.getElem_map];have:=ne i om;rwa [zB,eV (show i<L.length by omega)] at this
  refine⟨o,SV.keep (show SV h vL 1 o from sv) g ⟨o[0]'om,xR _,?_⟩ f,All2.iC (All2.length j) λi hi b=>SI.keep (All2.get j i hi b) (ge i hi b) g l f⟩;have o:=All2.get j 0 om (by rw[iR];omega);have t:=ge 0 om (by rw[iR];omega);rcases o with ⟨_,e⟩|⟨id,off,len,o,o,o,e,_⟩
  ·exact absurd (by simpa [ints] using e) t
  ·rw[e];exact x _ _ _ _
 ·obtain⟨w,s,j⟩:=r.ex
  have k:=All2.length j;refine⟨w,SV.keep s g ?_ f,All2.iC k λi hi b=>?_⟩
  ·cases w with
   |nil=>simp at k;omega
   |cons a r=>exact⟨aB a.ord,by simp [list3_cons,enc3],l _⟩
  ·have k:=All2.get j i hi b
   have e:K[i]=K.getD i 0:=(Pm.bT b).symm;exact⟨k.ord,k.size,SI.keep k.rep (by rw[e];exact ne _ (p.lt (getD_mem b))) g l f⟩
theorem bld_rg (a:v.cells= [v])(b:v.one=true):kY [.aD,.aD,.aD] [(1,1,v)]=some (.agg [.aD,v,.aD]):=by
 simp [kY,gI,putAt,a,b]
theorem put3 {a b c:V}(hh:H)(id i:Nat)(y:V)(hi:i<3):dQ (bW [a,b,c]) hh id i [y]=some (hh.set id (bW ([a,b,c].set i y))):=bF hi hh id y
theorem rof27_bad (k:V)(d:Int)(O:List (List Int))(R:List (List (List Int)))(h:H)(o:ChI h k d O R)(s:d<=7∨64<d)(t:SmallO O)(sr:SmallR R)(p:chkE d O R≠0):
  Ev T 43 [k] h (λv h'=>v= .tup [.agg [.aD,.aD,.aD],aB (chkE d O R)]/\Fr h h'):=by
 have i:=o
 obtain⟨e,c,rfl,Z,A⟩:=o
 refine bH c_ref27_Of rfl rfl ?_
 have a:e.one=true:=rL Z
 have b:c.one=true:=qZ A
 obtain⟨B,m⟩:=JR h.next
 obtain⟨A,Y,j,Q,P,U⟩:=dN m [aB d,e,c]
 obtain⟨r,J,A,z,l,y⟩:=dN j [.aD,.aD,.aD]
 have x:=bD h (v:= aB d) (u:=e) (w:=c) rfl a b
 have a:r.get B=bW [aB d,e,c]:=by rw[l B om];exact Q
 simp(disch:=omega)only[go_sem,c_ref27_Of,aF,x,m,Y,j,J,aS a]
 refine (rclist_bad _ d O R r (i.mono (U.trans y)) s t sr p).mono ?_
 rintro _ g ⟨rfl,f⟩
 have a:=bM p
 have F:g.get (B+1)=bW [.aD,.aD,.aD]:=by rw[f.get _ om];exact z
 obtain⟨b,N,b,W,o4⟩:=mS g (B+1) [.aD,.aD,.aD]
 have b:=f.next
 simp(disch:=omega)only[go_sem,a,Bm,dK g (B+1) 0 (v:= .aD) (u:= .aD) (w:= .aD) rfl rfl rfl,F,cW,N,aS W]
 exact⟨om,λq a=>by rw[o4 q om,f.get q om,l q om,P q om]⟩
theorem rof27_ok {W0:Nat->Prop}(vc:V)(n:Nat)(O:LN)(R:jL)(G:List Nat->Prop)(h:H)(gc:GC W0 h vc n O R G)(L:LN)(hL:cF O R n 0 (cH n)=L):
  Ev T 43 [vc] h (λv h'=> ∃K,IsK n G L K/\Fr h h'/\(64<K.length/\v= .tup [.agg [.aD,.aD,.aD],aB 5]∨K.length<=64/\ ∃vL vC vM,v= .tup [.agg [vL,vC,vM],aB 0]/\RgO n G L K h' vL vC vM)):=by
 have a:=gc
 obtain⟨r,y,rfl,sO,sR⟩:=gc.ch
 refine bH c_ref27_Of rfl rfl ?_
 have a1:r.one=true:=rL sO
 have a2:y.one=true:=qZ sR
 obtain⟨B,hB⟩:=JR h.next
 obtain⟨h1,e1,n1,g1,o1,f1⟩:=dN hB [aB n,r,y]
 obtain⟨s,e2,n2,g2,o2,f2⟩:=dN n1 [.aD,.aD,.aD]
 have bx:=bD h (v:= aB n) (u:=r) (w:=y) rfl a1 a2
 have o:s.get B=bW [aB n,r,y]:=by rw[o2 B om];exact g1
 have F2:=f1.trans f2
 simp(disch:=omega)only[go_sem,c_ref27_Of,aF,bx,hB,e1,n1,e2,aS o]
 refine (rclist_ok _ n O R G s (a.mono F2) L hL).mono ?_
 rintro _ g ⟨vC,K,ks,rfl,l,sC,aC,x⟩
 have a1:=x.next
 have g3:g.get (B+1)=bW [.aD,.aD,.aD]:=by rw[x.get _ om];exact g2
 have a0:All2 (KS n G L g) ks K:=aC.mono λ_ _ k=>⟨k.ord,k.size,k.rep.si⟩
 have hG:=a.grp
 obtain⟨E,ll⟩:=eE a.grp a.isc
 have a1:=szF_fact a
 rw[hL] at E ll
 have a1:K.length<=5040:=by
  rw[l.perm.length_eq];unfold repsC;exact jK (List.length_filter_le _ _) (by rw[zU];omega)
 have lC:=(cls_openS om sC a0).1
 by_cases hk:(64:Int)<(K.length:Int)
 ·have d1:=bM hk
  obtain⟨h4,e4,n4,g4,o4⟩:=mS g (B+1) [.aD,.aD,.aD]
  simp(disch:=omega)only[go_sem,show decide ((0:Int)≠0)=false from rfl,lC,d1,Bm,dK g (B+1) 0 (v:= .aD) (u:= .aD) (w:= .aD) rfl rfl rfl,g3,cW,e4,aS g4]
  exact⟨K,l,⟨om,λq b=>by rw[o4 q om,x.get q om,o2 q om,o1 q om]⟩,.inl ⟨om,trivial⟩⟩
 have d1:=bJ hk
 have wC:=SV.dG sC
 obtain⟨P,hP⟩:=JR g.next
 obtain⟨h4,e4,n4,g4,o4,f4⟩:=dN hP [.aD,.aD,.aD]
 obtain⟨J,e5,n5,g5,o5⟩:=mS h4 P [.aD,vC,.aD]
 have W:Fr g J:=⟨om,λq b=>by rw[o5 q om,o4 q om]⟩
 have F5:Fr s J:=x.trans W
 have a4:J.get B=bW [aB n,r,y]:=by rw[F5.get _ om];exact o
 simp(disch:=omega)only[go_sem,show decide ((0:Int)≠0)=false from rfl,lC,d1,hP,e4,bld_rg wC.1 wC.2.1,dK h4 P 0 (v:= .aD) (u:=vC) (w:= .aD) rfl wC.2.1 rfl,g4,cW,e5,aS a4]
 refine (rlist_ok _ n O R G J (a.mono (F2.trans F5)) L hL).mono ?_
 rintro _ t ⟨vL,wl,rfl,j,pv,f6⟩
 have a1:=f6.next
 have sL:SP t vL L:=PVs.sp' j.sv pv
 have wL:=SV.dG (show SV t vL 1 _ from j.sv)
 have g6:t.get P=bW [.aD,vC,.aD]:=by rw[f6.get _ om];exact g5
 obtain⟨U,e7,n7,g7,o7⟩:=mS t P [vL,vC,.aD]
 have p7:dQ (bW [.aD,vC,.aD]) t P 0 [vL]=some U:=by rw[put3 _ _ _ _ om,←e7];rfl
 have i:Fr g U:=⟨om,λq b=>by rw[o7 q om,f6.get q om];exact W.get q b⟩
 have F7:Fr s U:=x.trans i
 have W:U.get B=bW [aB n,r,y]:=by rw[F7.get _ om];exact o
 simp(disch:=omega)only[go_sem,fU wL.1 wL.2.1,g6,p7,aS W]
 refine (rmap_ok _ n O R G U (a.mono (F2.trans F7)) L hL).mono ?_
 rintro _ h8 ⟨vM,o,rfl,a3,sM,F⟩
 obtain rfl:=l.uniq a3
 have o:=F.next
 have wM:=SV.dG sM
 have g8:h8.get P=bW [vL,vC,.aD]:=by rw[F.get _ om];exact g7
 obtain⟨f,o,r,g9,A⟩:=mS h8 P [vL,vC,vM]
 have p9:dQ (bW [vL,vC,.aD]) h8 P 2 [vM]=some f:=by rw[put3 _ _ _ _ om,←o];rfl
 have N:f.get (B+1)=bW [.aD,.aD,.aD]:=by rw[A _ om,F.get _ om,i.get _ om];exact g3
 obtain⟨o,r,y,y,p⟩:=mS f (B+1) [vL,vC,vM]
 have U:=aS g9
 simp(disch:=omega)only[go_sem,fU wM.1 wM.2.1,g8,p9,U,dK f (B+1) 0 (v:=vL) (u:=vC) (w:=vM) wL.2.1 wC.2.1 wM.2.1,N,cW,r,aS y]
 have y: ∀q,q<P->q≠B+1->o.get q=g.get q:=λq b r=>by rw[p q r,A q om,F.get q om];exact i.get q om
 have r: ∀q,q≠P->q≠B+1->o.get q=h8.get q:=λq h1 s=>by rw[p q s,A q h1]
 refine⟨K,l,⟨om,λq b=>by rw[y q om om,x.get q om,o2 q om,o1 q om]⟩,.inr ⟨om,vL,vC,vM,rfl,?_⟩⟩
 have Z: ∀w∈ [vL,vC,V.aD],∀z,w≠ aB z:=λw Y z e=>by
  subst e;rcases Dw.1 Y with e|Y
  ·rw[←e] at wL;have:=sL.lens;rw[←e] at this;cases this
  rcases Dw.1 Y with e|Y
  ·rw[←e] at lC;cases lC
  ·simp at Y
 have s8:SI f vM (zi (numsL G L K)):=SI.keep sM (by intro e;have:=congrArg List.length e;rw[aQ] at this;have K0:=(K_first hG E l).1;have o:=l.lt (getD_mem (d:=0) K0);simp [numsL] at this;rw[this] at o;exact absurd o (Nat.not_lt_zero _)) g8 (λz Q=>Z _ Q z rfl) ⟨om,λq _ b=>A q b⟩
 have l9:SP f vL L:=by
  have fx:Fx (λq=>q<J.next) t f:=⟨om,λq b o=>by rw[A q (by show q≠P;omega),F.get q om,o7 q om]⟩
  refine PVs.sp' (SV.fx j.sv ?_ fx) (pv.mono λ_ _ x=>x.fx fx)
  cases vL with
  |sl id off m c=>exact λe=>by have:=(j.in _ _ _ _ rfl).2.1;omega
  |_=>trivial
 have e:Fr g f:=⟨om,λq b=>by rw[A q om,F.get q om];exact i.get q b⟩
 have g:RgO n G L K f vL vC vM:=⟨l9,s8,ks,sC.mono e,a0.mono λ_ _ k=>⟨k.ord,k.size,k.rep.mono e⟩⟩
 exact g.keep hG E l a.n0 N (λz Q=>by simp at Q) (λ_ _ _ _ Q=>by simp at Q) ⟨om,λq _ b=>p q b⟩
theorem rclass_ok (vL vC vM u:V)(n:Nat)(G:List Nat->Prop)(L:LN)(K:List Nat)(x:List Nat)(h:H)(A:n<=7)(l:mH n G)(E:eP G L)(z:L.length<=5040)(d:RgO n G L K h vL vC vM)(X:G x)(t:SI h u (zi x)):
  Ev T 81 [.agg [vL,vC,vM],u] h (λv h'=>v= aB (numC G L K (L.idxOf x):Nat)/\Fr h h'):=by
 refine bH c_ref27_Group_Class rfl rfl ?_
 obtain⟨y,s,f⟩:=d.one
 obtain⟨B,a⟩:=JR h.next
 obtain⟨c,p,g,k,g,e⟩:=dN a [vL,vC,vM]
 have g:=bD h (v:=vL) (u:=vC) (w:=vM) y s f
 obtain⟨f,f,i,o⟩:=zi_cell (hh:=h) (b:=L.length) d.sM (by simp [numsL])
 have r:=SV.dJ (show SV h vM 1 _ from d.sM)
 simp(disch:=omega)only[go_sem,c_ref27_Group_Class,aF,g,a,p,H.aG k]
 have a:Fr c (H.mk c.tr (c.next+9)):=(Fr.refl c).bN om
 refine (index_ok vL u n L x _ om om (λg f=>l.isP ((E.mem g).1 f)) (l.isP X) E.asc ((d.sL.mono e).mono a) ((t.mono e).mono a)).mono ?_
 rintro _ m ⟨f,g⟩
 have F2:=a.trans g
 rcases f with ⟨j,rfl,a,p⟩|⟨f,_⟩
 case inr=>exact absurd ((E.mem _).2 X) f
 have f:m.get B=bW [vL,vC,vM]:=by rw[F2.get B om];exact k
 have cj:=o m (e.trans F2) j a
 have g:L.idxOf x=j:=by
  have c:=idx_el E X;exact nd_inj E.nodup c.1 a (c.2.trans p.symm)
 have c:(numsL G L K).getD j 0=numC G L K j:=by simp [numsL,a]
 rw[c] at cj
 simp(disch:=omega)only[go_sem,H.aG f,i.ixa,cj,r]
 exact⟨by rw[g],e.trans F2⟩
end
structure CsR (G:List Nat->Prop)(L:LN)(K:List Nat)(i b:Nat)(hh:H)(v:V):Prop where
 ex: ∃ρ:Nat->Nat,SV hh v 1 (rc K.length λj=> .sl (ρ j) 0 K.length (.kn K.length))/\(∀id off m c,v= .sl id off m c->b<=id)/\ ∀j,j<K.length->b<=ρ j/\ρ j<hh.next/\hh.get (ρ j)=some (.cells false (rc K.length λk=> aB (cstK G L K i j k:Nat)))
theorem CsR.sr {G:List Nat->Prop}{L:LN}{K:List Nat}{i b:Nat}{hh:H}{v:V}(c:CsR G L K i b hh v):SR hh v (cstM G L K i):=by
 obtain⟨ρ,s,_,d⟩:=c.ex;refine⟨_,s,All2.iC (by simp [cstM,rc]) λa e f=>?_⟩;have h:a<K.length:=by simpa [rc] using e
 simp only[cstM,rc,List.getElem_map,List.getElem_range];obtain⟨_,g,f⟩:=d a h
 have e:(rc K.length λk=>aB (cstK G L K i a k:Nat))=ints (zi ((List.range K.length).map (cstK G L K i a))):=by
  simp [rc,ints,zi,Function.comp_def]
 rw[e] at f;exact SV.all (by rw[aL,aQ,iR,zU,kF]) g f _
structure RwJ (b r j:Nat)(hh:H)(v:V)(ρ:Nat->Nat):Prop where
 ow:Own hh v 1 (rc j λa=> .sl (ρ a) 0 r (.kn r)) b
 rows: ∀a,a<j->b<=ρ a/\ρ a<hh.next/\hh.get (ρ a)=some (.cells false (rc r λ_=> aB 0))/\dH v (ρ a)
 inj: ∀a c,a<j->c<j->ρ a=ρ c->a=c
set_option maxHeartbeats 64000000
theorem rconsts_ok (vL vC vM:V)(i:Nat)(n:Nat)(G:List Nat->Prop)(L:LN)(K:List Nat)(h:H)(n7:n<=7)(hG:mH n G)(E:eP G L)(ik:IsK n G L K)(hl:L.length<=5040)(hr:K.length<=64)(rg:RgO n G L K h vL vC vM):
  Ev T 48 [.agg [vL,vC,vM],aB i] h (λv h'=>CsR G L K i h.next h' v/\Fr h h'):=by
 refine bH c_ref27_Group_Constants rfl rfl ?_
 obtain⟨oL,oC,oM⟩:=rg.one
 obtain⟨B,hB⟩:=JR h.next
 obtain⟨Q,e1,n1,g1,o1,f1⟩:=dN hB [vL,vC,vM]
 have bx:=bD h (v:=vL) (u:=vC) (w:=vM) oL oC oM
 obtain⟨b4,eC,c8,b1,a5,cC⟩:=rg.cls om
 obtain⟨a9,eL,c7,c3,ws,b3,cL⟩:=sp_open rg.sL
 obtain⟨d0,d0,a4,cM⟩:=zi_cell (hh:=h) (b:=L.length) rg.sM (by simp [numsL])
 have eM:=SV.dJ (show SV h vM 1 _ from rg.sM)
 obtain⟨r,P⟩:=JR K.length
 obtain⟨m0,c4⟩: ∃m,L.length=m:=⟨_,rfl⟩
 have K0:0<r:=by rw[←P];exact (K_first hG E ik).1
 rw[P] at b4 a5 cC hr
 rw[c4] at a9 b3 cL hl a4 cM
 have gB: ∀hh,Fr Q hh->hh.get B=some (.cells false [vL,vC,vM]):=λhh f=>by rw[f.get B om];exact g1
 simp(disch:=omega)only[go_sem,c_ref27_Group_Constants,aF,bx,hB,e1,H.aG g1,b4]
 refine bX (λvs hh=> ∃y ρ,(∃g:Nat->V,vs= [g 0,aB i,.ptr B 0,g 3,aB r,y,g 6,g 7,g 8,g 9,g 10,g 11,g 12])/\RwJ Q.next r r hh y ρ/\Fr Q hh) ?_ ?_
 ·refine aH (λY d hh=> ∃(j:Nat) (y:V) (ρ:Nat->Nat),(∃g:Nat->V,d= [g 0,aB i,.ptr B 0,g 3,aB r,y,aB j,g 7,g 8,g 9,g 10,g 11,g 12])/\j<=r/\RwJ Q.next r j hh y ρ/\Fr Q hh/\Y=r-j) r
   ⟨0,.aD,λ_=>0,aA rfl,fF _,⟨Own.aD _ _ _,λa h=>om,λa c h=>om⟩,Fr.refl _,rfl⟩ ?_
  rintro Y d hh ⟨j,y,ρ,⟨g,rfl⟩,l,J,F,rfl⟩
  have nF:=F.next
  by_cases O:(j:Int)<(r:Int)
  case neg=>
   have d1:=bJ O;obtain rfl:j=r:=om
   simp(disch:=omega)only[go_sem,d1];exact⟨y,ρ,aA rfl,J,F⟩
  have d1:=bM O
  obtain⟨S,hS⟩:=JR hh.next
  obtain⟨h2,p,n2,g2,o2,f2⟩:=dN hS (rc r λ_=> aB 0)
  obtain⟨h3,a3,b9,f3,n3,o3⟩:=app_one (v:= .sl S 0 r (.kn r)) (J.ow.fr f2) (F.trans f2) (by rw[cK];omega) (bytes:=24) om
  rw[cK] at a3
  simp(disch:=omega)only[go_sem,d1,mks_zeros hh r om,hS,p,cJ _ (z:= .aD) (v:= .sl S 0 r (.kn r)) rfl rfl,a3]
  rw[dY j]
  have F: ∀k,k<Q.next->dH y k:=λk hk c6 off m c e=>by have:=(J.ow.in _ _ _ _ e).2.1;omega
  refine⟨r-(j+1),om,j+1,_,λa=>if a=j then S else ρ a,aA rfl,om,⟨?_,λa A=>?_,λa c A hc e=>?_⟩,f3,rfl⟩
  ·rw[cK] at b9
   have e:(rc (j+1) λa=>V.sl (if a=j then S else ρ a) 0 r (.kn r))=(rc j λa=>V.sl (ρ a) 0 r (.kn r))++ [.sl S 0 r (.kn r)]:=by
    unfold rc;rw[List.range_succ,List.map_append,List.map_cons,List.map_nil,aV rfl];congr 1;exact yZ λa A=>by rw[aZ (by have:=Db.1 A;omega)]
   rw[e];exact b9
  ·show Q.next<=(if a=j then S else ρ a)/\(if a=j then S else ρ a)<h3.next/\h3.get (if a=j then S else ρ a)=_/\dH _ (if a=j then S else ρ a)
   by_cases e:a=j
   ·rw[aV e]
    refine⟨om,om,?_,dH.sl om⟩
    rw[o3 S om λc6 off m c e=>by have:=(J.ow.in _ _ _ _ e).1;omega]
    exact g2
   ·rw[aZ e]
    obtain⟨r1,F,F,r4⟩:=J.rows a om
    exact⟨r1,om,by rw[o3 _ om r4,o2 _ om];exact F,dH.sl om⟩
  ·have ee:(if a=j then S else ρ a)=(if c=j then S else ρ c):=e
   by_cases e1:a=j
   ·by_cases p:c=j
    ·omega
    ·rw[aV e1,aZ p] at ee
     have:=(J.rows c om).2.1
     omega
   ·by_cases p:c=j
    ·rw[aZ e1,aV p] at ee
     have:=(J.rows a om).2.1
     omega
    ·rw[aZ e1,aZ p] at ee
     exact J.inj a c om om ee
 rintro d hX ⟨y,ρ,⟨g,rfl⟩,J,FX⟩
 have F:=FX.next
 obtain⟨W,hW⟩: ∃W:Nat->Prop,W=λq=> ∃j,j<r/\q=ρ j:=⟨_,rfl⟩
 have Wb: ∀q,W q->Q.next<=q/\q<hX.next:=λq U=>by
  rw[hW] at U;obtain⟨j,l,rfl⟩:=U;exact⟨(J.rows j l).1,(J.rows j l).2.1⟩
 have a6: ∀j,j<r->W (ρ j):=λj l=>by rw[hW];exact⟨j,l,rfl⟩
 have F1: ∀hh,Fx W hX hh->Fr Q hh:=λhh f=>⟨by have:=f.next;omega,λq U=>by rw[f.get q om λhw=>by have:=(Wb q hw).1;omega,FX.get q U]⟩
 have b5:Kj W y:=by
  cases y with
  |sl id off m c=>
   intro hw;rw[hW] at hw;obtain⟨j,l,e⟩:=hw;exact (J.rows j l).2.2.2 _ _ _ _ rfl e.symm
  |_=>trivial
 have sX:=J.ow.sv
 have c5:=J.ow.in
 obtain⟨Q,F,b7,b4,b4⟩:=sX.shape r (by rw[cK,kF]) om
 have cQ: ∀hh,Fx W hX hh-> ∀j,j<r->hh.cell Q (F+j)=some (.sl (ρ j) 0 r (.kn r)):=λhh f j l=>by
  obtain⟨F,F,F,_,c2⟩:=(sX.fx b5 f).shape r (by rw[cK,kF]) om;have e1:=b7.ixa .i64 (j:Int) om om;have p:=F.ixa .i64 (j:Int) om om;rw[e1] at p;simp only[Option.some.injEq,V.ptr.injEq,De,kF] at p;obtain⟨F,Q⟩:=p;rw[F,Q,c2 j (by rw[cK];exact l),kA l]
 simp(disch:=omega)only[go_sem]
 refine aH (λY d hh=> ∃(t:Nat),(∃g:Nat->V,d= [g 0,aB i,.ptr B 0,g 3,aB r,y,g 6,aB t,g 8,g 9,g 10,g 11,g 12])/\t<=m0/\(∀j,j<r->hh.get (ρ j)=some (.cells false (rc r λk=> aB (cstA G L K i k t j:Nat))))/\Fx W hX hh/\Y=m0-t) m0
  ⟨0,aA rfl,fF _,λj l=>(J.rows j l).2.2.1,Fx.refl _ _,rfl⟩ ?_
 rintro Y d A ⟨t,⟨g,rfl⟩,F,a2,Fa,rfl⟩
 have F:=Fa.next
 have b0:=F1 A Fa
 by_cases O:(t:Int)<(m0:Int)
 case neg=>
  have d1:=bJ O;obtain rfl:t=m0:=om
  simp(disch:=omega)only[go_sem,H.aG (gB A b0),a9,d1];refine⟨⟨ρ,by rw[P];exact sX.fx b5 Fa,λid off m c e=>by have:=(c5 _ _ _ _ e).2.1;omega,λj l=>?_⟩,f1.trans b0⟩;have:=J.rows j om;refine⟨om,om,?_⟩;rw[a2 j om,P];unfold cstK;rw[c4]
 have d1:=bM O
 have b8:t<m0:=om
 obtain⟨bl,cx,sx⟩:=cL t b8
 have a7:t<L.length:=om
 have X:=el_isP hG E a7
 have GX:=el_mem E a7
 generalize ws.getD t V.undef=vx at cx sx
 simp(disch:=omega)only[go_sem,H.aG (gB A b0),a9,d1]
 refine aH (λY d hh=> ∃(k:Nat),(∃g:Nat->V,d= [g 0,aB i,.ptr B 0,g 3,aB r,y,g 6,aB t,aB k,g 9,g 10,g 11,g 12])/\k<=r/\(∀j,j<r->hh.get (ρ j)=some (.cells false (rc r λa=> aB (cstA G L K i a (if a<k then t+1 else t) j:Nat))))/\Fx W hX hh/\Y=r-k) r
  ⟨0,aA rfl,fF _,λj l=>a2 j l,Fa,rfl⟩ ?_
 rintro Y d N ⟨k,⟨g,rfl⟩,hk,s,Fb,rfl⟩
 have d:=Fb.next
 have o:=F1 N Fb
 by_cases c0:(k:Int)<(r:Int)
 case neg=>
  have d2:=bJ c0;obtain rfl:k=r:=om
  simp(disch:=omega)only[go_sem,d2,fG];rw[dY t];refine⟨m0-(t+1),om,t+1,aA rfl,om,λj l=>?_,Fb,rfl⟩;rw[s j l];congr 2;exact aY λa A=>by rw[aV A]
 have d2:=bM c0
 have a8:k<r:=om
 have a0:=cM N (f1.trans o) t b8
 have d:(numsL G L K).getD t 0=numC G L K t:=by simp [numsL,a7]
 rw[d] at a0
 obtain⟨c,hc⟩:=JR (numC G L K t)
 rw[hc] at a0
 by_cases c9:c=i
 case neg=>
  have d3:decide ((c:Int)=(i:Int))=false:=bJ om;simp(disch:=omega)only[go_sem,d2,H.aG (gB N o),a4.ixa,a0,d3];rw[dY t];refine⟨m0-(t+1),om,t+1,aA rfl,om,λj l=>?_,Fb,rfl⟩;rw[s j l];congr 2;refine aY λa A=>?_
  have e:cstA G L K i a (t+1) j=cstA G L K i a t j:=by rw[cstA_succ,aZ (by rw[hc];exact λx=>c9 x.1)];rfl
  split
  ·rfl
  ·rw[e]
 have d3:decide ((c:Int)=(i:Int))=true:=bM om
 obtain⟨O,y,F,_,c,sr⟩:=cC k a8
 have c:K.getD k 0<L.length:=ik.lt (getD_mem om)
 have Y:=el_isP hG E c
 have B:=el_mem E c
 have d:=f1.trans o
 have m: ∀hh,Fr h hh->hh.cell c7 (c3+t)=some vx:=λhh f=>by rw[f.cell bl];exact cx
 have g: ∀hh,Fr h hh->hh.cell c8 (b1+k*3)=some y:=λhh f=>by rw[f.cell O];exact F
 have c:=sx.dJ
 have f:=sr.dJ
 have c:Fr N (H.mk N.tr (N.next+16)):=(Fr.refl N).bN om
 simp(disch:=omega)only[go_sem,d2,H.aG (gB N o),aS (gB N o),a4.ixa,a0,d3,b3.ixa,m N d,a5.ixa,g N d]
 refine (kinv_ok vx n _ _ om X ((sx.mono d).mono c)).mono ?_
 rintro y h2 m
 have f2:=c.trans m.fr
 have c:=d.trans f2
 have si:SI h2 y (zi (dM (L.getD t []))):=(m.pv (W:=λ_=>False) id).si
 have Q:=X.inv
 simp(disch:=omega)only[go_sem,H.aG (gB h2 (o.trans f2)),aS (gB h2 (o.trans f2)),a5.ixa,g h2 c,eL,eC,eM,f]
 refine (kmul_ok _ _ _ _ h2 (by rw[Q.len];omega) si (sr.mono c) (λq U=>by rw[Y.len];rw[Q.len] at U;exact Q.dZ U)).mono ?_
 rintro c h3 ⟨f,f3,_⟩
 have Z:=f2.trans f3
 simp(disch:=omega)only[go_sem,H.aG (gB h3 (o.trans Z)),aS (gB h3 (o.trans Z)),eL,eC,eM]
 have Gq:G (bE (dM (L.getD t [])) (L.getD (K.getD k 0) [])):=hG.mul (hG.inv GX) B
 refine (rclass_ok vL vC vM c n G L K _ h3 n7 hG E om (rg.fr (d.trans Z)) Gq f).mono ?_
 rintro _ h4 ⟨rfl,c⟩
 have a1:=Z.trans c
 have c:=a1.next
 have b2:Fx W hX h4:=Fb.trans (Fx.of (W:=W) a1) λ_ _ h=>h
 obtain⟨q,U⟩:=JR (numC G L K (L.idxOf (bE (dM (L.getD t [])) (L.getD (K.getD k 0) []))))
 have R:q<r:=by rw[←U,←P];exact (numC_ok hG E ik (idx_el E Gq).1).1
 have c1:quK G L K t k=q:=U
 have b6:h4.get (ρ q)=some (.cells false (rc r λa=> aB (cstA G L K i a (if a<k then t+1 else t) q:Nat))):=by
  rw[a1.get _ (by have:=(Wb _ (a6 q R)).2;omega)];exact s q R
 have c:h4.cell (ρ q) k=some (aB (cstA G L K i k t q:Nat)):=by
  rw[H.aG b6,kA a8,aZ om]
 have d:cstA G L K i k t q<=t:=cstA_le ..
 obtain⟨u,hu⟩:=JR (cstA G L K i k t q)
 rw[hu] at c d
 have pS:=λhh=>bF (vs:=rc r λa=> aB (cstA G L K i a (if a<k then t+1 else t) q:Nat)) (off:=k) (by rw[cK];exact a8) hh (ρ q) (aB (u+1:Nat))
 rw[U]
 simp(disch:=omega)only[go_sem,b7.ixa,cQ h4 b2 q R,c,show (u:Int)+1=((u+1:Nat):Int) from rfl,b6,pS]
 rw[dY k]
 refine⟨r-(k+1),om,k+1,aA rfl,om,λj l=>?_,?_,rfl⟩
 ·by_cases e:j=q
  ·subst e
   rw[H.aT,eJ]
   congr 2
   refine aY λa A=>?_
   by_cases e:a=k
   ·rw[aV e,aV om,e,cstA_succ,aV ⟨om,c1⟩,hu]
   ·rw[aZ e]
    by_cases p:a<k
    ·rw[aV p,aV om]
    ·rw[aZ p,aZ om]
  ·rw[H.aI _ (λee=>e (J.inj j q l R ee)),a1.get _ (by have:=(Wb _ (a6 j l)).2;omega),s j l]
   congr 2
   refine aY λa A=>?_
   by_cases e1:a=k
   ·subst e1
    rw[aZ om,aV om,cstA_succ,aZ (λx=>e (x.2.symm.trans c1))];rfl
   ·by_cases p:a<k
    ·rw[aV p,aV om]
    ·rw[aZ p,aZ om]
 ·exact b2.trans (Fx.set (W:=W) _ (a6 q R) _) λ_ _ h=>h
theorem sm_count (n:Nat)(c:Int)(p:Nat->Prop)[DecidablePred p]:sm n (λa=>if p a then c else 0)=c*(((List.range n).filter λa=>decide (p a)).length:Nat):=by
 induction n with
 |zero=>simp [Oy]
 |succ n ih=>
  rw[oG,ih,List.range_succ,List.filter_append,iZ]
  by_cases h:p n
  ·simp [h,Int.mul_add]
  ·simp [h]
theorem sm_bound {n:Nat}{B:Nat}{f:Nat->Int}(h: ∀a,a<n-> -(B:Int)<=f a/\f a<=B): -((n*B:Nat):Int)<=sm n f/\sm n f<=((n*B:Nat):Int):=by
 induction n with
 |zero=>simp [Oy]
 |succ n ih=>
  have e:=ih λa b=>h a om
  have d:=h n om;rw[oG,Nat.succ_mul];generalize n*B=c at*;omega
theorem mul_bound {x y:Int}{X Y:Nat}(a: -(X:Int)<=x/\x<=X)(b: -(Y:Int)<=y/\y<=Y): -((X*Y:Nat):Int)<=x*y/\x*y<=((X*Y:Nat):Int):=by
 have h:(x*y).natAbs<=X*Y:=by
  rw[Int.natAbs_mul];exact Nat.mul_le_mul om om
 omega
noncomputable def mlS (G:List Nat->Prop)(L:LN)(K:List Nat)(x y:List Int)(k i j:Nat):Int:=sm L.length λa=>if numC G L K a<i∨numC G L K a=i/\quK G L K a k<j then x.getD (numC G L K a) 0*y.getD (quK G L K a k) 0 else 0
noncomputable def mlF (G:List Nat->Prop)(L:LN)(K:List Nat)(x y:List Int)(k:Nat):Int:=sm L.length λa=>x.getD (numC G L K a) 0*y.getD (quK G L K a k) 0
section
variable {n:Nat} {G:List Nat->Prop} {L:LN} {K:List Nat} {x y:List Int}
theorem mlS_zero (k:Nat):mlS G L K x y k 0 0=0:=by
 unfold mlS;exact Wo λa _=>by rw[aZ om]
theorem mlS_step (k i j:Nat):mlS G L K x y k i (j+1)=mlS G L K x y k i j+x.getD i 0*y.getD j 0*(cstK G L K i j k:Nat):=by
 unfold mlS cstK cstA;rw[←sm_count L.length (x.getD i 0*y.getD j 0) λa=>numC G L K a=i/\quK G L K a k=j,←EH];refine pJ λa _=>?_
 by_cases h:numC G L K a=i/\quK G L K a k=j
 ·obtain⟨c,b⟩:=h
  subst c;subst b;rw[aV om,aZ om,aV ⟨rfl,rfl⟩,Int.zero_add]
 ·rw[aZ h,Int.add_zero]
  by_cases b:numC G L K a<i∨numC G L K a=i/\quK G L K a k<j
  ·rw[aV b,aV om]
  ·rw[aZ b,aZ om]
theorem mlS_row {k r:Nat}(c: ∀a,a<L.length->quK G L K a k<r)(i:Nat):mlS G L K x y k i r=mlS G L K x y k (i+1) 0:=by
 unfold mlS;refine pJ λa b=>?_
 have:=c a b
 by_cases h:numC G L K a<i∨numC G L K a=i
 ·rw[aV om,aV om]
 ·rw[aZ om,aZ om]
theorem mlS_skip {i:Nat}(b:x.getD i 0=0)(k:Nat):mlS G L K x y k i 0=mlS G L K x y k (i+1) 0:=by
 unfold mlS;refine pJ λa _=>?_
 by_cases h:numC G L K a=i
 ·rw[aZ om,aV om,h,b,Int.zero_mul]
 ·by_cases c:numC G L K a<i
  ·rw[aV om,aV om]
  ·rw[aZ om,aZ om]
theorem mlS_end {r:Nat}(c: ∀a,a<L.length->numC G L K a<r)(k:Nat):mlS G L K x y k r 0=mlF G L K x y k:=by
 unfold mlS mlF;exact pJ λa b=>by rw[aV (.inl (c a b))]
theorem at_bound {l:List Int}{B:Nat}(h: ∀v∈l, -(B:Int)<=v/\v<=B)(i:Nat): -(B:Int)<=l.getD i 0/\l.getD i 0<=B:=by
 by_cases hi:i<l.length
 ·exact h _ (getD_mem hi)
 ·rw[zB,List.getElem?_eq_none om];simp
theorem mlS_bound {X Y:Nat}(b: ∀v∈x, -(X:Int)<=v/\v<=X)(c: ∀v∈y, -(Y:Int)<=v/\v<=Y)(k i j:Nat): -((L.length*(X*Y):Nat):Int)<=mlS G L K x y k i j/\mlS G L K x y k i j<=((L.length*(X*Y):Nat):Int):=by
 refine sm_bound λa _=>?_
 split
 ·exact mul_bound (at_bound b _) (at_bound c _)
 ·omega
theorem mlF_bound {X Y:Nat}(a: ∀v∈x, -(X:Int)<=v/\v<=X)(b: ∀v∈y, -(Y:Int)<=v/\v<=Y)(k:Nat): -((L.length*(X*Y):Nat):Int)<=mlF G L K x y k/\mlF G L K x y k<=((L.length*(X*Y):Nat):Int):=
 sm_bound λ_ _=>mul_bound (at_bound a _) (at_bound b _)
theorem quK_lt (c:mH n G)(E:eP G L)(e:IsK n G L K){a k:Nat}(h:a<L.length)(f:k<K.length):quK G L K a k<K.length:=by
 unfold quK;have b:=e.lt (getD_mem (d:=0) f);have g:G (bE (dM (L.getD a [])) (L.getD (K.getD k 0) [])):=c.mul (c.inv (el_mem E h)) (el_mem E b);exact (numC_ok c E e (idx_el E g).1).1
end
set_option maxHeartbeats 32000000
theorem fold_gen (f:Nat)(d:List V)(k e:V)(l:List Int)(h:H)(q:l.length<1000000)(I:Nat->V->H->Prop)(n: ∀i v hh,I i v hh->SI hh k l)(o:I 0 e h)
  (step: ∀i v hh,i<l.length->I i v hh->Ev T f ([v,aB i,aB (l.getD i 0)]++d) hh (λv' h'=>I (i+1) v' h')):
  Ev T 64 [k,e,.fn f [] d] h (λv h'=>I l.length v h'):=by
 refine bH c_algebra_fold_int_int rfl rfl ?_
 have p:=(n _ _ _ o).lens
 simp(disch:=omega)only[go_sem,c_algebra_fold_int_int,aF,p]
 refine aH (λm a hh=> ∃(i:Nat) (v:V),(∃g:Nat->V,a= [g 0,v,.fn f [] d,g 3,g 4,g 5,k,aB (l.length:Int),aB i,g 9])/\i<=l.length/\I i v hh/\m=l.length-i) l.length
  ⟨0,e,aA rfl,fF _,o,rfl⟩ ?_
 rintro m a hh ⟨i,v,⟨g,rfl⟩,hi,inv,rfl⟩
 by_cases c:(i:Int)<(l.length:Int)
 ·have j:=bM c
  have a:i<l.length:=om
  obtain⟨id,g,p,g,g⟩:=(n _ _ _ inv).open
  have m:=g i a
  simp(disch:=omega)only[go_sem,j,p.ixa,m]
  refine (step i v hh a inv).mono ?_
  rintro v' a b
  simp(disch:=omega)only[go_sem]
  rw[dY i]
  exact⟨l.length-(i+1),om,i+1,v',aA rfl,om,b,rfl⟩
 have j:=bJ c
 obtain rfl:i=l.length:=om
 simp(disch:=omega)only[go_sem,j]
 exact inv
theorem mul1_ok (D S B1 p i:Nat)(A:V)(n:Nat)(G:List Nat->Prop)(L:LN)(K:List Nat)(x y:List Int)(X Y:Nat)(h:H)(n7:n<=7)(hG:mH n G)(E:eP G L)(ik:IsK n G L K)(hl:L.length<=5040)(hr:K.length<=64)(d:DatO n G L K h D)
  (hx: ∀v∈x, -(X:Int)<=v/\v<=X) (hy: ∀v∈y, -(Y:Int)<=v/\v<=Y) (a0:X*Y*5040<=4000000000000000000) (ly:y.length=K.length) (sy:SI h A y) (a3: ∀id off m c,A= .sl id off m c->id≠S) (hi:i<K.length)
  (g1:h.get B1=some (.cells false [.ptr D 0])) (g2:h.get p=some (.cells false [A])) (h1:B1<h.next) (h2:p<h.next) (nS:S<h.next) (e1:B1≠S) (e2:p≠S) (gS:h.get S=some (.cells false (rc K.length λk=> aB (mlS G L K x y k i 0)))):
  Ev T 96 [.sl S 0 K.length (.kn K.length),aB i,aB (x.getD i 0),.ptr B1 0,.ptr p 0] h (λv h'=>v= .sl S 0 K.length (.kn K.length)/\h'.get S=some (.cells false (rc K.length λk=> aB (mlS G L K x y k (i+1) 0)))/\Fx (· =S) h h'):=by
 obtain⟨r,w⟩:=JR K.length
 refine bH c_algebra_data_mul_1 rfl rfl ?_
 by_cases h0:x.getD i 0=0
 ·have f:=bM h0
  simp(disch:=omega)only[go_sem,c_algebra_data_mul_1,aF,f]
  exact⟨by rw[gS];congr 2;exact aY λk _=>by rw[mlS_skip h0],Fx.refl _ _⟩
 have f:=bJ h0
 simp(disch:=omega)only[go_sem,c_algebra_data_mul_1,aF,f,H.aG g1]
 refine (consts_ok D i n G L K h n7 hG E ik hl hr d).mono ?_
 rintro f o ⟨⟨Q,ρ,rfl,f,nQ,gQ,s⟩,R⟩
 rw[w] at gS hr ly hi gQ s
 have f:=R.next
 have a1:o.get S=some (.cells false (rc r λk=> aB (mlS G L K x y k i 0))):=by rw[R.get S nS];exact gS
 have f:L.length*(X*Y)<=4000000000000000000:=jK (Nat.mul_le_mul_right _ hl) (by rw[Nat.mul_comm];exact a0)
 have a2:=λl (f:Fx (· =S) o l)=>(show SI l A y from by
  have s2:=sy.mono R;refine SV.fx s2 ?_ f
  cases A with
  |sl q off m c=>exact λe=>a3 _ _ _ _ rfl e
  |_=>trivial)
 rw[w]
 simp(disch:=omega)only[go_sem]
 refine aH (λO b l=> ∃(j:Nat),(∃g:Nat->V,b= [.sl S 0 r (.kn r),g 1,aB (x.getD i 0),g 3,.ptr p 0,g 5,g 6,g 7,g 8,g 9,g 10,.sl Q 0 r (.kn r),aB r,aB j,g 14,g 15,g 16,g 17,g 18])/\j<=r/\l.get S=some (.cells false (rc r λk=> aB (mlS G L K x y k i j)))/\Fx (· =S) o l/\O=r-j) r
  ⟨0,aA rfl,fF _,a1,Fx.refl _ _,rfl⟩ ?_
 rintro O b hb ⟨j,⟨g,rfl⟩,f,N,U,rfl⟩
 have f:=U.next
 by_cases P:(j:Int)<(r:Int)
 case neg=>
  have d2:=bJ P;obtain rfl:j=r:=om
  simp(disch:=omega)only[go_sem,d2];refine⟨?_,⟨om,λid h1 h2=>by rw[U.get id om h2,R.get id h1]⟩⟩;rw[N];congr 2;exact aY λk hk=>by rw[←w,mlS_row (λa o=>quK_lt hG E ik o om)]
 have d2:=bM P
 have u:j<r:=om
 obtain⟨f,rn,rg⟩:=s j u
 have f:hb.cell Q j=some (.sl (ρ j) 0 r (.kn r)):=by
  rw[U.cell nQ (by show Q≠S;omega),H.aG gQ,kA u]
 simp(disch:=omega)only[go_sem,d2,f]
 refine aH (λO b l=> ∃(k:Nat),(∃g:Nat->V,b= [.sl S 0 r (.kn r),g 1,aB (x.getD i 0),g 3,.ptr p 0,g 5,aB j,g 7,g 8,g 9,g 10,.sl Q 0 r (.kn r),aB r,aB j,g 14,.sl (ρ j) 0 r (.kn r),aB r,aB k,g 18])/\k<=r/\l.get S=some (.cells false (rc r λa=> aB (mlS G L K x y a i (if a<k then j+1 else j))))/\Fx (· =S) o l/\O=r-k) r
  ⟨0,aA rfl,fF _,N,U,rfl⟩ ?_
 rintro O b B ⟨k,⟨b,rfl⟩,hk,t,F,rfl⟩
 have b:=F.next
 by_cases J:(k:Int)<(r:Int)
 case neg=>
  have d3:=bJ J;obtain rfl:k=r:=om
  simp(disch:=omega)only[go_sem,d3];rw[dY j];refine⟨k-(j+1),om,j+1,aA rfl,om,?_,F,rfl⟩;rw[t];congr 2;exact aY λa o=>by rw[aV o]
 have d3:=bM J
 have z:k<r:=om
 have cR:B.cell (ρ j) k=some (aB (cstK G L K i j k:Nat)):=by
  rw[F.cell rn (by show ρ j≠S;omega),H.aG rg,kA z]
 have cS:B.cell S k=some (aB (mlS G L K x y k i j)):=by
  rw[H.aG t,kA z,aZ om]
 have cB:B.cell p 0=some A:=by
  rw[F.cell om (by show p≠S;omega),R.cell h2,H.aG g2];rfl
 obtain⟨b,b,b,g,f⟩:=(a2 B F).open
 rw[ly] at b g f
 have J:=f j u
 have N:=mul_bound (at_bound hx i) (at_bound hy j)
 have O:=mlS_bound (G:=G) (L:=L) (K:=K) hx hy k i j
 have f:=mlS_bound (G:=G) (L:=L) (K:=K) hx hy k i (j+1)
 rw[mlS_step] at f
 have g:X*Y<=L.length*(X*Y):=Nat.le_mul_of_pos_left _ (by have:=ik.lt (getD_mem (d:=0) (show 0<K.length by omega));omega)
 obtain⟨u,Z⟩:=JR (x.getD i 0*y.getD j 0)
 obtain⟨w,hw⟩:=JR (u*((cstK G L K i j k:Nat):Int))
 obtain⟨s,hs⟩:=JR (mlS G L K x y k i j)
 rw[Z,hs] at f
 rw[Z] at N
 rw[hs] at O cS
 rw[hw] at f
 have f:=λl=>bF (vs:=rc r λa=> aB (mlS G L K x y a i (if a<k then j+1 else j))) (off:=k) (by rw[cK];exact z) l S (aB (s+w))
 simp(disch:=omega)only[go_sem,d3,cR,cS,cB,b.ixa,J,Z,hw,t,f]
 rw[dY k]
 refine⟨r-(k+1),om,k+1,aA rfl,om,?_,?_,rfl⟩
 ·rw[eJ]
  congr 2
  refine aY λa o=>?_
  by_cases e:a=k
  ·rw[aV e,aV om,e,mlS_step,Z,hs,hw]
  ·rw[aZ e]
   by_cases e2:a<k
   ·rw[aV e2,aV om]
   ·rw[aZ e2,aZ om]
 ·refine (F.trans (Fx.of (W:=(· =S)) ((Fr.refl B).bN (n:=B.next+15) om)) λ_ _ h=>h).trans ?_ (λ_ _ h=>h)
  exact Fx.set _ (W:=(· =S)) rfl _
structure RowO (b r:Nat)(f:Nat->Int)(hh:H)(v:V):Prop where
 ex: ∃S,v= .sl S 0 r (.kn r)/\b<=S/\S<hh.next/\hh.get S=some (.cells false (rc r λk=> aB (f k)))
theorem RowO.si {b r:Nat}{f:Nat->Int}{hh:H}{v:V}(o:RowO b r f hh v):SI hh v ((List.range r).map f):=by
 obtain⟨S,rfl,_,c,a⟩:=o.ex
 have e:(rc r λk=>aB (f k))=ints ((List.range r).map f):=by
  simp [rc,ints,Function.comp_def]
 rw[e] at a;exact SV.all (by rw[aL,iR,zU,kF]) c a _
theorem mul_ok (D:Nat)(j b:V)(n:Nat)(G:List Nat->Prop)(L:LN)(K:List Nat)(x y:List Int)(X Y:Nat)(h:H)(n7:n<=7)(hG:mH n G)(E:eP G L)(ik:IsK n G L K)(hl:L.length<=5040)(hr:K.length<=64)(d:DatO n G L K h D)
  (hx: ∀v∈x, -(X:Int)<=v/\v<=X) (hy: ∀v∈y, -(Y:Int)<=v/\v<=Y) (l:X*Y*5040<=4000000000000000000) (lx:x.length=K.length) (ly:y.length=K.length) (R:SI h j x) (z:SI h b y):
  Ev T 60 [.ptr D 0,j,b] h (λv h'=>RowO h.next K.length (mlF G L K x y) h' v/\Fr h h'):=by
 refine bH c_algebra_data_mul rfl rfl ?_
 obtain⟨vL,vC,Mn,Q,Q,gD,hD,Q,Q,sC,al,Q,Q,Q⟩:=d.ex
 have p:=(cls_open om sC al).1
 obtain⟨B,U⟩:=JR h.next
 obtain⟨h1,e1,P,g1,Q,f1⟩:=dN U [.ptr D 0]
 obtain⟨r,e2,Z,g2,o2,f2⟩:=dN P [b]
 obtain⟨f,e3,Q,g3,Q,f3⟩:=dN Z (rc K.length λ_=> aB 0)
 have W:=SV.dG z
 have F2:=f1.trans f2
 have s:=F2.trans f3
 have g:r.get B=some (.cells false [.ptr D 0]):=by rw[o2 B om];exact g1
 have o:r.get D=some (.cells false [vL,vC,.mp Mn]):=by rw[F2.get _ hD];exact gD
 have J:f.get B=some (.cells false [.ptr D 0]):=by rw[Q B om];exact g
 have u:f.get (B+1)=some (.cells false [b]):=by rw[Q (B+1) om];exact g2
 have b1:=kT (x:= .ptr D 0) rfl rfl h
 have Q:=kT W.1 W.2.1 h1
 simp(disch:=omega)only[go_sem,c_algebra_data_mul,aF,b1,U,e1,Q,P,e2,H.aG g,H.aG o,p,mks_zeros r K.length om,Z,e3]
 have O:=SV.in R
 have A:=SV.in z
 refine (fold_gen _ [.ptr B 0,.ptr (B+1) 0] j (.sl (B+1+1) 0 K.length (.kn K.length)) x f om (λi v a=>v= .sl (B+1+1) 0 K.length (.kn K.length)/\a.get (B+1+1)=some (.cells false (rc K.length λk=> aB (mlS G L K x y k i 0)))/\Fx (· =B+1+1) f a) ?_ ?_ ?_).mono ?_
 ·rintro i v a ⟨_,_,F⟩
  refine SV.fx (R.mono s) ?_ F
  cases j with
  |sl q t m c=>exact λe=>by have:=O _ _ _ _ rfl;omega
  |_=>trivial
 ·exact⟨rfl,by rw[g3];congr 2;exact aY λk _=>by rw[mlS_zero],Fx.refl _ _⟩
 ·rintro i v a hi ⟨rfl,N,F⟩
  have nF:=F.next
  have g: ∀id,id<B+1+1->a.get id=f.get id:=λid h1=>F.get id om (by show id≠B+1+1;omega)
  have f:Fr h a:=⟨om,λq w=>by rw[g q om];exact s.get q w⟩
  refine (mul1_ok D (B+1+1) B (B+1) i b n G L K x y X Y a n7 hG E ik hl hr (d.mono f) hx hy l ly (z.mono f) (λid t m c e=>by have:=A _ _ _ _ e;omega) om (by rw[g _ om];exact J) (by rw[g _ om];exact u) om om om om om N).mono ?_
  rintro a h' ⟨rfl,g',f'⟩
  exact⟨rfl,g',F.trans f' λ_ _ h=>h⟩
 ·rintro v a ⟨rfl,N,F⟩
  have nF:=F.next
  simp(disch:=omega)only[go_sem]
  refine⟨⟨B+1+1,rfl,om,om,?_⟩,⟨om,λq w=>by rw[F.get q om (by show q≠B+1+1;omega)];exact s.get q w⟩⟩
  rw[N]
  congr 2
  exact aY λk _=>by rw[lx,mlS_end λa a=>(numC_ok hG E ik a).1]
set_option maxHeartbeats 64000000
theorem rmul27_ok (vL Z vM vx vy:V)(n:Nat)(G:List Nat->Prop)(L:LN)(K:List Nat)(x y:List Int)(X Y:Nat)(h:H)(n7:n<=7)(hG:mH n G)(E:eP G L)(ik:IsK n G L K)(hl:L.length<=5040)(hr:K.length<=64)(rg:RgO n G L K h vL Z vM)
  (hx: ∀v∈x, -(X:Int)<=v/\v<=X) (hy: ∀v∈y, -(Y:Int)<=v/\v<=Y) (b9:X*Y*5040<=4000000000000000000) (lx:x.length=K.length) (ly:y.length=K.length) (sx:SI h vx x) (sy:SI h vy y):
  Ev T 61 [.agg [vL,Z,vM],vx,vy] h (λv h'=>RowO h.next K.length (mlF G L K x y) h' v/\Fr h h'):=by
 refine bH c_ref27_Group_Mul rfl rfl ?_
 obtain⟨oL,q,oM⟩:=rg.one
 obtain⟨B,hB⟩:=JR h.next
 obtain⟨h1,e1,n1,g1,o1,f1⟩:=dN hB [vL,Z,vM]
 have bx:=bD h (v:=vL) (u:=Z) (w:=vM) oL q oM
 obtain⟨a1,q,q,q,q,q⟩:=rg.cls om
 obtain⟨r,o⟩:=JR K.length
 rw[o] at a1 hr lx ly
 obtain⟨S,hS⟩:=JR h1.next
 obtain⟨h2,z,q,g2,q,f2⟩:=dN hS (rc r λ_=> aB 0)
 have F2:=f1.trans f2
 have q:L.length*(X*Y)<=4000000000000000000:=jK (Nat.mul_le_mul_right _ hl) (by rw[Nat.mul_comm];exact b9)
 have FH: ∀b,Fx (· =S) h2 b->Fr h1 b:=λb f=>⟨by have:=f.next;omega,λq hq=>by rw[f.get q om (by show q≠S;omega)];exact f2.get q hq⟩
 obtain⟨idx,a6,t,O,cx⟩:=sx.open
 obtain⟨c3,a8,b0,N,cy⟩:=sy.open
 rw[lx] at t O cx
 rw[ly] at b0 N cy
 have b5:=sx.dJ
 have b8:=sy.dJ
 simp(disch:=omega)only[go_sem,c_ref27_Group_Mul,aF,bx,hB,e1,H.aG g1,a1,mks_zeros h1 r om,hS,z]
 refine aH (λA l b=> ∃(i:Nat),(∃g:Nat->V,l= [g 0,vx,vy,.ptr B 0,g 4,aB r,.sl S 0 r (.kn r),aB i,g 8,g 9,g 10,g 11,g 12,g 13,g 14])/\i<=r/\b.get S=some (.cells false (rc r λk=> aB (mlS G L K x y k i 0)))/\Fx (· =S) h2 b/\A=r-i) r
  ⟨0,aA rfl,fF _,by rw[g2];congr 2;exact aY λk _=>by rw[mlS_zero],Fx.refl _ _,rfl⟩ ?_
 rintro A l p ⟨i,⟨g,rfl⟩,hi,gS,Fa,rfl⟩
 have q:=Fa.next
 have s:=FH p Fa
 by_cases a2:(i:Int)<(r:Int)
 case neg=>
  have d1:=bJ a2;obtain rfl:i=r:=om
  simp(disch:=omega)only[go_sem,d1];refine⟨⟨S,by rw[o],om,om,?_⟩,f1.trans s⟩;rw[gS,o];congr 2;exact aY λk _=>by rw[mlS_end λa p=>by rw[←o];exact (numC_ok hG E ik p).1]
 have d1:=bM a2
 have q:i<r:=om
 have R: ∀b,Fr h b->b.cell idx (a6+i)=some (aB (x.getD i 0)):=λb f=>by rw[f.cell (O om)];exact cx i q
 by_cases h0:x.getD i 0=0
 ·have d2:=bM h0
  simp(disch:=omega)only[go_sem,d1,t.ixa,R p (f1.trans s),d2]
  rw[dY i]
  exact⟨r-(i+1),om,i+1,aA rfl,om,by rw[gS];congr 2;exact aY λk _=>by rw[mlS_skip h0],Fa,rfl⟩
 have d2:=bJ h0
 have q: ∀b,Fr h1 b->b.get B=some (.cells false [vL,Z,vM]):=λb f=>by rw[f.get B om];exact g1
 simp(disch:=omega)only[go_sem,d1,t.ixa,R p (f1.trans s),d2,aS (q p s)]
 refine (rconsts_ok vL Z vM i n G L K p n7 hG E ik hl om (rg.fr (f1.trans s))).mono ?_
 rintro vm U ⟨⟨ρ,sm,b6,J⟩,q⟩
 rw[o] at sm J
 have s:=q.next
 have b7:U.get S=some (.cells false (rc r λk=> aB (mlS G L K x y k i 0))):=by rw[q.get S om];exact gS
 have a9:Fx (· =S) h2 U:=Fa.trans (Fx.of (W:=(· =S)) q) λ_ _ h=>h
 obtain⟨c0,a4,a3,q,q⟩:=sm.shape r (by rw[cK,kF]) om
 have c5:Kj (· =S) vm:=by
  cases vm with
  |sl id off m c=>exact λe=>by have:=b6 _ _ _ _ rfl;omega
  |_=>trivial
 have cQ: ∀b,Fx (· =S) U b-> ∀j,j<r->b.cell c0 (a4+j)=some (.sl (ρ j) 0 r (.kn r)):=λb f j hj=>by
  obtain⟨q,q,q,_,O⟩:=(sm.fx c5 f).shape r (by rw[cK,kF]) om;have e1:=a3.ixa .i64 (j:Int) om om;have z:=q.ixa .i64 (j:Int) om om;rw[e1] at z;simp only[Option.some.injEq,V.ptr.injEq,De,kF] at z;obtain⟨q,s⟩:=z;rw[q,s,O j (by rw[cK];exact hj),kA hj]
 have c4: ∀b,Fx (· =S) U b->Fr h1 b:=λb f=>FH b (a9.trans f λ_ _ h=>h)
 have em:=sm.dJ
 simp(disch:=omega)only[go_sem]
 refine aH (λA l b=> ∃(j:Nat),(∃g:Nat->V,l= [g 0,vx,vy,.ptr B 0,g 4,aB r,.sl S 0 r (.kn r),aB i,vm,aB j,g 10,g 11,g 12,g 13,g 14])/\j<=r/\b.get S=some (.cells false (rc r λk=> aB (mlS G L K x y k i j)))/\Fx (· =S) U b/\A=r-j) r
  ⟨0,aA rfl,fF _,b7,Fx.refl _ _,rfl⟩ ?_
 rintro A l f ⟨j,⟨g,rfl⟩,hj,a5,Fc,rfl⟩
 have f:=Fc.next
 by_cases b4:(j:Int)<(r:Int)
 case neg=>
  have d3:=bJ b4;obtain rfl:j=r:=om
  simp(disch:=omega)only[go_sem,d3];rw[dY i];refine⟨j-(i+1),om,i+1,aA rfl,om,?_,a9.trans Fc λ_ _ h=>h,rfl⟩;rw[a5];congr 2;exact aY λk hk=>by rw[←o,mlS_row (λa p=>quK_lt hG E ik p om)]
 have d3:=bM b4
 have Q:j<r:=om
 obtain⟨f,rn,c1⟩:=J j Q
 simp(disch:=omega)only[go_sem,d3]
 refine aH (λA l b=> ∃(k:Nat),(∃g:Nat->V,l= [g 0,vx,vy,.ptr B 0,g 4,aB r,.sl S 0 r (.kn r),aB i,vm,aB j,aB k,g 11,g 12,g 13,g 14])/\k<=r/\b.get S=some (.cells false (rc r λa=> aB (mlS G L K x y a i (if a<k then j+1 else j))))/\Fx (· =S) U b/\A=r-k) r
  ⟨0,aA rfl,fF _,a5,Fc,rfl⟩ ?_
 rintro A l F ⟨k,⟨g,rfl⟩,hk,P,Fd,rfl⟩
 have nd:=Fd.next
 by_cases a7:(k:Int)<(r:Int)
 case neg=>
  have d4:=bJ a7;obtain rfl:k=r:=om
  simp(disch:=omega)only[go_sem,d4];rw[dY j];refine⟨k-(j+1),om,j+1,aA rfl,om,?_,Fd,rfl⟩;rw[P];congr 2;exact aY λa p=>by rw[aV p]
 have d4:=bM a7
 have f:k<r:=om
 have g:=f1.trans (c4 F Fd)
 have cR:F.cell (ρ j) k=some (aB (cstK G L K i j k:Nat)):=by
  rw[Fd.cell rn (by show ρ j≠S;omega),H.aG c1,kA f]
 have A:F.cell S k=some (aB (mlS G L K x y k i j)):=by
  rw[H.aG P,kA f,aZ om]
 have J:F.cell c3 (a8+j)=some (aB (y.getD j 0)):=by rw[g.cell (N om)];exact cy j Q
 have q:=mul_bound (at_bound hx i) (at_bound hy j)
 have B:=mlS_bound (G:=G) (L:=L) (K:=K) hx hy k i j
 have l:=mlS_bound (G:=G) (L:=L) (K:=K) hx hy k i (j+1)
 rw[mlS_step] at l
 have o:X*Y<=L.length*(X*Y):=Nat.le_mul_of_pos_left _ (by have:=ik.lt (getD_mem (d:=0) (show 0<K.length by omega));omega)
 have o:=R F g
 obtain⟨g,a0⟩:=JR (x.getD i 0)
 rw[a0] at o q l
 obtain⟨u,hu⟩:=JR (g*y.getD j 0)
 obtain⟨w,hw⟩:=JR (u*((cstK G L K i j k:Nat):Int))
 obtain⟨s,hs⟩:=JR (mlS G L K x y k i j)
 rw[hu,hs] at l
 rw[hu] at q
 rw[hs] at B A
 rw[hw] at l
 have g:=λb=>bF (vs:=rc r λa=> aB (mlS G L K x y a i (if a<k then j+1 else j))) (off:=k) (by rw[cK];exact f) b S (aB (s+w))
 simp(disch:=omega)only[go_sem,d4,A,t.ixa,o,b0.ixa,J,a3.ixa,cQ F Fd j Q,cR,hu,hw,P,g,b5,b8,em]
 rw[dY k]
 refine⟨r-(k+1),om,k+1,aA rfl,om,?_,?_,rfl⟩
 ·rw[eJ]
  congr 2
  refine aY λa p=>?_
  by_cases e:a=k
  ·rw[aV e,aV om,e,mlS_step,a0,hu,hs,hw]
  ·rw[aZ e]
   by_cases z:a<k
   ·rw[aV z,aV om]
   ·rw[aZ z,aZ om]
 ·refine (Fd.trans (Fx.of (W:=(· =S)) ((Fr.refl F).bN (n:=F.next+26) om)) λ_ _ h=>h).trans ?_ (λ_ _ h=>h)
  exact Fx.set _ (W:=(· =S)) rfl _
set_option maxHeartbeats 32000000
theorem each_gen (D f:Nat)(q:List V)(g:Nat->Int)(n:Nat)(G:List Nat->Prop)(L:LN)(K:List Nat)(h:H)(N:K.length<=64)(d:DatO n G L K h D)
  (s: ∀i,i<K.length-> ∀hh,Fr h hh->Ev T f (q++ [aB i]) hh (λv h'=>v= aB (g i)/\Fr hh h')):
  Ev T 41 [.ptr D 0,.fn f q []] h (λv h'=>RowO h.next K.length g h' v/\Fr h h'):=by
 refine bH c_algebra_data_each rfl rfl ?_
 obtain⟨l,l,l,l,l,O,l,l,l,x,A,l,l,l⟩:=d.ex
 have l:=(cls_open om x A).1
 obtain⟨r,c⟩:=JR K.length
 rw[c] at l N s
 obtain⟨S,x⟩:=JR h.next
 obtain⟨A,A,P,B,P,J⟩:=dN x (rc r λ_=> aB 0)
 simp(disch:=omega)only[go_sem,c_algebra_data_each,aF,H.aG O,l,mks_zeros h r om,x,A]
 refine aH (λy b hh=> ∃(i:Nat),(∃j:Nat->V,b= [j 0,.fn f q [],j 2,.sl S 0 r (.kn r),j 4,aB r,aB i,j 7])/\i<=r/\hh.get S=some (.cells false (rc r λk=> aB (if k<i then g k else 0)))/\Fr h hh/\S<hh.next/\y=r-i) r
  ⟨0,aA rfl,fF _,B,J,om,rfl⟩ ?_
 rintro y b hh ⟨i,⟨j,rfl⟩,hi,w,F,u,rfl⟩
 by_cases m:(i:Int)<(r:Int)
 ·have p:=bM m
  have e:i<r:=om
  simp(disch:=omega)only[go_sem,p]
  refine (s i e hh F).mono ?_
  rintro _ z ⟨rfl,o⟩
  have b:z.get S=some (.cells false (rc r λk=> aB (if k<i then g k else 0))):=by rw[o.get S u];exact w
  have j:=λhh=>bF (vs:=rc r λk=> aB (if k<i then g k else 0)) (off:=i) (by rw[cK];exact e) hh S (aB (g i))
  simp(disch:=omega)only[go_sem,b,j]
  rw[dY i]
  have b:=o.next
  refine⟨r-(i+1),om,i+1,aA rfl,om,?_,(F.trans o).set om _,by show S<z.next;omega,rfl⟩
  rw[eJ]
  congr 2
  refine aY λa t=>?_
  by_cases e:a=i
  ·rw[aV e,aV om,e]
  ·rw[aZ e]
   by_cases b:a<i
   ·rw[aV b,aV om]
   ·rw[aZ b,aZ om]
 have p:=bJ m
 obtain rfl:i=r:=om
 simp(disch:=omega)only[go_sem,p]
 refine⟨⟨S,by rw[c],om,u,?_⟩,F⟩
 rw[w,c]
 congr 2
 exact aY λa t=>by rw[aV t]
noncomputable def rtA (n:Nat)(L:LN)(z:Int)(t:Nat)(y:List Nat):Nat:=((List.range t).filter λa=>decide (zp n (L.getD a []) z=y)).length
theorem filter_one {α:Type}(p:α->Bool)(a:α):([a].filter p).length=if p a=true then 1 else 0:=by
 cases h:p a<;>simp [h]
theorem rtA_succ (n:Nat)(L:LN)(z:Int)(t:Nat)(y:List Nat):rtA n L z (t+1) y=rtA n L z t y+if zp n (L.getD t []) z=y then 1 else 0:=by
 unfold rtA;rw[List.range_succ,List.filter_append,iZ];rw[filter_one];simp only[Co]
theorem rtA_le (n:Nat)(L:LN)(z:Int)(t:Nat)(y:List Nat):rtA n L z t y<=t:=by
 unfold rtA;exact jK (List.length_filter_le _ _) (by rw[zU];exact eS _)
noncomputable def rtK (n:Nat)(L:LN)(K:List Nat)(z:Int)(i:Nat):Nat:=rtA n L z L.length (L.getD (K.getD i 0) [])
theorem bld_rt (D M:Nat):kY [.nilp,.nilm] [(0,1,.ptr D 0),(1,1,.mp M)]=some (.agg [.ptr D 0,.mp M]):=rfl
theorem rootsOf_ok (D M i:Nat)(n:Nat)(G:List Nat->Prop)(L:LN)(K:List Nat)(h:H)(z:Int)(m:List (List Nat×V))(n7:n<=7)(W:mH n G)(E:eP G L)(J:IsK n G L K)(hr:K.length<=64)(d:DatO n G L K h D)(hi:i<K.length)
  (P:h.get M=some (.wmap (.arr 64 .u8) (gJ kyV m))) (w:M<h.next) (Q: ∀p∈m,bV n p.1) (B: ∀y,bV n y->(Cr m y).getD (aB 0)= aB (rtA n L z L.length y:Nat)):
  Ev T 42 [.agg [.ptr D 0,.mp M],aB i] h (λv h'=>v= aB (rtK n L K z i:Nat)/\Fr h h'):=by
 refine bH c_algebra_roots_of rfl rfl ?_
 obtain⟨Y,O,U,a,a,gD,F,a,a,j,N,a,a,a⟩:=d.ex
 obtain⟨a,a,k,a,g,R⟩:=cls_open om j N
 obtain⟨bC,b,N,_,j,sr⟩:=R i hi
 have j:K.getD i 0<L.length:=J.lt (getD_mem hi)
 obtain⟨x,q⟩:=JR (L.getD (K.getD i 0) [])
 rw[q] at sr
 have X:bV n x:=by rw[←q];exact el_isP W E j
 obtain⟨A,r⟩:=JR h.next
 obtain⟨e,Z,j,s,j,c⟩:=dN r [.ptr D 0,.mp M]
 have l:e.get D=some (.cells false [Y,O,.mp U]):=by rw[c.get _ F];exact gD
 have f:e.cell k (a+i*3)=some b:=by rw[c.cell bC];exact N
 simp(disch:=omega)only[go_sem,c_algebra_roots_of,aF,Dx h (v:= .ptr D 0) (u:= .mp M) rfl rfl,r,Z,H.aG s,H.aG l,g.ixa,f]
 have o:=(Fr.refl e).bN (n:=e.next+14) om
 refine (keyOf_ok b n x _ om X (sr.mono (c.trans o))).mono ?_
 rintro _ t ⟨rfl,a⟩
 have F2:=c.trans (o.trans a)
 have e:t.get A=some (.cells false [.ptr D 0,.mp M]):=by rw[(o.trans a).get A om];exact s
 have b:t.get M=some (.wmap (.arr 64 .u8) (gJ kyV m)):=by rw[F2.get _ w];exact P
 have c:=oP (kyV_eq (n:=n) om) (λa A=>kyV_key (n:=n) om a A) Q X (aB 0)
 rw[B x X] at c
 simp(disch:=omega)only[go_sem,H.aG e,b,c]
 refine⟨by simp [dJ],by unfold rtK;rw[q],F2⟩
theorem roots_ok {W0:Nat->Prop}(vc:V)(z:Int)(n:Nat)(O:LN)(R:jL)(G:List Nat->Prop)(h:H)(hz: -9223372036854775808<=z/\z<9223372036854775808)(o:GC W0 h vc n O R G)(L:LN)(hL:cF O R n 0 (cH n)=L):
  Ev T 12 [vc,aB z] h (λv h'=> ∃K,IsK n G L K/\Fr h h'/\(64<K.length/\v= .tup [.aD,aB 5]∨K.length<=64/\ ∃vl,v= .tup [vl,aB 0]/\SI h' vl (zi ((List.range K.length).map (rtK n L K z))))):=by
 have a2:=o
 obtain⟨vO,vR,rfl,sO,B⟩:=o.ch
 refine bH c_algebra_Roots rfl rfl ?_
 have q:vO.one=true:=rL sO
 have k:vR.one=true:=qZ B
 have n7:=o.n7
 have n0:=o.n0
 have hG:=o.grp
 obtain⟨E,B⟩:=eE o.grp o.isc
 have a6:=szF_fact o
 rw[hL] at E B
 obtain⟨B,hB⟩:=JR h.next
 obtain⟨h1,e1,B,g1,B,f1⟩:=dN hB [aB n,vO,vR]
 have bx:=bD h (v:= aB n) (u:=vO) (w:=vR) rfl q k
 simp(disch:=omega)only[go_sem,c_algebra_Roots,aF,bx,hB,e1,aS g1]
 refine (load_ok _ n O R G h1 (a2.mono f1) L hL).mono ?_
 rintro _ l ⟨K,ik,f2,⟨j,rfl⟩|⟨j,D,rfl,A⟩⟩
 ·simp(disch:=omega)only[go_sem]
  refine bB (λ_=>?_) (λx=>(x (by decide)).elim)
  simp(disch:=omega)only[go_sem]
  exact⟨K,ik,f1.trans f2,.inl ⟨j,trivial⟩⟩
 simp(disch:=omega)only[go_sem]
 refine bB (λx=>(x rfl).elim) (λ_=>?_)
 have F2:=f1.trans f2
 obtain⟨vL,vC,Mn,k,k,gD,hD,k,q,k,k,k,k,k⟩:=A.ex
 obtain⟨Q,k,a1,W,ws,a,cL⟩:=sp_open q
 obtain⟨r,Z⟩: ∃m,L.length=m:=⟨_,rfl⟩
 rw[Z] at Q a cL
 obtain⟨M,hM⟩:=JR l.next
 obtain⟨q,B⟩:=JR (l.new (.wmap (.arr 64 .u8) []))
 have n3:q.next=M+1:=by rw[←B,H.aX,hM]
 have g3:q.get M=some (.wmap (.arr 64 .u8) []):=by rw[←B,←hM];exact H.aN l _
 have o3: ∀k,k≠M->q.get k=l.get k:=λk hk=>by rw[←B];exact H.bL l om _
 obtain⟨h4,e4,k,g4,o4,k⟩:=dN n3 [.nilp,.nilm]
 obtain⟨h5,e5,k,g5,k⟩:=mS h4 (M+1) [.ptr D 0,.mp M]
 have b:Fr l h5:=⟨om,λq hq=>by rw[k q om,o4 q om,o3 q om]⟩
 have a3:h5.get M=some (.wmap (.arr 64 .u8) []):=by rw[k M om,o4 M om];exact g3
 have a5: ∀d,Fr l d->d.get D=some (.cells false [vL,vC,.mp Mn]):=λd f=>by rw[f.get _ hD];exact gD
 simp(disch:=omega)only[go_sem,hM,B,bld_rt,n3,e4,Xp h4 (M+1) 0 (v:= .ptr D 0) (u:= .mp M) rfl rfl,g4,Ky,e5,H.aG (a5 h5 b),Q]
 refine bX (λk d=> ∃(m:List (List Nat×V)),(∃g:Nat->V,k= [g 0,g 1,g 2,g 3,g 4,.ptr D 0,g 6,.ptr (M+1) 0,g 8,g 9,g 10,g 11,g 12,g 13,g 14])/\d.get M=some (.wmap (.arr 64 .u8) (gJ kyV m))/\d.get (M+1)=some (.cells false [.ptr D 0,.mp M])/\(∀p∈m,bV n p.1)/\(∀y,bV n y->(Cr m y).getD (aB 0)= aB (rtA n L z L.length y:Nat))/\M+1<d.next/\Fr l d) ?_ ?_
 ·refine aH (λk' i d=> ∃(t:Nat) (m:List (List Nat×V)),(∃g:Nat->V,i= [g 0,aB z,g 2,g 3,g 4,.ptr D 0,g 6,.ptr (M+1) 0,g 8,g 9,g 10,vL,aB r,aB t,g 14])/\t<=r/\d.get M=some (.wmap (.arr 64 .u8) (gJ kyV m))/\d.get (M+1)=some (.cells false [.ptr D 0,.mp M])/\(∀p∈m,bV n p.1)/\(∀y,bV n y->(Cr m y).getD (aB 0)= aB (rtA n L z t y:Nat))/\M+1<d.next/\Fr l d/\k'=r-t) r
   ⟨0, [],aA rfl,fF _,a3,g5,λ_ h=>(by cases h),λy _=>rfl,om,b,rfl⟩ ?_
  rintro k' i h6 ⟨t,m,⟨g,rfl⟩,b,gM,gR,J,N,nM,F,rfl⟩
  by_cases c:(t:Int)<(r:Int)
  case neg=>
   have d1:=bJ c;obtain rfl:t=r:=om
   simp(disch:=omega)only[go_sem,d1];exact⟨m,aA rfl,gM,gR,J,by rw[Z];exact N,nM,F⟩
  have d1:=bM c
  have b:t<r:=om
  obtain⟨b1,c1,s1⟩:=cL t b
  generalize ws.getD t V.undef=b at c1 s1
  have X:=el_isP hG E (show t<L.length by omega)
  have c:h6.cell a1 (W+t)=some b:=by rw[F.cell b1];exact c1
  simp(disch:=omega)only[go_sem,d1,a.ixa,c]
  refine (ppow_ok b z n (L.getD t []) h6 hz n0 n7 X (s1.mono F)).mono ?_
  rintro _ h7 ⟨w,rfl,b,a⟩
  have F7:=F.trans a
  have c:=a.next
  have a4:h7.get M=some (.wmap (.arr 64 .u8) (gJ kyV m)):=by rw[a.get _ om];exact gM
  have U:h7.get (M+1)=some (.cells false [.ptr D 0,.mp M]):=by rw[a.get _ om];exact gR
  obtain⟨y,hy⟩:=JR (zp n (L.getD t []) z)
  have Y:bV n y:=by rw[←hy];exact jQ X _
  rw[hy] at b
  simp(disch:=omega)only[go_sem,H.aG U]
  have fb:=(Fr.refl h7).bN (n:=h7.next+9) om
  refine (keyOf_ok w n y _ om Y (b.mono fb)).mono ?_
  rintro _ h8 ⟨rfl,a⟩
  have k:=fb.trans a
  have F8:=F7.trans k
  have w:h8.get M=some (.wmap (.arr 64 .u8) (gJ kyV m)):=by rw[k.get _ om];exact a4
  have q:h8.get (M+1)=some (.cells false [.ptr D 0,.mp M]):=by rw[k.get _ om];exact U
  have F:=λa b=>kyV_eq (n:=n) om a b
  have hk:=λa=>kyV_key (n:=n) om a
  have Q:=N y Y
  obtain⟨c,x⟩:=JR (rtA n L z t y)
  rw[x] at Q
  have a:c<=t:=by rw[←x];exact rtA_le ..
  have b:=oP F hk J Y (aB 0)
  rw[Q] at b
  obtain⟨a,a,a,h9,ee,a,o9,P,U,B,en⟩:=Oz F hk J Y (aB 0) (aB (c+1:Nat)) h8 M w
  have a:=oP F hk U Y (aB 0)
  rw[B,Q] at a
  have B:=k.next
  have ok:BD h9 (.lkw (.arr 64 .u8) (aB 0) false (.c (.mp M)) (.c (kyV y))) (aB c)=true:=by
   simp only[BD,Hj,xv,Hp,P,a,Option.map_some,HC];simp [dJ]
  have a0:h9.get (M+1)=some (.cells false [.ptr D 0,.mp M]):=by rw[o9 (M+1) om];exact q
  simp(disch:=omega)only[go_sem,H.aG q,w,b,show (c:Int)+1=((c+1:Nat):Int) from rfl,ee,P,ok,en]
  rw[dY t]
  have a:=F7.next
  refine⟨by simp [dJ],r-(t+1),om,t+1,_,aA rfl,om,rfl,a0,xC Y J,λy' Y'=>?_,by show M+1<h9.next;omega,⟨by show l.next<=h9.next;omega,λp a=>by rw[H.aI _ om,o9 p om];exact F8.get p a⟩,rfl⟩
  rw[zO,rtA_succ,hy]
  by_cases e:y'=y
  ·rw[aV e,aV e.symm,e,x];rfl
  ·rw[aZ e,aZ (λh=>e h.symm),N y' Y'];rfl
 rintro i hA ⟨m,⟨g,rfl⟩,gM,gR,J,N,nM,FA⟩
 have a:=BZ gR
 simp(disch:=omega)only[go_sem,a]
 refine (each_gen D 42 [.agg [.ptr D 0,.mp M]] (λi=>((rtK n L K z i:Nat):Int)) n G L K hA j (A.mono FA) (λi hi d f=>rootsOf_ok D M i n G L K d z m n7 hG E ik j (A.mono (FA.trans f)) hi (by rw[f.get M om];exact gM) (by have:=f.next;omega) J N)).mono ?_
 rintro vl hB ⟨a,fB⟩
 have s:=a.si
 have e:(List.range K.length).map (λi=>((rtK n L K z i:Nat):Int))=zi ((List.range K.length).map (rtK n L K z)):=by
  unfold zi;rw[List.map_map];rfl
 rw[e] at s
 simp(disch:=omega)only[go_sem]
 exact⟨K,ik,(F2.trans FA).trans fB,.inr ⟨j,vl,rfl,s⟩⟩
set_option maxHeartbeats 32000000
def gs:LN->(List Nat->Int)->Int
 | [],_=>0
 |x::l,f=>f x+gs l f
section
variable {n:Nat} {G:List Nat->Prop} {L:LN} {K:List Nat}
end
section
variable {n:Nat} {G:List Nat->Prop} {L:LN} {K:List Nat} (hG:mH n G) (E:eP G L) (ik:IsK n G L K)
include hG E ik
end
set_option maxHeartbeats 32000000
theorem contains_gen (f:Nat)(q:List V)(o:V)(l:List Int)(h:H)(p:Int->Bool)(A:l.length<1000000)(sl:SI h o l)
  (t: ∀i,i<l.length-> ∀hh,Fr h hh->Ev T f ([aB (l.getD i 0)]++q) hh (λv h'=>v= .bool (p (l.getD i 0))/\Fr hh h')):
  Ev T 57 [o,.fn f [] q] h (λv h'=>v= .bool (l.any p)/\Fr h h'):=by
 refine bH c_slices_ContainsFunc_int_int rfl rfl ?_
 simp(disch:=omega)only[go_sem,c_slices_ContainsFunc_int_int,aF]
 refine Ev.mono (Q:=λv h'=> ∃z,v= aB z/\decide (0<=z)=l.any p/\Fr h h') ?_ ?_
 ·refine bH c_slices_IndexFunc_int_int rfl rfl ?_
  have x:=sl.lens
  obtain⟨id,e,u,n,w⟩:=sl.open
  simp(disch:=omega)only[go_sem,c_slices_IndexFunc_int_int,aF,x]
  refine aH (λs a hh=> ∃(i:Nat),(∃g:Nat->V,a= [o,.fn f [] q,g 2,g 3,aB (l.length:Int),aB i,g 6,g 7])/\i<=l.length/\(∀j,j<i->p (l.getD j 0)=false)/\Fr h hh/\s=l.length-i) l.length
   ⟨0,aA rfl,fF _,λj m=>om,Fr.refl _,rfl⟩ ?_
  rintro s a hh ⟨i,⟨g,rfl⟩,hi,c,F,rfl⟩
  by_cases d:(i:Int)<(l.length:Int)
  ·have r:=bM d
   have b:i<l.length:=om
   have a:hh.cell id (e+i)=some (aB (l.getD i 0)):=by rw[F.cell (n om),w i b]
   simp(disch:=omega)only[go_sem,r,u.ixa,a]
   refine (t i b hh F).mono ?_
   rintro _ y ⟨rfl,k⟩
   cases he:p (l.getD i 0) with
   |true=>
    simp(disch:=omega)only[go_sem];refine⟨_,rfl,?_,F.trans k⟩;rw[bM om];symm;exact List.any_eq_true.2 ⟨_,getD_mem b,he⟩
   |false=>
    simp(disch:=omega)only[go_sem];rw[dY i];refine⟨l.length-(i+1),om,i+1,aA rfl,om,λj m=>?_,F.trans k,rfl⟩
    by_cases e:j=i
    ·rw[e];exact he
    ·exact c j om
  have r:=bJ d
  obtain rfl:i=l.length:=om
  simp(disch:=omega)only[go_sem,r]
  refine⟨_,rfl,?_,F⟩
  symm
  rw[bJ om]
  refine List.any_eq_false.2 λx a=>?_
  obtain⟨j,m,b⟩:=uK.1 a
  have:=c j m
  rw[zB,eV m] at this
  rw[←b]
  simpa using this
 rintro _ y ⟨z,rfl,a,k⟩
 simp(disch:=omega)only[go_sem,a]
 exact k
def indL (r i:Nat):List Int:=(List.range r).map λk=>if k=i then 1 else 0
theorem indL_len (r i:Nat):(indL r i).length=r:=by simp [indL]
theorem indL_b (r i:Nat): ∀v∈indL r i, -((1:Nat):Int)<=v/\v<=(1:Nat):=λv a=>by
 obtain⟨k,_,rfl⟩:=pU.1 a;split<;>omega
noncomputable def cntL (G:List Nat->Prop)(L:LN)(K:List Nat)(l:List Nat):List Int:=l.foldl (λc i=>(List.range K.length).map (mlF G L K (indL K.length i) c)) (indL K.length 0)
theorem cntL_take (G:List Nat->Prop)(L:LN)(K:List Nat)(l:List Nat){k:Nat}(a:k<l.length):cntL G L K (l.take (k+1))=(List.range K.length).map (mlF G L K (indL K.length (l.getD k 0)) (cntL G L K (l.take k))):=by
 have e:l.take (k+1)=l.take k++ [l.getD k 0]:=by
  rw[List.take_add_one,eV a,zB,eV a];rfl
 unfold cntL;rw[e,List.foldl_append];rfl
theorem cntL_len (G:List Nat->Prop)(L:LN)(K:List Nat)(l:List Nat): ∀k,k<=l.length->(cntL G L K (l.take k)).length=K.length
 |0,_=>by unfold cntL;exact indL_len _ _
 |k+1,h=>by rw[cntL_take G L K l om,iR,zU]
theorem cntL_b (G:List Nat->Prop)(L:LN)(K:List Nat)(l:List Nat)(a:L.length<=5040): ∀k,k<=l.length-> ∀v∈cntL G L K (l.take k), -((5040^k:Nat):Int)<=v/\v<=(5040^k:Nat)
 |0,_=>by unfold cntL;exact indL_b _ _
 |k+1,h=>by
  rw[cntL_take G L K l om];intro v c;obtain⟨q,_,rfl⟩:=pU.1 c;have b:=mlF_bound (G:=G) (L:=L) (K:=K) (indL_b K.length (l.getD k 0)) (cntL_b G L K l a k om) q;have:L.length*(1*5040^k)<=5040^(k+1):=by rw[Nat.one_mul,Nat.pow_succ,Nat.mul_comm];exact Nat.mul_le_mul_left _ a
  omega
structure CntE (n:Nat)(G:List Nat->Prop)(L:LN)(K:List Nat)(D E:Nat)(hh:H):Prop where
 d:DatO n G L K hh D
 g:hh.get E=some (.cells false [.ptr D 0])
 nx:E<hh.next
theorem CntE.mono {n:Nat}{G:List Nat->Prop}{L:LN}{K:List Nat}{D E:Nat}{h h':H}(c:CntE n G L K D E h)(f:Fr h h'):CntE n G L K D E h':=⟨c.d.mono f,by rw[f.get _ c.nx];exact c.g,iP c.nx f.next⟩
theorem count1_ok (D E:Nat)(x:Int)(n:Nat)(G:List Nat->Prop)(L:LN)(K:List Nat)(h:H)(j:K.length<=64)(c:CntE n G L K D E h):
  Ev T 62 [aB x,.ptr E 0] h (λv h'=>v= .bool (decide (x<0∨(K.length:Int)<=x))/\Fr h h'):=by
 refine bH c_algebra_Count_1 rfl rfl ?_
 obtain⟨a,a,a,a,a,i,a,a,a,a,f,b,b,b⟩:=c.d.ex
 have e:=(cls_open om a f).1
 by_cases a:x<0
 ·have b:=bM a
  simp(disch:=omega)only[go_sem,c_algebra_Count_1,aF,b,fG]
  exact⟨by rw[bM (.inl a)],Fr.refl _⟩
 have b:=bJ a
 simp(disch:=omega)only[go_sem,c_algebra_Count_1,aF,b,H.aG c.g,H.aG i,e]
 refine⟨?_,Fr.refl _⟩
 congr 1
 rw[decide_eq_decide]
 omega
theorem count2_ok (D E i:Nat)(n:Nat)(G:List Nat->Prop)(L:LN)(K:List Nat)(h:H)(q:K.length<=64)(c:CntE n G L K D E h)(hi:i<K.length):
  Ev T 63 [aB i,.ptr E 0] h (λv h'=>RowO h.next K.length (λk=>if k=i then 1 else 0) h' v/\Fr h h'):=by
 refine bH c_algebra_Count_2 rfl rfl ?_
 obtain⟨a,a,a,a,a,p,a,a,a,b,e,a,a,a⟩:=c.d.ex
 have a:=(cls_open om b e).1
 obtain⟨S,b⟩:=JR h.next
 obtain⟨l,j,e,e,m,f⟩:=dN b (rc K.length λ_=> aB 0)
 have m:=λo=>bF (vs:=rc K.length λ_=> aB 0) (off:=i) (by rw[cK];exact hi) o S (aB 1)
 simp(disch:=omega)only[go_sem,c_algebra_Count_2,aF,H.aG c.g,H.aG p,a,mks_zeros h K.length om,b,j,e,m]
 refine⟨⟨S,rfl,om,by show S<l.next;omega,?_⟩,f.set om _⟩
 rw[H.aT,eJ]
 congr 2
 refine aY λa _=>?_
 by_cases e:a=i
 ·rw[aV e,aV e]
 ·rw[aZ e,aZ e]
theorem count3_ok (D E Z i:Nat)(b t:V)(n:Nat)(G:List Nat->Prop)(L:LN)(K:List Nat)(y:List Int)(Y:Nat)(h:H)(B:n<=7)(A:mH n G)(O:eP G L)(p:IsK n G L K)(F:L.length<=5040)(l:K.length<=64)(c:CntE n G L K D E h)(hi:i<K.length)
  (q:h.get Z=some (.cells false [.fn 63 [] [.ptr E 0]])) (P:Z<h.next) (m: ∀v∈y, -(Y:Int)<=v/\v<=Y) (r:Y*5040<=4000000000000000000) (z:y.length=K.length) (e:SI h b y):
  Ev T 65 [b,t,aB i,.ptr E 0,.ptr Z 0] h (λv h'=>RowO h.next K.length (mlF G L K (indL K.length i) y) h' v/\Fr h h'):=by
 refine bH c_algebra_Count_3 rfl rfl ?_
 have j:=e.dJ
 simp(disch:=omega)only[go_sem,c_algebra_Count_3,aF,H.aG c.g,H.aG q]
 have j:=(Fr.refl h).bN (n:=h.next+7) om
 refine (count2_ok D E i n G L K _ l (c.mono j) hi).mono ?_
 rintro N J ⟨k,x⟩
 have F1:=j.trans x
 have f:=c.mono F1
 have j:=k.si.dJ
 simp(disch:=omega)only[go_sem,H.aG f.g]
 have a:=k.si
 have w:(List.range K.length).map (λk=>if k=i then (1:Int) else 0)=indL K.length i:=rfl
 rw[w] at a
 refine (mul_ok D N b n G L K (indL K.length i) y 1 Y J B A O p F l f.d (indL_b _ _) m (by rw[Nat.one_mul];exact r) (indL_len _ _) z a (e.mono F1)).mono ?_
 rintro a a ⟨⟨S,rfl,a,s,u⟩,o⟩
 have a:=F1.next
 simp(disch:=omega)only[go_sem]
 exact⟨⟨S,rfl,om,s,u⟩,F1.trans o⟩
theorem cnt_bad (i x:V)(d:Int)(O:List (List Int))(R:List (List (List Int)))(h:H)(k:ChI h i d O R)(n:d<=7∨64<d)(p:SmallO O)(sr:SmallR R)(m:chkE d O R≠0):
  Ev T 30 [i,x] h (λv h'=>v= .tup [aB 0,aB (chkE d O R)]/\Fr h h'):=by
 have f:=k
 obtain⟨e,c,rfl,B,r⟩:=k
 refine bH c_algebra_Count rfl rfl ?_
 have a:e.one=true:=rL B
 have b:c.one=true:=qZ r
 obtain⟨B,j⟩:=JR h.next
 obtain⟨F,z,r,y,r,l⟩:=dN j [aB d,e,c]
 have q:=bD h (v:= aB d) (u:=e) (w:=c) rfl a b
 simp(disch:=omega)only[go_sem,c_algebra_Count,aF,q,j,z,aS y]
 refine (load_bad _ d O R F (f.mono l) n p sr m).mono ?_
 rintro _ G ⟨rfl,g⟩
 have A:=bM m
 obtain⟨E,a⟩:=JR G.next
 obtain⟨b,b,c,s,c,o⟩:=dN a [.nilp]
 have t:=λc=>bF (vs:= [V.nilp]) (off:=0) (by simp) c E .nilp
 simp(disch:=omega)only[go_sem,a,b,fU (show V.nilp.cells= [V.nilp] from rfl) rfl,s,t,A]
 exact ((l.trans g).trans o).set (by have:=g.next;omega) _
theorem cnt_ok {W0:Nat->Prop}(vc z:V)(l:List Int)(n:Nat)(O:LN)(R:jL)(G:List Nat->Prop)(h:H)(ll:l.length<1000000)(sl:SI h z l)(g:GC W0 h vc n O R G)(L:LN)(hL:cF O R n 0 (cH n)=L):
  Ev T 30 [vc,z] h (λv h'=> ∃K,IsK n G L K/\Fr h h'/\(64<K.length/\v= .tup [aB 0,aB 5]∨K.length<=64/\(5<l.length/\v= .tup [aB 0,aB 4]∨l.length<=5/\((∃x∈l,x<0∨(K.length:Int)<=x)/\v= .tup [aB 0,aB 2]∨ ∃l':List Nat,l=zi l'/\(∀i∈l',i<K.length)/\v= .tup [aB ((cntL G L K l').getD 0 0),aB 0])))):=by
 have a1:=g
 obtain⟨N,vR,rfl,sO,B⟩:=g.ch
 refine bH c_algebra_Count rfl rfl ?_
 have e:N.one=true:=rL sO
 have y:vR.one=true:=qZ B
 have n7:=g.n7
 have hG:=g.grp
 obtain⟨Ee,B⟩:=eE g.grp g.isc
 have a2:=szF_fact g
 rw[hL] at Ee B
 have o:=sl.lens
 obtain⟨B,hB⟩:=JR h.next
 obtain⟨h1,e1,B,g1,B,W⟩:=dN hB [aB n,N,vR]
 have bx:=bD h (v:= aB n) (u:=N) (w:=vR) rfl e y
 simp(disch:=omega)only[go_sem,c_algebra_Count,aF,bx,hB,e1,aS g1]
 refine (load_ok _ n O R G h1 (a1.mono W) L hL).mono ?_
 rintro _ h2 ⟨K,m,f2,⟨a,rfl⟩|⟨a,D,rfl,U⟩⟩
 ·obtain⟨E,r⟩:=JR h2.next
  obtain⟨h3,F,n3,J,o3,f3⟩:=dN r [.nilp]
  have Q:=λc=>bF (vs:= [V.nilp]) (off:=0) (by simp) c E .nilp
  simp(disch:=omega)only[go_sem,r,F,fU (show V.nilp.cells= [V.nilp] from rfl) rfl,J,Q]
  refine bB (λ_=>?_) (λj=>(j (by decide)).elim)
  simp(disch:=omega)only[go_sem]
  exact⟨K,m,((W.trans f2).trans f3).set (by have:=f2.next;omega) _,.inl ⟨a,trivial⟩⟩
 obtain⟨E,r⟩:=JR h2.next
 obtain⟨h3,F,n3,J,o3,f3⟩:=dN r [.nilp]
 obtain⟨A,e,y,g4,o4⟩:=mS h3 E [.ptr D 0]
 have Q:dQ (some (.cells false [V.nilp])) h3 E 0 [.ptr D 0]=some A:=by rw[bF (by simp),←e];rfl
 have e:Fr h2 A:=⟨om,λq hq=>by rw[o4 q om,o3 q om]⟩
 have Y:=(W.trans f2).trans e
 have p:CntE n G L K D E A:=⟨U.mono e,g4,om⟩
 simp(disch:=omega)only[go_sem,r,F,fU (show (V.ptr D 0).cells= [V.ptr D 0] from rfl) rfl,J,Q]
 refine bB (λj=>(j rfl).elim) (λ_=>?_)
 by_cases r:(5:Int)<(l.length:Int)
 ·have e:=bM r
  simp(disch:=omega)only[go_sem,o,e]
  exact⟨K,m,Y,.inr ⟨a,.inl ⟨om,trivial⟩⟩⟩
 have e:=bJ r
 simp(disch:=omega)only[go_sem,o,e]
 refine (contains_gen 62 [.ptr E 0] z l A (λx=>decide (x<0∨(K.length:Int)<=x)) ll (sl.mono Y) (λi hi c f=>count1_ok D E _ n G L K c a (p.mono f))).mono ?_
 rintro _ k ⟨rfl,f5⟩
 have F5:=Y.trans f5
 cases hany:l.any (λx=>decide (x<0∨(K.length:Int)<=x)) with
 |true=>
  simp(disch:=omega)only[go_sem];obtain⟨x,o,e⟩:=List.any_eq_true.1 hany;exact⟨K,m,F5,.inr ⟨a,.inr ⟨om,.inl ⟨⟨x,o,by simpa using e⟩,trivial⟩⟩⟩⟩
 |false=>
  have e: ∀x∈l,0<=x/\x<(K.length:Int):=λx o=>by
   have:=List.any_eq_false.1 hany x o;simp only[Co] at this;omega
  obtain⟨l',b⟩: ∃l':List Nat,l=zi l':=⟨l.map Int.toNat,by
   unfold zi;rw[List.map_map];refine (List.map_id' l).symm.trans (yZ λx o=>?_);have:=e x o
   show x=((x.toNat:Nat):Int)
   omega⟩
  have t: ∀i∈l',i<K.length:=λi hi=>by
   have:=e (i:Int) (by rw[b];exact pU.2 ⟨i,hi,rfl⟩);omega
  have P:=p.mono f5;obtain⟨Z,hZ⟩:=JR k.next;obtain⟨e,e6,o,g6,o6,o⟩:=dN hZ [.nilf];obtain⟨h7,o,p,g7,o7⟩:=mS e Z [.fn 63 [] [.ptr E 0]];have a0:dQ (some (.cells false [V.nilf])) e Z 0 [.fn 63 [] [.ptr E 0]]=some h7:=by rw[bF (by simp),←o];rfl
  have e:Fr k h7:=⟨om,λq hq=>by rw[o7 q om,o6 q om]⟩
  have s:=P.mono e;have F7:=F5.trans e;have Kpos:0<K.length:=(K_first hG Ee m).1;simp(disch:=omega)only[go_sem,hZ,e6,fU (show (V.fn 63 [] [.ptr E 0]).cells= [V.fn 63 [] [.ptr E 0]] from rfl) rfl,g6,a0,H.aG g7];refine (count2_ok D E 0 n G L K h7 a s Kpos).mono ?_;rintro y e ⟨k,o⟩;have p:=s.mono o;have r:e.get Z=some (.cells false [.fn 63 [] [.ptr E 0]]):=by rw[o.get Z om];exact g7
  have q:=F7.trans o;simp(disch:=omega)only[go_sem];refine (fold_gen 65 [.ptr E 0,.ptr Z 0] z y l e ll (λi v c=>SI c v (cntL G L K (l'.take i))/\Fr e c) (λi v c s=>sl.mono (q.trans s.2)) ⟨?_,Fr.refl _⟩ ?_).mono ?_
  ·exact k.si
  ·rintro i v c hi ⟨sv,f⟩
   have e:i<l'.length:=by rw[b,aQ] at hi;exact hi
   have s:l.getD i 0=((l'.getD i 0:Nat):Int):=by rw[b];exact gd_map (λk:Nat=>(k:Int)) (d:=0) e
   rw[s]
   have k:5040^i*5040<=4000000000000000000:=by
    have:i<=4:=om
    exact jK (Nat.mul_le_mul_right _ (Nat.pow_le_pow_right (by decide) this)) (by decide)
   refine (count3_ok D E Z (l'.getD i 0) v _ n G L K (cntL G L K (l'.take i)) (5040^i) c n7 hG Ee m om a (p.mono f) (t _ (getD_mem e)) (by rw[f.get Z (by have:=o.next;omega)];exact r) (by have:=o.next;have:=f.next;omega) (cntL_b G L K l' om i om) k (cntL_len G L K l' i om) sv).mono ?_;rintro c h' ⟨c,k⟩;refine⟨?_,f.trans k⟩;rw[cntL_take G L K l' e];exact c.si
  ·rintro v k ⟨sv,o⟩
   have el:l.length=l'.length:=by rw[b,aQ]
   rw[el,List.take_length] at sv;obtain⟨id,off,e,c,j⟩:=sv.open;have f:(cntL G L K l').length=K.length:=by have:=cntL_len G L K l' l'.length (eS _);rwa [List.take_length] at this
   rw[f] at e c j;have c:k.cell id off=some (aB ((cntL G L K l').getD 0 0)):=j 0 Kpos;simp(disch:=omega)only[go_sem,e.ixa,c];exact⟨K,m,q.trans o,.inr ⟨a,.inr ⟨om,.inr ⟨l',b,t,rfl⟩⟩⟩⟩
section
variable {n:Nat} {G:List Nat->Prop} {L:LN} {K:List Nat} (hG:mH n G) (E:eP G L) (ik:IsK n G L K)
include hG E ik
end
set_option maxHeartbeats 64000000
set_option maxHeartbeats 64000000
theorem rcnt_bad (g t:V)(d:Int)(O:List (List Int))(R:List (List (List Int)))(h:H)(j:ChI h g d O R)(m:d<=7∨64<d)(n:SmallO O)(sr:SmallR R)(l:chkE d O R≠0):
  Ev T 31 [g,t] h (λv h'=>v= .tup [aB 0,aB (chkE d O R)]/\Fr h h'):=by
 have f:=j
 obtain⟨e,c,rfl,z,p⟩:=j
 refine bH c_ref27_Count rfl rfl ?_
 have a:e.one=true:=rL z
 have b:c.one=true:=qZ p
 obtain⟨B,i⟩:=JR h.next
 obtain⟨A,x,p,q,p,k⟩:=dN i [aB d,e,c]
 have o:=bD h (v:= aB d) (u:=e) (w:=c) rfl a b
 simp(disch:=omega)only[go_sem,c_ref27_Count,aF,o,i,x,aS q]
 refine (rof27_bad _ d O R A (f.mono k) m n sr l).mono ?_
 rintro _ G ⟨rfl,e⟩
 obtain⟨P,a⟩:=JR G.next
 obtain⟨b,c,f,r,f,i⟩:=dN a [.aD,.aD,.aD]
 obtain⟨o,s,i,i,i⟩:=mS b P [.aD,.aD,.aD]
 have F:Fr h o:=(k.trans e).trans ⟨om,λq e=>by rw[i q om,f q om]⟩
 have y:=bM l
 simp(disch:=omega)only[go_sem,a,c,dK b P 0 (v:= .aD) (u:= .aD) (w:= .aD) rfl rfl rfl,r,cW,s,y]
 exact F
theorem rcnt_ok {W0:Nat->Prop}(vc:V)(vl:V)(l:List Int)(n:Nat)(O:LN)(R:jL)(G:List Nat->Prop)(h:H)(ll:l.length<1000000)(sl:SI h vl l)(gc:GC W0 h vc n O R G)(L:LN)(hL:cF O R n 0 (cH n)=L):
  Ev T 31 [vc,vl] h (λv h'=> ∃K,IsK n G L K/\Fr h h'/\(64<K.length/\v= .tup [aB 0,aB 5]∨K.length<=64/\(5<l.length/\v= .tup [aB 0,aB 4]∨l.length<=5/\((∃x∈l,x<0∨(K.length:Int)<=x)/\v= .tup [aB 0,aB 2]∨ ∃l':List Nat,l=zi l'/\(∀i∈l',i<K.length)/\v= .tup [aB ((cntL G L K l').getD 0 0),aB 0])))):=by
 have b0:=gc
 obtain⟨vO,vR,rfl,sO,B⟩:=gc.ch
 refine bH c_ref27_Count rfl rfl ?_
 have a8:vO.one=true:=rL sO
 have f:vR.one=true:=qZ B
 have n7:=gc.n7
 have B:=gc.n0
 have hG:=gc.grp
 obtain⟨E,ll⟩:=eE gc.grp gc.isc
 have B:=szF_fact gc
 rw[hL] at E ll
 have hl:L.length<=5040:=om
 obtain⟨B,hB⟩:=JR h.next
 obtain⟨h1,A,B,g1,B,f1⟩:=dN hB [aB n,vO,vR]
 have bx:=bD h (v:= aB n) (u:=vO) (w:=vR) rfl a8 f
 simp(disch:=omega)only[go_sem,c_ref27_Count,aF,bx,hB,A,aS g1]
 refine (rof27_ok _ n O R G h1 (b0.mono f1) L hL).mono ?_
 rintro _ h2 ⟨K,ik,f2,⟨o,rfl⟩|⟨o,vL,vC,vM,rfl,rg⟩⟩
 ·obtain⟨P,hP⟩:=JR h2.next
  obtain⟨h3,e3,n3,g3,o3,f3⟩:=dN hP [.aD,.aD,.aD]
  obtain⟨U,e4,n4,g4,o4⟩:=mS h3 P [.aD,.aD,.aD]
  have F:Fr h U:=(f1.trans f2).trans ⟨om,λq hq=>by rw[o4 q om,o3 q om]⟩
  simp(disch:=omega)only[go_sem,hP,e3,dK h3 P 0 (v:= .aD) (u:= .aD) (w:= .aD) rfl rfl rfl,g3,cW,e4]
  refine bB (λ_=>?_) (λhc=>(hc (by decide)).elim)
  simp(disch:=omega)only[go_sem]
  exact⟨K,ik,F,.inl ⟨o,trivial⟩⟩
 obtain⟨oL,f,B⟩:=rg.one
 obtain⟨P,hP⟩:=JR h2.next
 obtain⟨h3,e3,n3,g3,o3,f3⟩:=dN hP [.aD,.aD,.aD]
 obtain⟨U,e4,n4,g4,o4⟩:=mS h3 P [vL,vC,vM]
 have a6:Fr h2 U:=⟨om,λq hq=>by rw[o4 q om,o3 q om]⟩
 have F4:=(f1.trans f2).trans a6
 simp(disch:=omega)only[go_sem,hP,e3,dK h3 P 0 (v:=vL) (u:=vC) (w:=vM) oL f B,g3,cW,e4]
 refine bB (λhc=>(hc rfl).elim) (λ_=>?_)
 have rg:=rg.fr a6
 obtain⟨y,f,f,f,B,cC⟩:=rg.cls om
 obtain⟨k0,_⟩:=K_first hG E ik
 have gP: ∀c,Fr U c->c.get P=some (.cells false [vL,vC,vM]):=λc f=>by rw[f.get P om];exact g4
 have m:=sl.lens
 have a6:=sl.dJ
 by_cases h5:(5:Int)<(l.length:Int)
 ·have d1:=bM h5
  simp(disch:=omega)only[go_sem,m,d1]
  exact⟨K,ik,F4,.inr ⟨o,.inl ⟨om,trivial⟩⟩⟩
 have d1:=bJ h5
 obtain⟨r,Q⟩:=JR K.length
 rw[Q] at y B cC k0
 obtain⟨S,B⟩:=JR U.next
 obtain⟨h6,e6,n6,g6,o6,f6⟩:=dN B (rc r λ_=> aB 0)
 obtain⟨h7,e7,a6,g7,o7⟩:=mS h6 S (rc r λk=> aB (if k=0 then 1 else 0))
 have p7:dQ (some (.cells false (rc r λ_=> aB 0))) h6 S 0 [aB 1]=some h7:=by
  rw[bF (by rw[cK];exact k0),eJ,←e7];congr 4;refine aY λa _=>?_
  by_cases e:a=0
  ·rw[aV e,aV e]
  ·rw[aZ e,aZ e]
 have a2:Fr U h7:=⟨om,λq hq=>by rw[o7 q om,o6 q om]⟩
 have F7:=F4.trans a2
 obtain⟨a7,a0,J,a1,cl⟩:=sl.open
 have a5: ∀c,Fr h c-> ∀i,i<l.length->c.cell a7 (a0+i)=some (aB (l.getD i 0)):=λc f i hi=>by rw[f.cell (a1 om)];exact cl i hi
 simp(disch:=omega)only[go_sem,m,d1,H.aG g4,y,mks_zeros U r om,B,e6,g6,p7]
 refine aH (λk' b c=> ∃(i:Nat),(∃g:Nat->V,b= [g 0,vl,g 2,g 3,g 4,.ptr P 0,g 6,.sl S 0 r (.kn r),aB i,g 9,g 10,g 11,g 12,g 13,g 14,g 15])/\i<=l.length/\(∀j,j<i->0<=l.getD j 0/\l.getD j 0<(r:Int))/\Fr h7 c/\k'=l.length-i) l.length
  ⟨0,aA rfl,fF _,λj hj=>om,Fr.refl _,rfl⟩ ?_
 rintro k' b c ⟨i,⟨g,rfl⟩,hi,a3,F,rfl⟩
 have N:=F7.trans F
 by_cases z:(i:Int)<(l.length:Int)
 case neg=>
  have A:=bJ z;obtain rfl:i=l.length:=om
  have F8:=F
  have Z: ∀x∈l,0<=x/\x<(r:Int):=λx hx=>by
   obtain⟨j,hj,rfl⟩:=uK.1 hx;have:=a3 j hj;rwa [zB,eV hj] at this
  obtain⟨l',Y⟩: ∃l':List Nat,l=zi l':=⟨l.map Int.toNat,by
   unfold zi;rw[List.map_map];refine (List.map_id' l).symm.trans (yZ λx hx=>?_);have:=Z x hx
   show x=((x.toNat:Nat):Int)
   omega⟩
  have a4: ∀i∈l',i<K.length:=λi hi=>by
   have:=Z (i:Int) (by rw[Y];exact pU.2 ⟨i,hi,rfl⟩);omega
  have el:l.length=l'.length:=by rw[Y,aQ]
  have f: ∀i,indL r i=(List.range r).map λk=>if k=i then (1:Int) else 0:=λi=>rfl
  have b1:c.get S=some (.cells false (rc r λk=> aB (if k=0 then 1 else 0))):=by rw[F8.get S om];exact g7
  have s0:SI c (.sl S 0 r (.kn r)) (cntL G L K (l'.take 0)):=by
   have:RowO 0 r (λk=>if k=0 then 1 else 0) c (.sl S 0 r (.kn r)):=⟨S,rfl,fF _,by have:=F8.next;omega,b1⟩
   have:=this.si;rw[List.take_zero];unfold cntL;rw[List.foldl_nil,Q];exact this
  simp(disch:=omega)only[go_sem,m,A];refine aH (λk' b c=> ∃(i:Nat) (v7:V),(∃g:Nat->V,b= [g 0,vl,g 2,g 3,g 4,.ptr P 0,g 6,v7,g 8,aB i,g 10,g 11,g 12,g 13,g 14,g 15])/\i<=l.length/\SI c v7 (cntL G L K (l'.take i))/\Fr h7 c/\k'=l.length-i) l.length
   ⟨0,_,aA rfl,fF _,s0,F8,rfl⟩ ?_
  rintro k' b c ⟨i,v7,⟨g,rfl⟩,hi,s7,F,rfl⟩;have N:=F7.trans F;have t:Fr U c:=a2.trans F
  by_cases z:(i:Int)<(l.length:Int)
  case neg=>
   have A:=bJ z;obtain rfl:i=l.length:=om
   rw[el,List.take_length] at s7;obtain⟨id,f,g,b,hc⟩:=s7.open;have B:(cntL G L K l').length=K.length:=by have:=cntL_len G L K l' l'.length (eS _);rwa [List.take_length] at this
   rw[B] at g b hc;have b:c.cell id f=some (aB ((cntL G L K l').getD 0 0)):=hc 0 om;simp(disch:=omega)only[go_sem,m,A,g.ixa,b];exact⟨K,ik,N,.inr ⟨o,.inr ⟨om,.inr ⟨l',Y,a4,rfl⟩⟩⟩⟩
  have A:=bM z;have W:i<l.length:=om
  have c1:=a5 c N i W;have b:l.getD i 0=((l'.getD i 0:Nat):Int):=by rw[Y];exact gd_map (λk:Nat=>(k:Int)) (d:=0) om
  rw[b] at c1;have b:=a4 _ (getD_mem (d:=0) (show i<l'.length by omega));have step:=cntL_take G L K l' (k:=i) om;obtain⟨a,ha⟩:=JR (l'.getD i 0);rw[ha] at c1 b step;obtain⟨Z,hZ⟩:=JR c.next;obtain⟨f,e9,b,g9,P,B⟩:=dN hZ (rc r λ_=> aB 0);obtain⟨s,b,g,a9,g⟩:=mS f Z (rc r λk=> aB (if k=a then 1 else 0))
  have b2:dQ (some (.cells false (rc r λ_=> aB 0))) f Z a [aB 1]=some s:=by
   rw[bF (by rw[cK];omega),eJ,←b];congr 4;refine aY λb _=>?_
   by_cases e:b=a
   ·rw[aV e,aV e]
   ·rw[aZ e,aZ e]
  have p:Fr c s:=⟨om,λq hq=>by rw[g q om,P q om]⟩
  have c9:f.cell a7 (a0+i)=some (aB a):=by rw[B.cell (by have:=a1 om;have:=N.next;omega)];exact c1
  have sy:SI s (.sl Z 0 r (.kn r)) (indL K.length a):=by
   have:RowO 0 r (λk=>if k=a then 1 else 0) s (.sl Z 0 r (.kn r)):=⟨Z,rfl,fF _,om,a9⟩
   rw[Q];exact this.si
  have b:5040^i*5040<=4000000000000000000:=by
   have:i<=4:=om
   exact jK (Nat.mul_le_mul_right _ (Nat.pow_le_pow_right (by decide) this)) (by decide)
  simp(disch:=omega)only[go_sem,m,A,H.aG (gP c t),y,mks_zeros c r om,hZ,e9,J.ixa,c9,g9,b2,aS (gP s (t.trans p))];refine (rmul27_ok vL vC vM _ v7 n G L K (indL K.length a) (cntL G L K (l'.take i)) 1 (5040^i) s n7 hG E ik hl o (rg.fr (t.trans p)) (indL_b _ _) (cntL_b G L K l' hl i om) (by rw[Nat.one_mul];exact b) (indL_len _ _) (cntL_len G L K l' i om) sy (s7.mono p)).mono ?_;rintro f b ⟨ro,b3⟩;simp(disch:=omega)only[go_sem];rw[dY i];exact⟨l.length-(i+1),om,i+1,f,aA rfl,om,by rw[step];exact ro.si,F.trans (p.trans b3),rfl⟩
 have A:=bM z
 have W:i<l.length:=om
 have c1:=a5 c N i W
 have g:l.getD i 0∈l:=getD_mem W
 obtain⟨a,ha⟩:=JR (l.getD i 0)
 rw[ha] at c1 g
 have t:Fr U c:=a2.trans F
 by_cases f:a<0
 ·have b:=bM f
  simp(disch:=omega)only[go_sem,m,A,J.ixa,c1,b,fG]
  exact⟨K,ik,by first|exact N|exact N.bN om,.inr ⟨o,.inr ⟨om,.inl ⟨⟨a,g,.inl f⟩,trivial⟩⟩⟩⟩
 have b:=bJ f
 by_cases k:(r:Int)<=a
 ·have f:=bM k
  simp(disch:=omega)only[go_sem,m,A,J.ixa,c1,b,H.aG (gP c t),y,f]
  exact⟨K,ik,by first|exact N|exact N.bN om,.inr ⟨o,.inr ⟨om,.inl ⟨⟨a,g,.inr (by rw[Q];exact k)⟩,trivial⟩⟩⟩⟩
 have f:=bJ k
 simp(disch:=omega)only[go_sem,m,A,J.ixa,c1,b,H.aG (gP c t),y,f]
 rw[dY i]
 refine⟨l.length-(i+1),om,i+1,aA rfl,om,λj hj=>?_,by first|exact F|exact F.bN om,rfl⟩
 by_cases e:j=i
 ·subst e;rw[ha];exact⟨om,om⟩
 ·exact a3 j om
section
variable {n i p:Nat} {G:List Nat->Prop} {o:List Nat} {r:LN}
structure ChP (n:Nat)(G:List Nat->Prop)(i p:Nat)(o:List Nat)(r:LN):Prop where
 asc:o.Pairwise (· < ·)
 mem: ∀q,q∈o↔q<p/\ ∃x,G x/\Fix i x/\x.getD i 0=q
 len:r.length=o.length
 rep: ∀t,t<o.length->yR n G i (o.getD t 0) (r.getD t [])
theorem ChP.start (n:Nat)(G:List Nat->Prop)(i:Nat):ChP n G i 0 [] []:=⟨.nil,λq=>by simp,rfl,λt h=>by cases h⟩
theorem ChP.skip (c:ChP n G i p o r)(h: ∀x,G x->Fix i x->x.getD i 0≠p):ChP n G i (p+1) o r:=
 ⟨c.asc,λq=>by
  rw[c.mem];constructor
  ·rintro⟨h1,a⟩;exact⟨om,a⟩
  ·rintro⟨h1,x,gx,fx,ex⟩
   refine⟨?_,x,gx,fx,ex⟩;rcases Nat.lt_or_ge q p with a|a
   ·exact a
   ·exact absurd om (h x gx fx),c.len,c.rep⟩
theorem ChP.step (c:ChP n G i p o r){x:List Nat}(d:yR n G i p x):ChP n G i (p+1) (o++ [p]) (r++ [x]):=by
 refine⟨List.pairwise_append.2 ⟨c.asc,List.pairwise_singleton _ _,λa k b j=>?_⟩,λq=>?_,by rw[iZ,iZ,c.len];rfl,λt g=>?_⟩
 ·rw[List.mem_singleton.1 j];exact ((c.mem a).1 k).1
 ·rw[sZ,c.mem,List.mem_singleton]
  constructor
  ·rintro (⟨h,f⟩|rfl)
   ·exact⟨om,f⟩
   ·exact⟨om,x,d.mem,d.fix,d.maps⟩
  ·rintro⟨h,f⟩
   rcases Nat.lt_or_ge q p with a|a
   ·exact .inl ⟨a,f⟩
   ·exact .inr om
 ·by_cases e:t=o.length
  ·subst e
   have b:(o++ [p]).getD o.length 0=p:=by simp [List.getD]
   have a:(r++ [x]).getD o.length []=x:=by rw[←c.len];exact getD_app_new
   rw[b,a];exact d
  ·have a:t<o.length:=by rw[iZ] at g;simp at g;omega
   have b:(o++ [p]).getD t 0=o.getD t 0:=by simp [List.getD,wE a]
   rw[b,getD_app_old (by rw[c.len];exact a)];exact c.rep t a
theorem ChP.le (c:ChP n G i p o r):o.length<=p:=by
 have nd:o.Nodup:=c.asc.imp λh=>om
 have:=List.Nodup.length_le_of_subset nd (l₂:=List.range p) λq a=>Db.2 ((c.mem q).1 a).1
 rwa [zU] at this
theorem first_rep {A:LN}(E:eP G A){k:Nat}(c:k<A.length)(e:Fix i (A.getD k []))(h2:(A.getD k []).getD i 0=p)(h3: ∀k',k'<k-> ¬((A.getD k' []).getD i 0=p/\Fix i (A.getD k' []))):yR n G i p (A.getD k []):=by
 refine⟨el_mem E c,e,h2,λy j f d=>?_⟩;obtain⟨m,b,g⟩:=uK.1 ((E.mem y).2 j);have a:A.getD m []=y:=by rw[zB,eV b];exact g
 rcases Nat.lt_trichotomy m k with h|h|h
 ·exact absurd ⟨by rw[a];exact d,by rw[a];exact f⟩ (h3 m h)
 ·subst h;rw[a];exact .inl rfl
 ·rw[←a]
  have:=Ta.1 E.asc k m c b h;rw[zB,eV c,zB,eV b];exact .inr this
end
set_option maxHeartbeats 64000000
def Two (b:Nat)(vo vr:V)(q:Nat):Prop:=q<b∨BlkS vo q∨BlkS vr q
theorem chainOf_ok (vA:V)(n:Nat)(G:List Nat->Prop)(A:LN)(h:H)(h0:0<n)(hn:n<=7)(hG:mH n G)(E:eP G A)(hA:A.length<=5040)(sA:SP h vA A):
  Ev T 19 [aB n,vA] h (λv h'=> ∃O R',ChW (λid=>id<h.next) h' v n O R'/\dW n G O R'/\Fr h h'):=by
 refine bH c_kit_ChainOf rfl rfl ?_
 obtain⟨c1,eA,e3,b4,wA,b3,cA⟩:=sp_open sA
 obtain⟨m,hm⟩:=JR A.length
 rw[hm] at c1 b3 cA
 obtain⟨B,hB⟩:=JR h.next
 have bl:kY [aB 0,.aD,.aD] [(0,1,aB n)]=some (.agg [aB n,.aD,.aD]):=by
  have e1:putAt [aB 0,.aD,.aD] 0 [aB n]=some [aB n,.aD,.aD]:=by simp [putAt]
  simp [kY,gI,e1,V.cells,V.one]
 obtain⟨ha,ea,na,ga,oa,fa⟩:=dN hB [aB 0,.aD,.aD]
 obtain⟨h1,e1,n1,g1,o1,f4⟩:=dN na [aB 0,.aD,.aD]
 obtain⟨l,Z,n2,g2,o2⟩:=mS h1 (B+1) [aB n,.aD,.aD]
 have f2:Fr h l:=⟨om,λq hq=>by rw[o2 q om,o1 q om,oa q om]⟩
 have i4:l.next=B+2:=om
 have d5:l.get B=some (.cells false [aB 0,.aD,.aD]):=by rw[o2 B om,o1 B om];exact ga
 simp(disch:=omega)only[go_sem,c_kit_ChainOf,aF,hB,ea,na,e1,bl,dK h1 (B+1) 0 (v:= aB n) (u:= .aD) (w:= .aD) rfl rfl rfl,g1,cW,Z]
 refine aH (λQ y f=> ∃(i:Nat) (W:Nat->Prop) (O:LN) (R':jL) (vO R:V) (d0 c0:List V),(∃g:Nat->V,y= [aB n,vA,.ptr B 0,.ptr (B+1) 0,aB i,g 5,g 6,g 7,g 8,g 9,g 10,g 11,g 12,g 13,g 14,g 15])/\i<=n/\CAcc h f (B+1) B W n O R' vO R d0 c0/\
   f.get B=some (.cells false [aB 0,.aD,.aD])/\O.length=i/\R'.length=i/\(∀j,j<i->ChP n G j n (O.getD j []) (R'.getD j []))/\Q=n-i) n
  ⟨0,_, [], [],_,_,_,_,aA rfl,fF _,CAcc.start om om om om om f2 g2,d5,rfl,rfl,λj Y=>om,rfl⟩ ?_
 clear f2 g2 d5 n2 i4 o2 Z g1 o1 e1 n1 f4 ga oa ea na fa
 rintro Q y l ⟨i,W,O,R',vO,R,d0,c0,⟨g,rfl⟩,hi,AC,gB,lO,lR,hC,rfl⟩
 by_cases c8:(i:Int)<(n:Int)
 case neg=>
  have e1:=bJ c8;obtain rfl:i=n:=om
  have hr:=aS AC.get;have nB:=AC.fr.next;simp(disch:=omega)only[go_sem,e1,hr,dK l B 0 (v:= aB i) (u:=vO) (w:=R) rfl (SV.dG AC.oO.sv).2.1 (SV.dG AC.oR.sv).2.1,gB,cW];have g0:=aS (h:=l.set B (some (.cells false [aB i,vO,R]))) (H.aT ..);have fB:Fx (· =B) l (l.set B (some (.cells false [aB i,vO,R]))):=Fx.set l (W:=(· =B)) rfl _;simp(disch:=omega)only[go_sem,g0]
  obtain⟨h3,e9⟩: ∃h3,h3=l.set B (some (.cells false [aB i,vO,R])):=⟨_,rfl⟩
  rw[←e9] at fB ⊢;have A3:=AC.box e9;refine⟨O,R',by rw[←hB];exact A3.chw,⟨lO,lR,λj Y=>(hC j Y).asc,λj Y p=>?_,λj Y=>(hC j Y).len,λj Y=>(hC j Y).rep⟩,A3.fr⟩;rw[(hC j Y).mem];constructor
  ·exact λh=>h.2
  ·rintro⟨x,gx,fx,ex⟩
   exact⟨by rw[←ex];exact (hG.isP gx).dZ Y,x,gx,fx,ex⟩
 have e1:=bM c8
 have i7:i<n:=om
 have c8:=sA.mono AC.fr
 simp(disch:=omega)only[go_sem,e1]
 obtain⟨h4,i2⟩:=JR l
 subst i2
 refine bX (λvs f=> ∃(F t:V) (q:List Nat) (r:LN),(∃g:Nat->V,vs= [aB n,vA,.ptr B 0,.ptr (B+1) 0,aB i,F,t,g 7,g 8,g 9,g 10,g 11,g 12,g 13,g 14,g 15])/\PV W f F q/\PL W f t r/\ChP n G i n q r/\Fr l f) ?_ ?_
 ·refine aH (λQ vs f=> ∃(p:Nat) (F t:V) (ws:List V) (q:List Nat) (r:LN),(∃g:Nat->V,vs= [aB n,vA,.ptr B 0,.ptr (B+1) 0,aB i,F,t,aB p,g 8,g 9,g 10,g 11,g 12,g 13,g 14,g 15])/\p<=n/\Own f F 1 (ints (zi q)) l.next/\Own f t 1 ws l.next/\PVs (Two l.next F t) f ws r/\(∀x,BlkS F x-> ¬BlkS t x)/\ChP n G i p q r/\Fr l f/\Q=n-p) n
   ⟨0,.aD,.aD, [], [], [],aA rfl,fF _,Own.aD _ _ _,Own.aD _ _ _,trivial,(λ_ ⟨_,_,_,e⟩=>by cases e),ChP.start n G i,Fr.refl _,rfl⟩ ?_
  rintro Q y J ⟨p,F,t,ws,q,r,⟨g,rfl⟩,hp,oo,ow,U,dis,cp,f5,rfl⟩
  by_cases b6:(p:Int)<(n:Int)
  case neg=>
   have d2:=bJ b6;obtain rfl:p=n:=om
   simp(disch:=omega)only[go_sem,d2];refine⟨F,t,q,r,aA rfl,⟨oo.sv,?_⟩,⟨ws,ow.sv,?_,U.weak (λid _ h=> .inl (AC.wb id h)),Own.capOk ow⟩,cp,f5⟩
   ·cases F with
    |sl id s m c=>exact λh=>by have:=(oo.in _ _ _ _ rfl).2.1;have:=AC.wb id h;omega
    |_=>trivial
   ·cases t with
    |sl id s m c=>exact λh=>by have:=(ow.in _ _ _ _ rfl).2.1;have:=AC.wb id h;omega
    |_=>trivial
  have d2:=bM b6
  have b6:p<n:=om
  simp(disch:=omega)only[go_sem,d2]
  refine loop_end (λvs f=> ∃(F t:V) (ws:List V) (q:List Nat) (r:LN),(∃g:Nat->V,vs= [aB n,vA,.ptr B 0,.ptr (B+1) 0,aB i,F,t,aB p,g 8,g 9,g 10,g 11,g 12,g 13,g 14,g 15])/\Own f F 1 (ints (zi q)) l.next/\Own f t 1 ws l.next/\PVs (Two l.next F t) f ws r/\(∀x,BlkS F x-> ¬BlkS t x)/\ChP n G i (p+1) q r/\Fr l f) ?_ ?_
  ·refine aH (λQ vs f=> ∃(k:Nat),(∃g:Nat->V,vs= [aB n,vA,.ptr B 0,.ptr (B+1) 0,aB i,F,t,aB p,aB k,g 9,g 10,g 11,g 12,g 13,g 14,g 15])/\k<=m/\(∀Q,Q<k-> ¬((A.getD Q []).getD i 0=p/\Fix i (A.getD Q [])))/\Own f F 1 (ints (zi q)) l.next/\Own f t 1 ws l.next/\PVs (Two l.next F t) f ws r/\Fr l f/\Q=m-k) m
    ⟨0,aA rfl,fF _,λQ h=>om,oo,ow,U,f5,rfl⟩ ?_
   clear oo ow U f5
   rintro Q y h6 ⟨k,⟨g',rfl⟩,K,b9,oo,ow,U,f6,rfl⟩
   by_cases e4:(k:Int)<(m:Int)
   case neg=>
    have d3:=bJ e4;obtain rfl:k=m:=om
    simp(disch:=omega)only[go_sem,c1,d3];refine⟨F,t,ws,q,r,aA rfl,oo,ow,U,dis,cp.skip λx gx fx ex=>?_,f6⟩;obtain⟨j,Y,ej⟩:=uK.1 ((E.mem x).2 gx);have b6:A.getD j []=x:=by rw[zB,eV Y];exact ej
    exact b9 j om ⟨by rw[b6];exact ex,by rw[b6];exact fx⟩
   have d3:=bM e4
   have b6:k<m:=om
   obtain⟨bA,c2,sx⟩:=cA k b6
   have F6:=AC.fr.trans f6
   generalize wA.getD k V.undef=vx at c2 sx
   have X:=el_isP hG E (show k<A.length by omega)
   obtain⟨x,hx⟩:=JR (A.getD k [])
   rw[hx] at sx X
   have cx:h6.cell e3 (b4+k)=some vx:=by rw[F6.cell bA];exact c2
   obtain⟨idx,b6,c4,c8,d0⟩:=(sx.mono F6).open
   have d1:(zi x).length=n:=by rw[aQ,X.len]
   rw[d1] at c4 c8 d0
   have c9: ∀j,j<n->h6.cell idx (b6+j)=some (aB (x.getD j 0:Nat)):=λj Y=>by
    rw[d0 j Y];congr 2;simp [zi,X.len,Y]
   simp(disch:=omega)only[go_sem,c1,d3,b3.ixa,cx,c4.ixa,c9 i i7]
   refine bX (λvs f=>f=h6/\ ∃b:Bool,(∃g:Nat->V,vs= [aB n,vA,.ptr B 0,.ptr (B+1) 0,aB i,F,t,aB p,aB k,.bool b,g 10,g 11,g 12,g 13,g 14,g 15])/\(b=true↔x.getD i 0=p/\Fix i x)) ?_ ?_
   ·refine aH (λQ vs f=>f=h6/\ ∃(j:Nat) (b:Bool),(∃g:Nat->V,vs= [aB n,vA,.ptr B 0,.ptr (B+1) 0,aB i,F,t,aB p,aB k,.bool b,aB j,g 11,g 12,g 13,g 14,g 15])/\j<=i/\(b=true↔x.getD i 0=p/\Fix j x)/\Q=i-j) i
     ⟨rfl,0,_,aA rfl,fF _,by rw[Co];exact⟨λh=>⟨om,λj Y=>om⟩,λh=>by rw[h.1]⟩,rfl⟩ ?_
    rintro Q y f ⟨rfl,j,b,⟨g,rfl⟩,Y,hb,rfl⟩
    cases b with
    |false=>
     simp(disch:=omega)only[go_sem,fG];refine⟨false,aA rfl,⟨λh=>(by cases h),λh=>?_⟩⟩;exact hb.2 ⟨h.1,λj' g5=>h.2 j' om⟩
    |true=>
     have b0:=hb.1 rfl
     by_cases d9:(j:Int)<(i:Int)
     ·have d4:=bM d9
      simp(disch:=omega)only[go_sem,d4,b3.ixa,cx,c4.ixa,c9 j om];rw[dY j];refine⟨i-(j+1),om,j+1,_,aA rfl,om,?_,rfl⟩;rw[Co];constructor
      ·intro h
       refine⟨b0.1,λj' g5=>?_⟩
       by_cases e:j'=j
       ·subst e;omega
       ·exact b0.2 j' om
      ·intro h
       rw[h.2 j om]
     ·have d4:=bJ d9
      obtain rfl:j=i:=om
      simp(disch:=omega)only[go_sem,d4];exact⟨true,aA rfl,hb⟩
   rintro y f ⟨rfl,b,⟨g,rfl⟩,hb⟩
   cases b with
   |false=>
    simp(disch:=omega)only[go_sem];rw[dY k];refine⟨m-(k+1),om,k+1,aA rfl,om,λQ b6 h=>?_,oo,ow,U,f6,rfl⟩
    by_cases e:Q=k
    ·rw[e,hx] at h
     have:=hb.2 h;cases this
    ·exact b9 Q om h
   |true=>
    have b0:=hb.1 rfl;have e0:=first_rep (n:=n) E (show k<A.length by omega) (by rw[hx];exact b0.2) (by rw[hx];exact b0.1) b9;rw[hx] at e0;simp(disch:=omega)only[go_sem,b3.ixa,cx,bls_i1]
    obtain⟨hd,a3⟩: ∃hd:H,hd=H.mk ((H.mk f.tr (f.next+2)).new (Ob.cells false (ints [(p:Int)]))).tr (f.next+14):=⟨_,rfl⟩
    rw[←a3];obtain⟨Q,hQ⟩:=JR (f.next+2);rw[hQ] at a3 ⊢;have gd:hd.get Q=some (.cells false (ints [(p:Int)])):=by rw[a3];exact H.aN (H.mk f.tr Q) _
    have od: ∀k,k≠Q->hd.get k=f.get k:=λk K=>by rw[a3];exact H.bL (H.mk f.tr Q) K _
    have nd:hd.next=f.next+14:=by rw[a3]
    have fd:Fr f hd:=⟨om,λk K=>od k om⟩
    have n6:=f6.next;have a3:=cp.le;have a3:=oo.fr fd;have i6:=ow.fr fd;have e6:=λid s m c (e:F=V.sl id s m c)=>oo.in id s m c e
    have a1:=λid s m c (e:t=V.sl id s m c)=>ow.in id s m c e
    obtain⟨h7,a7,p7⟩:=a3.push (bytes:=8) (SV.one (v:= aB p) (id:=Q) om gd (.kn 1)) (n:=q.length) (m:=1) (by rw[aL,aQ,kF]) rfl om om om;have n7:=p7.next;have b5: ∀k,k<f.next->dH F k->h7.get k=f.get k:=λk h1 l=>by rw[p7.old k om l,od k om]
    have d6: ∀k,k<l.next->dH F k:=λk K id s m c e Z=>by have:=e6 _ _ _ _ e;omega
    have F7:Fr l h7:=⟨om,λk K=>by rw[b5 k om (d6 k K)];exact f6.get k K⟩
    have Q:=AC.fr.trans F7;have b0:h7.cell e3 (b4+k)=some vx:=by rw[Q.cell bA];exact c2
    have a3:=sx.dJ;have g7:Own h7 t 1 ws l.next:=i6.mono om λid s m c e _ a2=>p7.old id om λf7 b8 m' c' e' Z=>dis id ⟨b8,m',c',by rw[Z];exact e'⟩ ⟨s,m,c,e⟩
    simp(disch:=omega)only[go_sem,a7,b0,a3];refine (own_ok vx (zi x) h7 (sx.mono Q) (by rw[d1];omega)).mono ?_;rintro N h8 ⟨a5,f8,_⟩;have Q:=cell_one (show SI h8 N (zi x) from a5.sv);have n8:=f8.next;simp(disch:=omega)only[go_sem,cJ _ (z:= .aD) Q.1 Q.2]
    obtain⟨he,a6⟩: ∃he:H,he=H.mk ((H.mk h8.tr (f.next+10)).new (Ob.cells false [N])).tr h8.next:=⟨_,rfl⟩
    rw[←a6];obtain⟨S,Q⟩:=JR (f.next+10);rw[Q] at a6 ⊢;have ge:he.get S=some (.cells false [N]):=by rw[a6];exact H.aN (H.mk h8.tr S) _
    have oe: ∀k,k≠S->he.get k=h8.get k:=λk K=>by rw[a6];exact H.bL (H.mk h8.tr S) K _
    have ne:he.next=h8.next:=by rw[a6]
    have b7:=λid s m c (e:N=V.sl id s m c)=>a5.in id s m c e
    have Q:Own he t 1 ws l.next:=g7.mono om λid s m c e h1 a2=>by
     have:=(a1 _ _ _ _ e).1;rw[oe id om,f8.get id a2]
    have e8:=All2.length U;obtain⟨h9,a9,p9⟩:=Q.push (bytes:=24) (SV.one (v:=N) (id:=S) om ge (.kn 1)) (n:=q.length) (m:=1) (by rw[e8,cp.len,kF]) rfl om om om;have n9:=p9.next;simp(disch:=omega)only[go_sem,a9];have c3: ∀{v:V} {k:Nat},¬BlkS v k->dH v k:=λK id s m c e Z=>K ⟨s,m,c,by rw[Z];exact e⟩
    have P: ∀k,k<f.next->dH F k->dH t k->h9.get k=f.get k:=λk h1 l h3=>by rw[p9.old k om h3,oe k om,f8.get k om,b5 k h1 l]
    have f3: ∀k,k<l.next->dH t k:=λk K id s m c e Z=>by have:=a1 _ _ _ _ e;omega
    have fx:Fx (Two l.next F t) f h9:=⟨om,λk h1 l=>P k h1 (c3 λh=>l (.inr (.inl h))) (c3 λh=>l (.inr (.inr h)))⟩
    have hw: ∀k,k<f.next->Two l.next (.sl hd.next 0 (q.length+1) (.un 1)) (.sl he.next 0 (q.length+1) (.un 1)) k->Two l.next F t k:=λk h1 l=>by
     rcases l with h|⟨_,_,_,e⟩|⟨_,_,_,e⟩
     ·exact .inl h
     ·cases e;omega
     ·cases e;omega
    have d7:PV (Two l.next (.sl hd.next 0 (q.length+1) (.un 1)) (.sl he.next 0 (q.length+1) (.un 1))) h9 N x:=by
     have Q:SI h8 N (zi x):=a5.sv;refine⟨SV.fx (W:=λk=>k=S∨BlkS t k) Q ?_ ⟨om,λk h1 l=>by rw[p9.old k om (c3 λh=>l (.inr h)),oe k λe=>l (.inl e)]⟩,?_⟩
     ·cases N with
      |sl id s m c=>
       have h3:=b7 _ _ _ _ rfl;rintro (e|⟨_,_,_,e⟩)
       ·omega
       ·have:=a1 _ _ _ _ e;omega
      |_=>trivial
     ·cases N with
      |sl id s m c=>
       have h3:=b7 _ _ _ _ rfl;rintro (e|⟨_,_,_,e⟩|⟨_,_,_,e⟩)
       ·omega
       ·cases e;omega
       ·cases e;omega
      |_=>trivial
    have o7:=p7.own (b:=l.next) (by rw[aL,aQ,kF]) rfl om;have e7:ints (zi q)++ [aB p]=ints (zi (q++ [p])):=by rw[zi_snoc,iN];rfl
    rw[e7] at o7;refine⟨_,_,ws++ [N],q++ [p],r++ [x],aA rfl,o7.mono om λid s m c e _ h1=>by cases e;rw[p9.old _ om (λid s m c e Z=>by have:=a1 _ _ _ _ e;omega),oe _ om,f8.get _ om],p9.own (by rw[e8,cp.len,kF]) rfl om,(PVs.go U fx hw).append (PVs.one d7),λk ⟨_,_,_,e1⟩ ⟨_,_,_,Z⟩=>by have a:=(V.sl.inj e1).1;have b:=(V.sl.inj Z).1;omega,cp.step e0,⟨om,λk K=>by rw[P k om (d6 k K) (f3 k K)];exact f6.get k K⟩⟩
  rintro y h6 ⟨f0,i3,f9,q',r',⟨g',rfl⟩,g3,g4,d8,c6,i8,f6⟩
  simp(disch:=omega)only[go_sem]
  rw[dY p]
  exact⟨n-(p+1),om,p+1,f0,i3,f9,q',r',aA rfl,om,g3,g4,d8,c6,i8,f6,rfl⟩
 rintro y J ⟨F,t,q,r,⟨g,rfl⟩,c7,pl,i1,f5⟩
 have L:=AC.mono f5
 have wo:F.cells= [F]/\F.one=true:=c7.dR
 have i0:J.get B=some (.cells false [aB 0,.aD,.aD]):=by rw[f5.get B (AC.wb B AC.d)];exact gB
 have cO:J.cell (B+1) 1=some vO:=by rw[H.aG L.get];rfl
 have cR:J.cell (B+1) 2=some R:=by rw[H.aG L.get];rfl
 obtain⟨ws,c5,p,y,g⟩:=pl
 have pl:PL W J t r:=⟨ws,c5,p,y,g⟩
 have g:=L.fr.next
 have e5:=L.wb _ L.c
 simp(disch:=omega)only[go_sem,cO,cR,cJ _ (z:= .aD) (v:=F) wo.1 wo.2]
 obtain⟨h6,b1⟩: ∃h6:H,h6=H.mk ((H.mk J.tr (J.next+3)).new (Ob.cells false [F])).tr (J.next+14):=⟨_,rfl⟩
 rw[←b1]
 have g:h6.get (J.next+3)=some (.cells false [F]):=by rw[b1];exact H.aN (H.mk J.tr (J.next+3)) _
 have n6:h6.next=J.next+14:=by rw[b1]
 have o6: ∀k,k≠J.next+3->h6.get k=J.get k:=λk K=>by rw[b1];exact H.bL (H.mk J.tr (J.next+3)) (by simpa using K) _
 have f6:Fr J h6:=⟨om,λid a2=>o6 id om⟩
 have p:=All2.length L.aO
 have p:=All2.length L.aR
 obtain⟨h7,a7,p7⟩:=(L.oO.fr f6).push (bytes:=24) (SV.one om g (.kn 1)) (n:=i) (m:=1) om rfl om om om
 have n7:=p7.next
 have a8: ∀k,k<J.next->dH vO k->h7.get k=J.get k:=λk h1 l=>by rw[p7.old k om l,o6 k om]
 have i5:h7.cell (B+1) 2=some R:=by unfold H.cell;rw[a8 (B+1) e5 L.pO,L.get];rfl
 have eR:dJ R R=true:=L.oR.sv.dJ
 have g:t.cells= [t]/\t.one=true:=⟨(SV.dG c5).1,(SV.dG c5).2.1⟩
 simp(disch:=omega)only[go_sem,a7,i5,eR,cJ _ (z:= .aD) g.1 g.2]
 obtain⟨h8,b2⟩: ∃h8:H,h8=H.mk ((H.mk h7.tr (J.next+8)).new (Ob.cells false [t])).tr h7.next:=⟨_,rfl⟩
 rw[←b2]
 have p:h8.get (J.next+8)=some (.cells false [t]):=by rw[b2];exact H.aN (H.mk h7.tr (J.next+8)) _
 have n8:h8.next=h7.next:=by rw[b2]
 have o8: ∀k,k≠J.next+8->h8.get k=h7.get k:=λk K=>by rw[b2];exact H.bL (H.mk h7.tr (J.next+8)) (by simpa using K) _
 have g:Own h8 R 1 c0 h.next:=L.oR.mono om λid s m c e _ a2=>by
  rw[o8 id om,a8 id a2 (λf7 b8 y c' e' Z=>L.dis _ _ _ _ e' _ _ _ _ e Z.symm)]
 obtain⟨h9,a9,p9⟩:=g.push (bytes:=24) (SV.one om p (.kn 1)) (n:=i) (m:=1) om rfl om om om
 have n9:=p9.next
 have f1: ∀k,J.next<=k->dH R k:=λk K id s m c e Z=>by have:=(L.oR.in _ _ _ _ e).1;omega
 have P: ∀k,k<J.next->dH vO k->dH R k->h9.get k=J.get k:=λk h1 l h3=>by rw[p9.old k om h3,o8 k om,a8 k h1 l]
 have m:h9.get (B+1)=some (.cells false [aB n,vO,R]):=by rw[P _ e5 L.pO L.pR];exact L.get
 have c: ∀(f:H) (x:V),dQ (some (.cells false [aB n,vO,R])) f (B+1) 1 [x]=some (f.set (B+1) (some (.cells false [aB n,x,R]))):=λf x=>bF (by simp) f _ x
 have g: ∀(f:H) (x y:V),dQ (some (.cells false [aB n,x,R])) f (B+1) 2 [y]=some (f.set (B+1) (some (.cells false [aB n,x,y]))):=λf x y=>bF (by simp) f _ y
 simp(disch:=omega)only[go_sem,a9,m,c,g]
 rw[dY i]
 obtain⟨ha,hb⟩:h6.next=J.next+14/\h8.next=J.next+15:=⟨n6,om⟩
 rw[ha,hb]
 obtain⟨a4,a0⟩: ∃a4,a4=(h9.set (B+1) (some (.cells false [aB n,.sl (J.next+14) 0 (i+1) (.un 1),R]))).set (B+1) (some (.cells false [aB n,.sl (J.next+14) 0 (i+1) (.un 1),.sl (J.next+15) 0 (i+1) (.un 1)])):=⟨_,rfl⟩
 rw[←a0]
 have c: ∀k,k≠B+1->a4.get k=h9.get k:=λk K=>by rw[a0,H.aI _ K,H.aI _ K]
 have f:a4.next=J.next+16:=by rw[a0];show h9.next=_;omega
 have g9:=L.step (v4:=F) (v5:=t) (o:=q) (r:=r) (h6:=a4) (a:=J.next+14) (b:=J.next+15) (k1:=i+1) (k2:=i+1) c7 pl om om om om om om om (by rw[a0,H.aT])
  (by rw[c _ om,p9.old _ om (f1 _ om),o8 _ om,←ha];exact p7.get) (by rw[c _ om,←hb];exact p9.get) (λk h1 l h3 h4=>by rw[c k l];exact P k h1 h3 h4)
 refine⟨n-(i+1),om,i+1,_,_,_,_,_,_,_,aA rfl,om,g9,?_,by rw[iZ,lO];rfl,by rw[iZ,lR];rfl,λj Y=>?_,rfl⟩
 ·rw[P B (L.wb B L.d) L.qO L.qR];exact i0
 ·by_cases e:j=i
  ·subst e
   have e1:(O++ [q]).getD j []=q:=by rw[←lO];exact getD_app_new
   have Z:(R'++ [r]).getD j []=r:=by rw[←lR];exact getD_app_new
   rw[e1,Z]
   exact i1
  ·rw[getD_app_old om,getD_app_old om]
   exact hC j om
def quB (L:LN)(K:List Nat)(a k:Nat):Nat:=numB L K (L.idxOf (bE (dM (L.getD a [])) (L.getD (K.getD k 0) [])))
def cstB (L:LN)(K:List Nat)(i j k:Nat):Nat:=((List.range L.length).filter λa=>decide (numB L K a=i/\quB L K a k=j)).length
def mlB (L:LN)(K:List Nat)(x y:List Int)(k:Nat):Int:=sm L.length λa=>x.getD (numB L K a) 0*y.getD (quB L K a k) 0
def cntC (L:LN)(K:List Nat)(l:List Nat):List Int:=l.foldl (λc i=>(List.range K.length).map (mlB L K (indL K.length i) c)) (indL K.length 0)
def zpB (n:Nat)(x:List Nat)(z:Int):List Nat:=pw n x (z%(ordB n x:Nat)).toNat
def rtB (n:Nat)(L:LN)(K:List Nat)(z:Int)(i:Nat):Nat:=((List.range L.length).filter λa=>decide (zpB n (L.getD a []) z=L.getD (K.getD i 0) [])).length
section
variable {n:Nat} {G:List Nat->Prop} {L:LN} {K:List Nat}
theorem quK_eqB (E:eP G L)(a k:Nat):quK G L K a k=quB L K a k:=numC_eq E _
theorem cstK_eqB (E:eP G L)(i j k:Nat):cstK G L K i j k=cstB L K i j k:=by
 unfold cstK cstA cstB;congr 2;funext a;rw[numC_eq E,quK_eqB E]
theorem mlF_eqB (E:eP G L)(x y:List Int)(k:Nat):mlF G L K x y k=mlB L K x y k:=by
 unfold mlF mlB;exact pJ λa _=>by rw[numC_eq E,quK_eqB E]
theorem cntL_eqB (E:eP G L)(l:List Nat):cntL G L K l=cntC L K l:=by
 unfold cntL cntC;congr 1;funext c i;exact yZ λk _=>mlF_eqB E _ _ k
theorem rtK_eqB (b:mH n G)(E:eP G L)(c:n<=7)(z:Int)(i:Nat):rtK n L K z i=rtB n L K z i:=by
 unfold rtK rtA rtB;congr 1;refine List.filter_congr λa a=>?_
 unfold zp zpB;rw[ord_at b E c (Db.1 a)]
end
def T3:LN:= [[1,2,0], [1,0,2]]
theorem T3_el:eP (fE 3 (· ∈T3)) L3:=ElOk.isEl (ws:= [[], [0,1], [1], [0], [0,0], [1,0]]) (by decide+kernel)
theorem T3_P: ∀g∈T3,bV 3 g:=λg a=>permB_ok ((show ∀g∈T3,permB 3 g=true by decide+kernel) g a)
theorem el_most {G:List Nat->Prop}{L:LN}(E:eP G L){A:LN}(nd:A.Nodup)(h: ∀x∈A,G x):A.length<=L.length:=List.Nodup.length_le_of_subset nd λx a=>(E.mem x).2 (h x a)
theorem three_ok (h:H):Ev T 34 [] h (λv h'=> ∃O R,GC (λid=>id<h.next) h' v 3 O R (fE 3 (· ∈T3))/\Fr h h'):=by
 refine bH c_law27_three rfl rfl ?_;obtain⟨B,q⟩:=JR h.next;obtain⟨r,e1,m,W,Q,g⟩:=dN q [aB 0,.aD,.aD];obtain⟨i,N,x,J,g⟩:=mkI m [1,2,0];obtain⟨h3,F,s,A,j⟩:=mkI x [1,0,2];obtain⟨t,P,p,Z,p,p⟩:=dN s [.sl (B+1) 0 3 (.kn 3),.sl (B+1+1) 0 3 (.kn 3)];have d:=(g.trans j).trans p;have g:SP t (.sl (B+1+1+1) 0 2 (.kn 2)) T3:=SP.two (a:= [1,2,0]) (b:= [1,0,2]) (h:=h3) (J.mono j) A om p Z _;simp(disch:=omega)only[go_sem,c_law27_three,aF,q,e1,m,bls_i3,N,x,F,s,bls_s2 _ (sl_cells ..) (sl_cells ..),P];refine (kelemN_ok 10 3 _ T3 t om om T3_P (by decide) (λA nd j=>jK (el_most T3_el nd j) (by decide)) g).mono ?_;rintro j c ⟨A,m,g,g,o⟩;simp(disch:=omega)only[go_sem];refine (chainOf_ok j 3 _ A c om om (fE.grp T3_P) m om g).mono ?_;rintro j e ⟨O,R,m,g,l⟩
 have k:GC (λid=>id<c.next) e j 3 O R (fE 3 (· ∈T3)):=⟨m,g,fE.grp T3_P,om,om⟩
 obtain⟨u,w,rfl,a,b,_,_⟩:=k.sl;have f:=(d.trans o).trans l;have g:=(d.trans o).next
 have d:=l.next;have Y:e.get B=some (.cells false [aB 0,.aD,.aD]):=by rw[f.get B om];exact W
 obtain⟨h7,z,d,U,y⟩:=mS e B [aB (3:Nat),u,w];simp(disch:=omega)only[go_sem,dK e B 0 (v:= aB (3:Nat)) (u:=u) (w:=w) rfl a b,Y,cW,z,aS U];exact⟨O,R,k.go (⟨om,λid r i=>y id (by show id≠B;have: ¬id<c.next:=i;omega)⟩:Fx (λid=>id<c.next) e h7) (λid r i=>by show id<c.next;omega),⟨om,λq a=>by rw[y q om,f.get q om,Q q om]⟩⟩
theorem four_ok (h:H):Ev T 35 [] h (λv h'=> ∃O R,GC (λid=>id<h.next) h' v 4 O R (fE 4 (· ∈C4))/\Fr h h'):=by
 refine bH c_law27_four rfl rfl ?_;obtain⟨B,p⟩:=JR h.next;obtain⟨q,Y,l,Q,N,o⟩:=dN p [aB 0,.aD,.aD];obtain⟨g,F,s,A,y⟩:=mkI l [1,2,3,0];obtain⟨r,J,o,W,o,o⟩:=dN s [.sl (B+1) 0 4 (.kn 4)];have d:=y.trans o;have i:SP r (.sl (B+1+1) 0 1 (.kn 1)) C4:=SP.one' (a:= [1,2,3,0]) (h:=g) A om o W _;simp(disch:=omega)only[go_sem,c_law27_four,aF,p,Y,l,bls_i4,F,s,cJ _ (z:= .aD) (v:= .sl (B+1) 0 4 (.kn 4)) rfl rfl,J];refine (kelemN_ok 10 4 _ C4 r om om C4_P (by decide) (λA nd l=>jK (el_most L4_ok nd l) (by decide)) i).mono ?_;rintro l c ⟨A,o,i,i,m⟩;simp(disch:=omega)only[go_sem];refine (chainOf_ok l 4 _ A c om om (fE.grp C4_P) o om i).mono ?_;rintro l e ⟨O,R,o,i,k⟩
 have j:GC (λid=>id<c.next) e l 4 O R (fE 4 (· ∈C4)):=⟨o,i,fE.grp C4_P,om,om⟩
 obtain⟨u,w,rfl,a,b,_,_⟩:=j.sl;have f:=(d.trans m).trans k;have i:=(d.trans m).next
 have d:=k.next;have U:e.get B=some (.cells false [aB 0,.aD,.aD]):=by rw[f.get B om];exact Q
 obtain⟨Z,x,d,P,t⟩:=mS e B [aB (4:Nat),u,w];simp(disch:=omega)only[go_sem,dK e B 0 (v:= aB (4:Nat)) (u:=u) (w:=w) rfl a b,U,cW,x,aS P];exact⟨O,R,j.go (⟨om,λid q g=>t id (by show id≠B;have: ¬id<c.next:=g;omega)⟩:Fx (λid=>id<c.next) e Z) (λid q g=>by show id<c.next;omega),⟨om,λq a=>by rw[t q om,f.get q om,N q om]⟩⟩
set_option maxHeartbeats 16000000
theorem is_ok (v w:V)(a b:List Int)(h:H)(c:SI h v a)(f:SI h w b)(e:a.length<1000000)(lb:b.length<1000000):
  Ev T 36 [v,aB 0,w] h (λv h'=>v= .bool (decide (a=b))/\Fr h h'):=by
 refine bH c_law27_is rfl rfl ?_
 simp(disch:=omega)only[go_sem,c_law27_is,aF,decide_true]
 refine (same_ok v w a b h c f e lb).mono ?_
 rintro _ d ⟨rfl,d⟩
 simp(disch:=omega)only[go_sem]
 exact d
theorem bls_r3 (h:H){v u w:V}(a:v.cells= [v]/\v.one=true)(b:u.cells= [u]/\u.one=true)(c:w.cells= [w]/\w.one=true):pG h 1 [.aD] 3 [(0,1,v),(1,1,u),(2,1,w)]=some (.sl h.next 0 3 (.kn 3),h.new (.cells false [v,u,w])):=by
 have e:dO [V.aD] 3= [.aD,.aD,.aD]:=rfl;simp [pG,gI,e,putAt,a.1,a.2,b.1,b.2,c.1,c.2]
theorem cst_val:(List.range 3).map (λj=>zi ((List.range 3).map (cstB L3 [0,1,3] 1 j)))= [[0,1,0], [3,0,3], [0,2,0]]:=by decide+kernel
theorem cnt_val:(cntC L3 [0,1,3] [1,1,2]).getD 0 0=6:=by decide+kernel
theorem rt_val:zi ((List.range 4).map (rtB 4 L4 [0,2,1,3] 2))= [2,2,0,0]:=by decide+kernel
theorem lives_ok (h:H):Ev T 10 [] h (λv h'=>v= .bool true/\Fr h h'):=by
 refine bH c_law27_lives rfl rfl ?_;simp(disch:=omega)only[go_sem,c_law27_lives,aF];refine (three_ok h).mono ?_;rintro vc a ⟨O,R,j,Z⟩;simp(disch:=omega)only[go_sem];refine (const_ok vc 1 3 O R _ a j L3 (j.el T3_el)).mono ?_;rintro k x ⟨K,ik,f2,d⟩;obtain rfl:K= [0,1,3]:=KOk.eq j.grp T3_el om K3_ok ik
 obtain⟨b,rfl,sl⟩: ∃b,k=V.tup [b,aB 0]/\SR x b (cstM (fE 3 (· ∈T3)) L3 [0,1,3] 1):=by
  rcases d with ⟨a,_⟩|⟨_,⟨a,_⟩|⟨i,b,e,_,rfl,s⟩⟩
  ·simp at a
  ·simp at a
  ·obtain rfl:i=1:=om
   exact⟨b,rfl,s⟩
 clear d
 have O:cstM (fE 3 (· ∈T3)) L3 [0,1,3] 1= [[0,1,0], [3,0,3], [0,2,0]]:=by
  rw[←cst_val];unfold cstM;exact yZ λj _=>by congr 1;exact yZ λk _=>cstK_eqB T3_el _ _ _
 rw[O] at sl;simp(disch:=omega)only[go_sem];refine (three_ok x).mono ?_;rintro q j ⟨O2,R2,g,L⟩;obtain⟨h4,W,k,s4,w⟩:=mkI (h:=j) rfl [1,1,2];simp(disch:=omega)only[go_sem,bls_i3,W];refine (cnt_ok q _ [1,1,2] 3 O2 R2 _ h4 (by decide) s4 (g.mono w) L3 (g.el T3_el)).mono ?_;rintro w2 A ⟨K,t,B,d⟩;obtain rfl:K= [0,1,3]:=KOk.eq g.grp T3_el om K3_ok t
 obtain rfl:w2=V.tup [aB 6,aB 0]:=by
  rcases d with ⟨a,_⟩|⟨_,⟨a,_⟩|⟨_,⟨⟨x,hx,a⟩,_⟩|⟨l',e,_,rfl⟩⟩⟩
  ·simp at a
  ·simp at a
  ·simp only[List.length_cons,List.length_nil] at a
   simp only[Dw,List.not_mem_nil,or_false] at hx;omega
  ·have el:l'= [1,1,2]:=zi_inj (e.symm.trans (by decide))
   rw[el,cntL_eqB T3_el,cnt_val]
 clear d;simp(disch:=omega)only[go_sem];refine (four_ok A).mono ?_;rintro g q ⟨j,k,c,y⟩;simp(disch:=omega)only[go_sem];refine (roots_ok g 2 4 j k _ q om c L4 (c.el L4_ok)).mono ?_;rintro w3 o ⟨K,n,U,d⟩;obtain rfl:K= [0,2,1,3]:=KOk.eq c.grp L4_ok om K4_ok n
 obtain⟨vr,rfl,sr⟩: ∃b,w3=V.tup [b,aB 0]/\SI o b [2,2,0,0]:=by
  rcases d with ⟨a,_⟩|⟨_,b,rfl,s⟩
  ·simp at a
  ·refine⟨b,rfl,?_⟩
   have e:zi ((List.range [0,2,1,3].length).map (rtK 4 L4 [0,2,1,3] 2))= [2,2,0,0]:=by
    rw[←rt_val];congr 1;exact yZ λi _=>rtK_eqB c.grp L4_ok om _ _
   rw[e] at s;exact s
 clear d;obtain⟨a,ea,p,Q,fa⟩:=mkI (h:=o) rfl [0,1,0];obtain⟨a,d,a,P,G⟩:=mkI p [3,0,3];obtain⟨c,c,u,F,r⟩:=mkI a [0,2,0];have m:=(((((Z.trans f2).trans L).trans w).trans B).trans y).trans U;simp(disch:=omega)only[go_sem,decide_true,bls_i3,ea,p,d,a,c];obtain⟨A,c⟩:=JR o.next;rw[c] at p a u Q P F ⊢;obtain⟨J,ed,nd,gd,a,l⟩:=dN u [.sl A 0 3 (.kn 3),.sl (A+1) 0 3 (.kn 3),.sl (A+1+1) 0 3 (.kn 3)];have f:=((fa.trans G).trans r).trans l
 have Y:SR J (.sl (A+1+1+1) 0 3 (.kn 3)) [[0,1,0], [3,0,3], [0,2,0]]:=⟨_,SV.all (by rfl) om gd _,Q.mono ((G.trans r).trans l),P.mono (r.trans l),F.mono l,trivial⟩
 simp(disch:=omega)only[go_sem,bls_r3 _ (sl_cells ..) (sl_cells ..) (sl_cells ..),u,ed];refine (sameLists_ok b _ _ _ J (sl.mono ((((L.trans w).trans B).trans y).trans (U.trans f))) Y (by decide) (by decide) (by decide) (by decide)).mono ?_;rintro _ h8 ⟨rfl,N⟩;rw[bM rfl];obtain⟨he,ee,ne,se,z⟩:=mkI (h:=h8) rfl [2,2,0,0];simp(disch:=omega)only[go_sem,decide_true,bls_i4,ee];refine (is_ok vr _ _ _ he (sr.mono ((f.trans N).trans z)) se (by decide) (by decide)).mono ?_;rintro _ a ⟨rfl,f9⟩;rw[bM rfl];simp(disch:=omega)only[go_sem];exact (((m.trans f).trans N).trans z).trans f9
set_option maxRecDepth 100000
end Go.Proofs.YtapfcpkecmmagaaGreat
namespace Go.Proofs.YtapfcpkecmmagaaGreat
open Go Go.Ay
set_option maxRecDepth 100000
theorem caps_nils (ρ:X->V)(h:H)(x:X)(a:ρ x= .aD):cZ ρ h (.caps x)=some (aB 0,h):=by
 simp only[cZ,a]
theorem grow_ok (n:Nat)(h:H)(d:0<n)(i:n<1000000):Ev T 95 [.aD,aB n] h (λv h'=>Own h' v 1 (ints []) h.next/\Fr h h'):=by
 refine bH c_slices_Grow_int_int rfl rfl ?_;simp(disch:=omega)only[go_sem,c_slices_Grow_int_int,aF];rw[bJ (show ¬((n:Int)<0) by omega)];simp(disch:=omega)only[go_sem];rw[caps_nils _ _ _ rfl];simp(disch:=omega)only[go_sem];rw[bM (show 0<(n:Int)-(0- 0) by omega)];simp(disch:=omega)only[go_sem];rw[caps_nils _ _ _ rfl];have b:=Yu (h:=h) (sz:=1) (bytes:=8) (zero:= [aB 0]) (x:= .aD) (n:=(n:Int)-(0- 0)) om om om rfl;obtain⟨v,h',e,a⟩:=(Own.aD h 1 h.next).oT (bytes:=8) (eS _) (n:=0) (m:=n) (us:=ints (List.replicate n 0)) rfl (by rw[aL,List.length_replicate,kF]) om om;rw[show ((n:Int)-(0- 0)).toNat=n by omega,kF,sG,e] at b;simp(disch:=omega)only[go_sem,Um,b];rcases a.dG with ⟨b,_⟩|⟨id,rfl,g,c,f⟩
 ·omega
 have b:nE 1 (.sl id 0 n (.un 1)) none (some (aB 0)) none=some (.sl id 0 0 (.un 1)):=Ya om om;simp(disch:=omega)only[go_sem,b];exact⟨.inr ⟨id,0,.un 1,_,rfl,rfl,.inl rfl,g,c,by rw[f];rfl⟩,a.fr h (Fr.refl h) (eS _)⟩
theorem concat_ok (id:Nat)(j k:V)(a b:List Int)(h:H)(r:h.get id=bW [j,k])(d:id<h.next)(l:SI h j a)(s:SI h k b)(z:0<a.length+b.length)(B:a.length<10000)(lb:b.length<10000):
  Ev T 58 [.sl id 0 2 (.kn 2)] h (λv h'=>Own h' v 1 (ints (a++b)) h.next/\Fr h h'):=by
 refine bH c_slices_Concat_int_int rfl rfl ?_
 have c:dA (.sl id 0 2 (.kn 2))=some (aB 2):=rfl
 have e:h.cell id 0=some j:=by rw[H.aG r];rfl
 have i:h.cell id 1=some k:=by rw[H.aG r];rfl
 have o:Cu 1 (.sl id 0 2 (.kn 2)) (aB 0)=some (.ptr id 0):=by rw[sT om om];rfl
 have t:Cu 1 (.sl id 0 2 (.kn 2)) (aB 1)=some (.ptr id 1):=by rw[sT om om];rfl
 simp(disch:=omega)only[go_sem,c_slices_Concat_int_int,aF,c]
 refine iJ ?_
 simp(disch:=omega)only[go_sem,o,e,l.lens]
 rw[bM (show (0:Int)<2 by omega)]
 simp(disch:=omega)only[go_sem,o,e,l.lens]
 rw[bJ (show ¬(0+(a.length:Int))<0 by omega)]
 simp(disch:=omega)only[go_sem]
 rw[show (0:Int)+1=1 from rfl,Int.zero_add]
 refine iJ ?_
 simp(disch:=omega)only[go_sem]
 rw[bM (show (1:Int)<2 by omega)]
 simp(disch:=omega)only[go_sem,t,i,s.lens]
 rw[bJ (show ¬((a.length:Int)+(b.length:Int))<0 by omega)]
 simp(disch:=omega)only[go_sem]
 rw[show (1:Int)+1=2 from rfl]
 refine iJ ?_
 simp(disch:=omega)only[go_sem]
 rw[bJ (show ¬(2:Int)<2 by omega)]
 simp(disch:=omega)only[go_sem]
 rw[show (a.length:Int)+(b.length:Int)=((a.length+b.length:Nat):Int) by omega]
 refine (grow_ok (a.length+b.length) h z om).mono ?_
 rintro v y ⟨g,f⟩
 have e:y.cell id 0=some j:=by rw[f.cell d];exact e
 obtain⟨y,A,x,q⟩:=g.app (bytes:=8) (n:=0) (m:=a.length) f.next (SV.mono l f) rfl (by rw[aL,kF]) om om
 have g:=q.fr h f (eS _)
 have i:A.cell id 1=some k:=by rw[g.cell d];exact i
 have f:=q.own
 rw[←iN] at f
 obtain⟨q,q,w,p⟩:=f.app (bytes:=8) (n:=a.length) (m:=b.length) g.next (SV.mono s g) (by rw[aL,kF];simp) (by rw[aL,kF]) om om
 have u:=p.fr h g (eS _)
 simp(disch:=omega)only[go_sem,c]
 refine iJ ?_
 simp(disch:=omega)only[go_sem]
 rw[bM (show (0:Int)<2 by omega)]
 simp(disch:=omega)only[go_sem,o,e,x]
 rw[show (0:Int)+1=1 from rfl]
 refine iJ ?_
 simp(disch:=omega)only[go_sem]
 rw[bM (show (1:Int)<2 by omega)]
 simp(disch:=omega)only[go_sem,t,i,w]
 rw[show (1:Int)+1=2 from rfl]
 refine iJ ?_
 simp(disch:=omega)only[go_sem]
 rw[bJ (show ¬(2:Int)<2 by omega)]
 simp(disch:=omega)only[go_sem]
 have c:=p.own
 rw[←iN] at c
 exact⟨c,u⟩
end Go.Proofs.YtapfcpkecmmagaaGreat
namespace Go.Proofs.YtapfcpkecmmagaaGreat
open Go Go.Ay Go.Pm
set_option maxRecDepth 100000
def big27 (x:Int):Bool:=decide (x< -10000∨10000<x)
theorem mul1b_ok (x:Int)(h:H):Ev T 59 [aB x] h (λv h'=>v= .bool (big27 x)/\Fr h h'):=by
 refine bH c_algebra_Mul_1 rfl rfl ?_;simp(disch:=omega)only[go_sem,c_algebra_Mul_1,aF]
 by_cases a:x< -10000
 ·have b:=bM a
  have:big27 x=true:=bM (.inl a);simp(disch:=omega)only[go_sem,b,this];exact Fr.refl h
 ·have b:=bJ a
  have:big27 x=decide (10000<x):=by unfold big27;exact decide_eq_decide.2 ⟨λh=>h.resolve_left a,.inr⟩
  simp(disch:=omega)only[go_sem,b,this];exact Fr.refl h
theorem amul_ok {W0:Nat->Prop}(W j k:V)(x y:List Int)(n:Nat)(O:LN)(R:jL)(G:List Nat->Prop)(h:H)(lx:x.length<10000)(ly:y.length<10000)(m:SI h j x)(q:SI h k y)(d:GC W0 h W n O R G)(L:LN)(Y:cF O R n 0 (cH n)=L):
  Ev T 28 [W,j,k] h (λv h'=> ∃K,IsK n G L K/\Fr h h'/\(64<K.length/\v= .tup [.aD,aB 5]∨K.length<=64/\(¬(x.length=K.length/\y.length=K.length)/\v= .tup [.aD,aB 10]∨x.length=K.length/\y.length=K.length/\((x++y).any big27=true/\v= .tup [.aD,aB 2]∨(x++y).any big27=false/\ ∃w,v= .tup [w,aB 0]/\SI h' w ((List.range K.length).map (mlF G L K x y)))))):=by
 have J:=d
 obtain⟨s,F,rfl,B,z⟩:=d.ch
 refine bH c_algebra_Mul rfl rfl ?_
 have e:s.one=true:=rL B
 have i:F.one=true:=qZ z
 have n7:=d.n7
 have hG:=d.grp
 obtain⟨A,z⟩:=eE d.grp d.isc
 have B:=szF_fact d
 rw[Y] at A z
 have b:=m.lens
 have f:=q.lens
 obtain⟨B,P⟩:=JR h.next
 obtain⟨h1,e1,z,g1,z,t⟩:=dN P [aB n,s,F]
 have bx:=bD h (v:= aB n) (u:=s) (w:=F) rfl e i
 simp(disch:=omega)only[go_sem,c_algebra_Mul,aF,bx,P,e1,aS g1]
 refine (load_ok _ n O R G h1 (J.mono t) L Y).mono ?_
 rintro _ Q ⟨K,g,U,⟨a,rfl⟩|⟨a,D,rfl,c⟩⟩
 ·simp(disch:=omega)only[go_sem]
  refine bB (λ_=>?_) (λe=>(e (by decide)).elim)
  simp(disch:=omega)only[go_sem]
  exact⟨K,g,t.trans U,.inl ⟨a,trivial⟩⟩
 simp(disch:=omega)only[go_sem]
 refine bB (λe=>(e rfl).elim) (λ_=>?_)
 have F2:=t.trans U
 have l:=c
 obtain⟨e,e,e,e,e,z,e,e,e,s,t,e,e,e⟩:=c.ex
 obtain⟨c,_⟩:=K_first hG A g
 obtain⟨c,e,e,e,e,i⟩:=cls_open om s t
 clear e i
 by_cases ex:(x.length:Int)=(K.length:Int)
 case neg=>
  have i:=bM ex;simp(disch:=omega)only[go_sem,b,H.aG z,c,i];exact⟨K,g,F2,.inr ⟨a,.inl ⟨λe=>ex om,trivial⟩⟩⟩
 have i:decide ((x.length:Int)≠(K.length:Int))=false:=bJ (λe=>e ex)
 by_cases s:(y.length:Int)=(K.length:Int)
 case neg=>
  have t:=bM s;simp(disch:=omega)only[go_sem,b,f,H.aG z,c,i,t];exact⟨K,g,F2,.inr ⟨a,.inl ⟨λe=>s om,trivial⟩⟩⟩
 have t:decide ((y.length:Int)≠(K.length:Int))=false:=bJ (λe=>e s)
 have e:=m.dG
 have s:=q.dG
 obtain⟨P,F⟩:=JR Q.next
 obtain⟨h3,J,B,U,B,p⟩:=dN F [j,k]
 have B:=bls_s2 Q (v:=j) (u:=k) ⟨e.1,e.2.1⟩ ⟨s.1,s.2.1⟩
 rw[F] at B
 simp(disch:=omega)only[go_sem,b,f,H.aG z,c,i,t,B,J]
 refine (concat_ok P j k x y h3 U om (m.mono (F2.trans p)) (q.mono (F2.trans p)) om lx ly).mono ?_
 rintro c e ⟨b,Z⟩
 simp(disch:=omega)only[go_sem]
 refine (contains_gen 59 [] c (x++y) e big27 (by rw[iZ];omega) b.sv (λi hi b f=>mul1b_ok _ _)).mono ?_
 rintro _ r ⟨rfl,N⟩
 have o:=((F2.trans p).trans Z).trans N
 cases hany:(x++y).any big27 with
 |true=>
  simp(disch:=omega)only[go_sem];exact⟨K,g,o,.inr ⟨a,.inr ⟨om,om,.inl trivial⟩⟩⟩
 |false=>
  have c: ∀z∈x++y, -(10000:Int)<=z/\z<=10000:=λz b=>by
   have:=List.any_eq_false.1 hany z b;unfold big27 at this;simp only[Co] at this;omega
  simp(disch:=omega)only[go_sem];have b:=(Fr.refl r).bN (n:=r.next+9) om;refine (mul_ok D j k n G L K x y 10000 10000 r n7 hG A g om a (l.mono ((p.trans Z).trans N)) (λv b=>c v (List.mem_append_left _ b)) (λv b=>c v (List.mem_append_right _ b)) (by decide) om om (m.mono o) (q.mono o)).mono ?_;rintro b b ⟨r6,b⟩;simp(disch:=omega)only[go_sem];exact⟨K,g,o.trans b,.inr ⟨a,.inr ⟨om,om,.inr ⟨_,rfl,r6.si⟩⟩⟩⟩
set_option maxHeartbeats 64000000
theorem rconst_bad (g y:V)(d:Int)(O:List (List Int))(R:List (List (List Int)))(h:H)(j:ChI h g d O R)(m:d<=7∨64<d)(n:SmallO O)(sr:SmallR R)(l:chkE d O R≠0):
  Ev T 27 [g,y] h (λv h'=>v= .tup [.aD,aB (chkE d O R)]/\Fr h h'):=by
 have f:=j
 obtain⟨e,c,rfl,z,p⟩:=j
 refine bH c_ref27_Constants rfl rfl ?_
 have a:e.one=true:=rL z
 have b:c.one=true:=qZ p
 obtain⟨B,i⟩:=JR h.next
 obtain⟨A,t,p,q,p,k⟩:=dN i [aB d,e,c]
 have o:=bD h (v:= aB d) (u:=e) (w:=c) rfl a b
 simp(disch:=omega)only[go_sem,c_ref27_Constants,aF,o,i,t,aS q]
 refine (rof27_bad _ d O R A (f.mono k) m n sr l).mono ?_
 rintro _ G ⟨rfl,e⟩
 obtain⟨P,a⟩:=JR G.next
 obtain⟨b,c,f,r,f,i⟩:=dN a [.aD,.aD,.aD]
 obtain⟨o,s,i,i,i⟩:=mS b P [.aD,.aD,.aD]
 have F:Fr h o:=(k.trans e).trans ⟨om,λq e=>by rw[i q om,f q om]⟩
 have x:=bM l
 simp(disch:=omega)only[go_sem,a,c,dK b P 0 (v:= .aD) (u:= .aD) (w:= .aD) rfl rfl rfl,r,cW,s,x]
 exact F
theorem rconst_ok {W0:Nat->Prop}(vc:V)(z:Int)(n:Nat)(O:LN)(R:jL)(G:List Nat->Prop)(h:H)(b:GC W0 h vc n O R G)(L:LN)(hL:cF O R n 0 (cH n)=L):
  Ev T 27 [vc,aB z] h (λv h'=> ∃K,IsK n G L K/\Fr h h'/\(64<K.length/\v= .tup [.aD,aB 5]∨K.length<=64/\((z<0∨(K.length:Int)<=z)/\v= .tup [.aD,aB 2]∨ ∃(i:Nat) (vl:V),z=(i:Int)/\i<K.length/\v= .tup [vl,aB 0]/\SR h' vl (cstM G L K i)))):=by
 have a0:=b
 obtain⟨J,Z,rfl,sO,B⟩:=b.ch
 refine bH c_ref27_Constants rfl rfl ?_
 have j:J.one=true:=rL sO
 have o:Z.one=true:=qZ B
 have n7:=b.n7
 have B:=b.n0
 have hG:=b.grp
 obtain⟨E,B⟩:=eE b.grp b.isc
 have a1:=szF_fact b
 rw[hL] at E B
 have hl:L.length<=5040:=om
 obtain⟨B,hB⟩:=JR h.next
 obtain⟨h1,e1,B,g1,B,U⟩:=dN hB [aB n,J,Z]
 have bx:=bD h (v:= aB n) (u:=J) (w:=Z) rfl j o
 simp(disch:=omega)only[go_sem,c_ref27_Constants,aF,bx,hB,e1,aS g1]
 refine (rof27_ok _ n O R G h1 (a0.mono U) L hL).mono ?_
 rintro _ Y ⟨K,c,f2,⟨a,rfl⟩|⟨a,t,s,r,rfl,k⟩⟩
 ·obtain⟨P,l⟩:=JR Y.next
  obtain⟨e,x,n3,y,N,f3⟩:=dN l [.aD,.aD,.aD]
  obtain⟨m,A,n4,d,o4⟩:=mS e P [.aD,.aD,.aD]
  have F:Fr h m:=(U.trans f2).trans ⟨om,λq hq=>by rw[o4 q om,N q om]⟩
  simp(disch:=omega)only[go_sem,l,x,dK e P 0 (v:= .aD) (u:= .aD) (w:= .aD) rfl rfl rfl,y,cW,A]
  refine bB (λ_=>?_) (λj=>(j (by decide)).elim)
  simp(disch:=omega)only[go_sem]
  exact⟨K,c,F,.inl ⟨a,trivial⟩⟩
 obtain⟨F,o,B⟩:=k.one
 obtain⟨P,l⟩:=JR Y.next
 obtain⟨e,x,n3,y,N,f3⟩:=dN l [.aD,.aD,.aD]
 obtain⟨m,A,n4,d,o4⟩:=mS e P [t,s,r]
 have f:Fr Y m:=⟨om,λq hq=>by rw[o4 q om,N q om]⟩
 have W:=(U.trans f2).trans f
 simp(disch:=omega)only[go_sem,l,x,dK e P 0 (v:=t) (u:=s) (w:=r) F o B,y,cW,A]
 refine bB (λj=>(j rfl).elim) (λ_=>?_)
 have k:=k.fr f
 obtain⟨g,e,e,e,e,e⟩:=k.cls om
 obtain⟨e,_⟩:=K_first hG E c
 have e: ∀e,Fr m e->e.get P=bW [t,s,r]:=λe f=>by rw[f.get P om];exact d
 by_cases e:z<0
 ·have p:=bM e
  simp(disch:=omega)only[go_sem,p,fG]
  exact⟨K,c,W,.inr ⟨a,.inl ⟨.inl e,trivial⟩⟩⟩
 have p:=bJ e
 by_cases e:(K.length:Int)<=z
 ·have Q:=bM e
  simp(disch:=omega)only[go_sem,p,H.aG d,g,Q]
  exact⟨K,c,W,.inr ⟨a,.inl ⟨.inr e,trivial⟩⟩⟩
 have Q:=bJ e
 obtain⟨i,rfl⟩: ∃i:Nat,z=(i:Int):=⟨z.toNat,om⟩
 simp(disch:=omega)only[go_sem,p,H.aG d,g,Q,aS d]
 refine (rconsts_ok t s r i n G L K m n7 hG E c hl a k).mono ?_
 rintro vl d ⟨c5,d⟩
 simp(disch:=omega)only[go_sem]
 exact⟨K,c,W.trans d,.inr ⟨a,.inr ⟨i,vl,rfl,om,rfl,c5.sr⟩⟩⟩
theorem rmul_bad (g r x:V)(d:Int)(O:List (List Int))(R:List (List (List Int)))(h:H)(j:ChI h g d O R)(m:d<=7∨64<d)(n:SmallO O)(sr:SmallR R)(l:chkE d O R≠0):
  Ev T 29 [g,r,x] h (λv h'=>v= .tup [.aD,aB (chkE d O R)]/\Fr h h'):=by
 have f:=j
 obtain⟨e,c,rfl,A,p⟩:=j
 refine bH c_ref27_Mul rfl rfl ?_
 have a:e.one=true:=rL A
 have b:c.one=true:=qZ p
 obtain⟨B,i⟩:=JR h.next
 obtain⟨G,y,p,q,p,k⟩:=dN i [aB d,e,c]
 have o:=bD h (v:= aB d) (u:=e) (w:=c) rfl a b
 simp(disch:=omega)only[go_sem,c_ref27_Mul,aF,o,i,y,aS q]
 refine (rof27_bad _ d O R G (f.mono k) m n sr l).mono ?_
 rintro _ J ⟨rfl,e⟩
 obtain⟨P,a⟩:=JR J.next
 obtain⟨b,c,f,s,f,i⟩:=dN a [.aD,.aD,.aD]
 obtain⟨o,t,i,i,i⟩:=mS b P [.aD,.aD,.aD]
 have F:Fr h o:=(k.trans e).trans ⟨om,λq e=>by rw[i q om,f q om]⟩
 have z:=bM l
 simp(disch:=omega)only[go_sem,a,c,dK b P 0 (v:= .aD) (u:= .aD) (w:= .aD) rfl rfl rfl,s,cW,t,z]
 exact F
theorem rmul_ok {W0:Nat->Prop}(vc:V)(vx vy:V)(x y:List Int)(n:Nat)(O:LN)(R:jL)(G:List Nat->Prop)(h:H)(lx:x.length<10000)(ly:y.length<10000)(sx:SI h vx x)(sy:SI h vy y)(N:GC W0 h vc n O R G)(L:LN)(hL:cF O R n 0 (cH n)=L):
  Ev T 29 [vc,vx,vy] h (λv h'=> ∃K,IsK n G L K/\Fr h h'/\(64<K.length/\v= .tup [.aD,aB 5]∨K.length<=64/\(¬(x.length=K.length/\y.length=K.length)/\v= .tup [.aD,aB 10]∨x.length=K.length/\y.length=K.length/\((x++y).any big27=true/\v= .tup [.aD,aB 2]∨(x++y).any big27=false/\ ∃w,v= .tup [w,aB 0]/\SI h' w ((List.range K.length).map (mlF G L K x y)))))):=by
 have a5:=N
 obtain⟨vO,vR,rfl,sO,B⟩:=N.ch
 refine bH c_ref27_Mul rfl rfl ?_
 have a3:vO.one=true:=rL sO
 have f:vR.one=true:=qZ B
 have n7:=N.n7
 have B:=N.n0
 have hG:=N.grp
 obtain⟨E,B⟩:=eE N.grp N.isc
 have a6:=szF_fact N
 rw[hL] at E B
 have hl:L.length<=5040:=om
 obtain⟨B,hB⟩:=JR h.next
 obtain⟨h1,A,B,g1,B,f1⟩:=dN hB [aB n,vO,vR]
 have bx:=bD h (v:= aB n) (u:=vO) (w:=vR) rfl a3 f
 simp(disch:=omega)only[go_sem,c_ref27_Mul,aF,bx,hB,A,aS g1]
 refine (rof27_ok _ n O R G h1 (a5.mono f1) L hL).mono ?_
 rintro _ h2 ⟨K,t,f2,⟨c,rfl⟩|⟨c,vL,vC,vM,rfl,rg⟩⟩
 ·obtain⟨P,hP⟩:=JR h2.next
  obtain⟨Z,e3,n3,g3,o3,f3⟩:=dN hP [.aD,.aD,.aD]
  obtain⟨h4,e4,n4,Y,o4⟩:=mS Z P [.aD,.aD,.aD]
  have F:Fr h h4:=(f1.trans f2).trans ⟨om,λq hq=>by rw[o4 q om,o3 q om]⟩
  simp(disch:=omega)only[go_sem,hP,e3,dK Z P 0 (v:= .aD) (u:= .aD) (w:= .aD) rfl rfl rfl,g3,cW,e4]
  refine bB (λ_=>?_) (λf=>(f (by decide)).elim)
  simp(disch:=omega)only[go_sem]
  exact⟨K,t,F,.inl ⟨c,trivial⟩⟩
 obtain⟨oL,B,F⟩:=rg.one
 obtain⟨P,hP⟩:=JR h2.next
 obtain⟨Z,e3,n3,g3,o3,f3⟩:=dN hP [.aD,.aD,.aD]
 obtain⟨h4,e4,n4,Y,o4⟩:=mS Z P [vL,vC,vM]
 have a0:Fr h2 h4:=⟨om,λq hq=>by rw[o4 q om,o3 q om]⟩
 have z:=(f1.trans f2).trans a0
 simp(disch:=omega)only[go_sem,hP,e3,dK Z P 0 (v:=vL) (u:=vC) (w:=vM) oL B F,g3,cW,e4]
 refine bB (λf=>(f rfl).elim) (λ_=>?_)
 have rg:=rg.fr a0
 obtain⟨q,f,f,f,f,f⟩:=rg.cls om
 obtain⟨f,_⟩:=K_first hG E t
 have f: ∀W,Fr h4 W->W.get P=bW [vL,vC,vM]:=λW f=>by rw[f.get P om];exact Y
 have d:=sx.lens
 have f:=sy.lens
 by_cases ex:(x.length:Int)=(K.length:Int)
 case neg=>
  have B:=bM ex;simp(disch:=omega)only[go_sem,d,H.aG Y,q,B,fG];exact⟨K,t,z,.inr ⟨c,.inl ⟨λe=>ex om,trivial⟩⟩⟩
 have B:decide ((x.length:Int)≠(K.length:Int))=false:=bJ (λe=>e ex)
 by_cases Z:(y.length:Int)=(K.length:Int)
 case neg=>
  have F:=bM Z;simp(disch:=omega)only[go_sem,d,f,H.aG Y,q,B,F];exact⟨K,t,z,.inr ⟨c,.inl ⟨λe=>Z om,trivial⟩⟩⟩
 have F:decide ((y.length:Int)≠(K.length:Int))=false:=bJ (λe=>e Z)
 have o:x.length=K.length:=om
 have m:y.length=K.length:=om
 have a2:=sx.mono z
 have a4:=sy.mono z
 obtain⟨idx,Z,s,Z,cx⟩:=a2.open
 obtain⟨Z,Z,Q,Z,cy⟩:=a4.open
 have zA: ∀v:Int,big27 v=false↔ ¬v< -10000/\ ¬10000<v:=λv=>by unfold big27;rw[decide_eq_false_iff_not];omega
 have mem: ∀l:List Int,∀j,j<l.length->l.getD j 0∈l:=λl j p=>getD_mem p
 simp(disch:=omega)only[go_sem,d,f,H.aG Y,q,B,F]
 refine aH (λk' J W=> ∃(i:Nat),(∃g:Nat->V,J= [g 0,vx,vy,g 3,g 4,g 5,.ptr P 0,g 7,aB i,g 9,g 10,g 11,g 12])/\i<=x.length/\(∀j,j<i->big27 (x.getD j 0)=false/\big27 (y.getD j 0)=false)/\W=h4/\k'=x.length-i) x.length
  ⟨0,aA rfl,fF _,λj p=>om,rfl,rfl⟩ ?_
 rintro k' J W ⟨i,⟨g,rfl⟩,hi,r,rfl,rfl⟩
 by_cases a1:(i:Int)<(x.length:Int)
 case neg=>
  have A:=bJ a1;obtain rfl:i=x.length:=om
  simp(disch:=omega)only[go_sem,d,A,aS Y]
  have k: ∀l:List Int,(∀j,j<l.length->big27 (l.getD j 0)=false)-> ∀v∈l, -((10000:Nat):Int)<=v/\v<=(10000:Nat):=λl hl v U=>by
   obtain⟨j,p,rfl⟩:=uK.1 U;have:=(zA _).1 (hl j p);rw[zB,eV p] at this;have e:(some l[j]).getD 0=l[j]:=rfl;rw[e] at this;omega
  refine (rmul27_ok vL vC vM vx vy n G L K x y 10000 10000 W n7 hG E t hl c rg (k x λj p=>(r j p).1) (k y λj p=>(r j om).2) (by decide) o m a2 a4).mono ?_;rintro w f ⟨ro,f⟩;simp(disch:=omega)only[go_sem];refine⟨K,t,z.trans f,.inr ⟨c,.inr ⟨o,m,.inr ⟨?_,w,rfl,ro.si⟩⟩⟩⟩;rw[List.any_append,Bool.or_eq_false_iff];refine⟨List.any_eq_false.2 λv U=>?_,List.any_eq_false.2 λv U=>?_⟩
  ·have:=k x (λj p=>(r j p).1) v U
   rw[(zA v).2 om];decide
  ·have:=k y (λj p=>(r j om).2) v U
   rw[(zA v).2 om];decide
 have A:=bM a1
 have k:i<x.length:=om
 have g:=cx i k
 have B:=cy i om
 have f: ∀v:Int,(v< -10000∨10000<v)->(v∈x∨v∈y)->(x++y).any big27=true:=λv U l=>List.any_eq_true.2 ⟨v,sZ.2 l,bM U⟩
 have q:=mem x i k
 have F:=mem y i om
 obtain⟨a,ha⟩:=JR (x.getD i 0)
 obtain⟨b,hb⟩:=JR (y.getD i 0)
 rw[ha] at g q
 rw[hb] at B F
 by_cases q1:a< -10000
 ·have k:=bM q1
  simp(disch:=omega)only[go_sem,d,A,s.ixa,g,k,fG]
  exact⟨K,t,z,.inr ⟨c,.inr ⟨o,m,.inl ⟨f a (.inl q1) (.inl q),trivial⟩⟩⟩⟩
 have k:=bJ q1
 by_cases q2:10000<a
 ·have l:=bM q2
  simp(disch:=omega)only[go_sem,d,A,s.ixa,g,k,l,fG]
  exact⟨K,t,z,.inr ⟨c,.inr ⟨o,m,.inl ⟨f a (.inr q2) (.inl q),trivial⟩⟩⟩⟩
 have l:=bJ q2
 by_cases q3:b< -10000
 ·have q:=bM q3
  simp(disch:=omega)only[go_sem,d,A,s.ixa,g,Q.ixa,B,k,l,q,fG]
  exact⟨K,t,z,.inr ⟨c,.inr ⟨o,m,.inl ⟨f b (.inl q3) (.inr F),trivial⟩⟩⟩⟩
 have q:=bJ q3
 by_cases q4:10000<b
 ·have J:=bM q4
  simp(disch:=omega)only[go_sem,d,A,s.ixa,g,Q.ixa,B,k,l,q,J,fG]
  exact⟨K,t,z,.inr ⟨c,.inr ⟨o,m,.inl ⟨f b (.inr q4) (.inr F),trivial⟩⟩⟩⟩
 have J:=bJ q4
 simp(disch:=omega)only[go_sem,d,A,s.ixa,g,Q.ixa,B,k,l,q,J]
 rw[dY i]
 refine⟨x.length-(i+1),om,i+1,aA rfl,om,λj p=>?_,rfl⟩
 by_cases e:j=i
 ·subst e
  exact⟨by rw[ha];exact (zA a).2 ⟨q1,q2⟩,by rw[hb];exact (zA b).2 ⟨q3,q4⟩⟩
 ·exact r j om
theorem gc_of {h:H}{k:V}{d:Int}{O:List (List Int)}{R:List (List (List Int))}(o:ChI h k d O R)(F:d<=7∨64<d)(f:chkE d O R=0):
  ∃(n:Nat) (O':LN) (R':jL),d=(n:Int)/\O=O'.map zi/\R=R'.map (List.map zi)/\GC (λ_=>False) h k n O' R' (Ir n R'):=by
 unfold chkE at f
 split at f
 ·cases f
 ·split at f
  ·rename_i G x
   obtain⟨n,O',R',rfl,B,J,rfl,rfl,v⟩:=x
   obtain⟨z,p,rfl,r,u⟩:=o
   obtain⟨w,y,t⟩:=r
   obtain⟨A,q,j,m⟩:=u
   have b: ∀v:V,Kj (λ_=>False) v:=λv=>by cases v<;>first|exact id|trivial
   have all: ∀{e:List V} {l:LN},All2 (SI h) e (l.map zi)->PVs (λ_=>False) h e l:=λ{e l} a=>by
    have c:=All2.length a;rw[iR] at c
    refine All2.iC c λi hi g=>⟨?_,b _⟩
    have:=All2.get a i hi (by rw[iR];exact g);rwa [List.getElem_map] at this
   refine⟨n,O',R',rfl,rfl,rfl,⟨z,p,w,A,rfl,y,b _,all t,q,b _,?_⟩,v.2,v.grp,B,om⟩
   have c:=All2.length j
   rw[iR] at c
   refine All2.iC c λi hi g=>?_
   have:=All2.get j i hi (by rw[iR];exact g)
   rw[List.getElem_map] at this
   obtain⟨e,s,a⟩:=this
   exact⟨e,s,b _,all a,m _ (xR _)⟩
  ·cases f
structure Sml (d:Int)(O:List (List Int))(R:List (List (List Int))):Prop where
 deg:d<=6∨64<d
 lo:O.length<=12
 lr:R.length<=12
 ro: ∀i,i<O.length->(O.getD i []).length<=12
 rr: ∀i,i<R.length->(R.getD i []).length<=12/\ ∀k,k<(R.getD i []).length->((R.getD i []).getD k []).length<=12
theorem Sml.small {d:Int}{O:List (List Int)}{R:List (List (List Int))}(s:Sml d O R):SmallO O/\SmallR R:=
 ⟨⟨by have:=s.lo;omega,λi hi=>by have:=s.ro i hi;omega⟩,⟨by have:=s.lr;omega,λi hi=>by have:=(s.rr i hi).1;omega⟩⟩
end Go.Proofs.YtapfcpkecmmagaaGreat
