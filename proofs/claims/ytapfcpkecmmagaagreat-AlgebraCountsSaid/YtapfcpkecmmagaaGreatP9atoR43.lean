/- Texts of the claim. -/
import Derived.Test.YtapfcpkecmmagaaGreatP6ktoP8r
import Derived.Test.YtapfcpkecmmagaaGreatP5etoR1
import Derived.Test.YtapfcpkecmmagaaGreatDp2toP5d
set_option maxHeartbeats 64000000
namespace Go.Proofs.YtapfcpkecmmagaaGreat
open Go Go.Ay Go.Pm
set_option maxRecDepth 100000
open Classical in
noncomputable def fstK (a:List Nat)(n i:Nat):List Nat:=(List.range i).filter λj=>decide (gK a n j)
theorem fstK_succ (a:List Nat)(n i:Nat):(gK a n i->fstK a n (i+1)=fstK a n i++ [i])/\(¬gK a n i->fstK a n (i+1)=fstK a n i):=by
 classical
 unfold fstK;rw[List.range_succ,List.filter_append];constructor
 ·intro h;simp [List.filter,h]
 ·intro h;simp [List.filter,h]
theorem fstK_len (a:List Nat)(n i:Nat):(fstK a n i).length<=i:=by
 unfold fstK;have:=List.length_filter_le (λj=> @decide (gK a n j) (Classical.propDecidable _)) (List.range i);rwa [zE] at this
def itK (a:List Nat)(i s:Nat):List Nat:=(List.range s).map λt=>it a t i
theorem itK_succ (a:List Nat)(i s:Nat):itK a i (s+1)=itK a i s++ [it a s i]:=by
 unfold itK;rw[List.range_succ,List.map_append];rfl
theorem rall_ok (u:V)(n:Nat)(a:List Nat)(h:H)(hn:n<=64)(A:bT n a)(hu:SI h u (zi a)):
  Ev T 77 [u] h (λv h'=> ∃ws,Own h' v 1 ws h.next/\PVs (λq=>q<h.next) h' ws (jS a n)/\Fr h h'):=by
 refine bH c_ref01_all rfl rfl ?_
 have lu:=hu.lens
 rw[aQ,A.len] at lu
 obtain⟨id,off,sh,a3,hc⟩:=hu.open
 rw[aQ,A.len] at sh a3 hc
 simp(disch:=omega)only[go_sem,c_ref01_all,aF,lu,mks_bools h n om]
 obtain⟨S,hS⟩:=IP h.next
 obtain⟨R,e1,n1,g1,o1,f1⟩:=dL hS (rc n λ_=>V.bool false)
 rw[hS,e1]
 refine aH (λk' f w=> ∃(i:Nat) (G:V) (Y:List V),(∃g:Nat->V,f= [u,g 1,G,.sl S 0 n (.kn n),aB i,g 5,g 6,g 7,g 8,g 9])/\i<=n/\Own w G 1 Y (S+1)/\PVs (λq=>q<=S∨BlkS G q) w Y ((fstK a n i).map (yY a))/\
   w.get S=some (.cells false (rc n λj=> .bool (snB a i 0 j)))/\S<w.next/\Fr h w/\k'=n-i) n
  ⟨0,.aD, [],aA rfl,eY _,Own.aD _ _ _,trivial,by rw[g1,show (rc n λj=>V.bool (snB a 0 0 j))=rc n λ_=>V.bool false from aX λj _=>by rw[snB_zero]],om,f1,rfl⟩ ?_
 clear g1 e1 o1 f1 n1 R
 rintro k' f d ⟨i,G,Y,⟨g,rfl⟩,hi,ow,Q,gS,b1,F,rfl⟩
 by_cases a0:(i:Int)<(n:Int)
 case neg=>
  have d1:=bM a0;obtain rfl:i=n:=om
  simp(disch:=omega)only[go_sem,lu,d1];exact⟨Y,ow.le om,PVs.weak Q λq _ N=> .inl om,F⟩
 have d1:=bV a0
 have k:i<n:=om
 have B:=λj off m c (e:G=V.sl j off m c)=>ow.in j off m c e
 have lw:=All2.length Q
 rw[iK] at lw
 have lf:=fstK_len a n i
 obtain⟨p0,p1,_⟩:=iT A k
 have a0:=zZ A k
 simp(disch:=omega)only[go_sem,lu,d1]
 refine bW (λvs w=> ∃(x:V) (l:List Nat),(∃g:Nat->V,vs= [u,g 1,G,.sl S 0 n (.kn n),aB i,x,g 6,g 7,g 8,g 9])/\(gK a n i->l=yY a i)/\(¬gK a n i->l= [])/\Own w x 1 (ints (zi l)) d.next/\
   w.get S=some (.cells false (rc n λj=> .bool (snB a (i+1) 0 j)))/\d.next<=w.next/\ ∀q,q<d.next->q≠S->w.get q=d.get q) ?_ ?_
 ·refine aH (λk' f w=> ∃(s:Nat) (x:V),(∃g:Nat->V,f= [u,g 1,G,.sl S 0 n (.kn n),aB i,x,aB (it a s i:Nat),g 7,g 8,g 9])/\s<=jA a i/\(¬gK a n i->s=0)/\Own w x 1 (ints (zi (itK a i s))) d.next/\
    w.get S=some (.cells false (rc n λj=> .bool (snB a i s j)))/\d.next<=w.next/\(∀q,q<d.next->q≠S->w.get q=d.get q)/\k'=jA a i-s) (jA a i)
   ⟨0,.aD,aA rfl,eY _,λ_=>rfl,Own.aD _ _ _,gS,fH _,λ_ _ _=>rfl,rfl⟩ ?_
  clear g
  rintro k' f J ⟨s,x,⟨g,rfl⟩,hs,a4,L,r,n3,P,rfl⟩
  have kl:=qQ A k s
  have cS:J.cell S (it a s i)=some (.bool (snB a i s (it a s i))):=gO r kl
  have e3:decide (((it a s i:Nat):Int)<0)=false:=bM om
  have e4:decide ((n:Int)<=((it a s i:Nat):Int))=false:=bM om
  by_cases y:snB a i s (it a s i)=true
  ·rw[y] at cS
   simp(disch:=omega)only[go_sem,e3,e4,cS]
   by_cases p:gK a n i
   ·have a2:s=jA a i:=by
     have:=snB_new A k p hs;rw[y] at this;have h5: ¬s<jA a i:=λh=>by have:=this.2 h;cases this
     omega
    subst a2;refine⟨x,itK a i (jA a i),aA rfl,λ_=>rfl,λh=>absurd p h,L,?_,n3,P⟩;rw[r];congr 2;exact aX λj _=>by rw[snB_next A k]
   ·obtain rfl:=a4 p
    refine⟨x, [],aA rfl,λh=>absurd h p,λ_=>rfl,L,?_,n3,P⟩
    rw[r]
    congr 2
    exact aX λj _=>by rw[snB_skip A k p]
  ·have K:snB a i s (it a s i)=false:=by simpa using y
   rw[K] at cS
   have p:gK a n i:=Bz λp=>by
    obtain rfl:=a4 p;have d: ∃w,w<i/\ ∃t,it a t w=i:=Bz λhn=>p ((sI A k).2 λw hj t e=>hn ⟨w,hj,t,e⟩)
    exact y (snB_iff.2 (.inl d))
   have a2:=(snB_new A k p hs).1 K
   have pt:=bE (vs:=rc n λj=> .bool (snB a i s j)) (off:=it a s i) (by rw[cK];exact kl) J S (.bool true)
   rw[eG] at pt
   obtain⟨h4,k,n4,g4,U⟩:=nP J S (rc n λj=>if j=it a s i then V.bool true else .bool (snB a i s j))
   rw[k] at pt
   have hr:(rc n λj=>if j=it a s i then V.bool true else .bool (snB a i s j))=rc n λj=> .bool (snB a i (s+1) j):=aX λj _=>by
    rw[snB_step];split<;>rfl
   rw[hr] at g4
   have a9:=L.keep (h':=h4) om λq off m c e N=>U q (by have:=(L.in _ _ _ _ e).2.1;omega)
   have ll:(itK a i s).length=s:=by unfold itK;simp
   obtain⟨h5,e6,n5,g5,o5,f5⟩:=dL (h:=h4) rfl [aB (it a s i:Nat)]
   obtain⟨h6,a6,p6⟩:=(a9.fr f5).push (bytes:=8) (SV.one om g5 (.kn 1)) (n:=s) (m:=1) (by rw[aL,aQ];omega) rfl om om om
   have j:=p6.next
   have ci:h6.cell id (off+it a s i)=some (aB (a.getD (it a s i) 0:Nat)):=by
    have N:=a3 om;have j:=F.next
    have j:h6.get id=d.get id:=by
     rw[p6.old id om (λq o m c e W=>by have:=(L.in _ _ _ _ e).2.1;omega),o5 id om,U id om,P id om om]
    unfold H.cell;rw[j];show d.cell id (off+it a s i)=_;rw[F.cell N,hc _ kl];congr 2;simp [zi,A.len,kl]
   have a1:=bls_i1 h4 ((it a s i:Nat):Int)
   rw[show ints [((it a s i:Nat):Int)]= [aB (it a s i:Nat)] from rfl,e6] at a1
   rw[n5] at a6
   simp(disch:=omega)only[go_sem,e3,e4,cS,r,pt,a1,a6,sh.ixa,ci]
   refine⟨jA a i-(s+1),om,s+1,.sl (h4.next+1) 0 (s+1) (.un 1),?_,om,λh=>absurd p h,?_,?_,om,λq R d=>?_,rfl⟩
   ·rw[show it a (s+1) i=a.getD (it a s i) 0 by rw[mG a s i 1];rfl]
    exact aA rfl
   ·have t:=p6.own (by rw[aL,aQ];omega) rfl (b:=d.next) om
    rw[itK_succ,zi_snoc,jZ]
    rw[n5] at t
    exact t
   ·rw[p6.old S om (λq o m c e W=>by have:=(L.in _ _ _ _ e).2.1;omega),o5 S om];exact g4
   ·rw[p6.old q om (λq' o m c e W=>by have:=(L.in _ _ _ _ e).2.1;omega),o5 q om,U q d,P q R d]
 clear g
 rintro f J ⟨x,l,⟨g,rfl⟩,f,a7,L,r,n3,P⟩
 have F3:Fr h J:=⟨by have:=F.next;omega,λq N=>by rw[P q (by have:=F.next;omega) om];exact F.get q N⟩
 have Z:Own J G 1 Y (S+1):=ow.keep n3 λq o m c e N=>P q N (by have:=(B _ _ _ _ e).2.1;omega)
 have g:Fx (λq=>q<=S∨BlkS G q) d J:=⟨n3,λq R d=>P q R (λe=>d (.inl om))⟩
 have O:=PVs.fx Q g
 have lc:cV x=some (aB (l.length:Int)):=by
  have:=SI.lens (show SI J x (zi l) from L.sv);rwa [aQ] at this
 obtain⟨a8,b0⟩:=fstK_succ a n i
 by_cases p:gK a n i
 ·have el:=f p
  have ll:l.length=jA a i:=by rw[el,iZ]
  have d2:decide ((0:Int)<(l.length:Int))=true:=bV om
  have pc:PV (λq=>q<=S∨BlkS G q) J x l:=by
   refine⟨L.sv,?_⟩
   cases x with
   |sl q o m c=>
    have h5:=(L.in _ _ _ _ rfl).2.1;rintro (h6|⟨f,f,f,e⟩)
    ·omega
    ·have:=(B _ _ _ _ e).1;omega
   |_=>trivial
  obtain⟨h4,e4,n4,g4,U,f4⟩:=dL (h:=J) rfl [x]
  obtain⟨h5,a5,p5⟩:=(Z.fr f4).push (bytes:=24) (SV.one om g4 (.kn 1)) (n:=(fstK a n i).length) (m:=1) om rfl om om om
  have n5:=p5.next
  rw[n4] at a5
  simp(disch:=omega)only[go_sem,lc,d2,cJ _ (z:= .aD) pc.dQ.1 pc.dQ.2,e4,a5]
  rw[dX i]
  have x5:Fx (λq=>q<=S∨BlkS G q) J h5:=⟨om,λq R d=>by rw[p5.old q om (λq' o m c e W=>d (.inr ⟨o,m,c,W▸e⟩)),U q om]⟩
  have w5: ∀q,q<J.next->(q<=S∨BlkS (.sl (J.next+1) 0 ((fstK a n i).length+1) (.un 1)) q)->(q<=S∨BlkS G q):=λq R d=>by
   rcases d with d|⟨_,_,_,e⟩
   ·exact .inl d
   ·cases e;omega
  have t:=p5.own om rfl (b:=S+1) om
  rw[n4] at t
  refine⟨n-(i+1),om,i+1,_,_,aA rfl,om,t,?_,?_,om,⟨by have:=F3.next;omega,λq N=>?_⟩,rfl⟩
  ·rw[a8 p,List.map_append,show [i].map (yY a)= [l] by rw[el];rfl]
   exact (PVs.go O x5 w5).append (PVs.one (PV.go pc x5 w5))
  ·rw[p5.old S om (λq' o m c e W=>by have:=(B _ _ _ _ e).2.1;omega),U S om];exact r
  ·rw[p5.old q om (λq' o m c e W=>by have:=(B _ _ _ _ e).2.1;omega),U q (by have:=F3.next;omega)];exact F3.get q N
 ·have el:=a7 p
  have d2:decide ((0:Int)<(l.length:Int))=false:=by rw[el];rfl
  simp(disch:=omega)only[go_sem,lc,d2]
  rw[dX i]
  exact⟨n-(i+1),om,i+1,G,Y,aA rfl,om,Z,by rw[b0 p];exact O,r,om,F3,rfl⟩
theorem lcm_take {l:List Nat}{k:Nat}(a:k<l.length):lD (l.take (k+1))=lD (l.take k)/Nat.gcd (lD (l.take k)) (l.getD k 0)*l.getD k 0:=by
 unfold lD;rw[take_getD 0 a,List.foldl_append];rfl
theorem lcm_pre {l:List Nat}{m k:Nat}(h:lD l∣m):lD (l.take k)∣m:=by
 rw[pD] at h ⊢;exact λc a=>h c (List.mem_of_mem_take a)
theorem rorder_ok (u:V)(n:Nat)(a:List Nat)(h:H)(n0:1<=n)(hn:n<=7)(A:bT n a)(Z:SI h u (zi a)):
  Ev T 123 [u] h (λv h'=>v= .tup [aB (dW a n:Nat),aB 0]/\Fr h h'):=by
 refine bH c_ref01_Order rfl rfl ?_
 simp(disch:=omega)only[go_sem,c_ref01_Order,aF]
 refine (ref_Check_ok u _ h (by rw[aQ,A.len];omega) Z).mono ?_
 rw[pck_zi A n0 om]
 rintro _ b ⟨rfl,Y⟩
 simp(disch:=omega)only[go_sem]
 refine bB (λN=>(N rfl).elim) (λ_=>?_)
 simp(disch:=omega)only[go_sem]
 refine (rall_ok u n a b om A (Z.mono Y)).mono ?_
 rintro vl z ⟨b,b,pl,f2⟩
 have sl:=PVs.sp' b.sv pl
 obtain⟨C,x⟩:=IP (jS a n)
 rw[x] at sl
 obtain⟨W,ev,id,G,Q,sh,N⟩:=sp_open sl
 have b: ∀k,lD ((C.map List.length).take k)∣420:=λk=>lcm_pre (by rw[←x];exact ordP_420 A hn)
 have h0: ∀k,0<lD ((C.map List.length).take k):=λk=>Nat.pos_of_dvd_of_pos (b k) om
 have p: ∀k,lD ((C.map List.length).take k)<=420:=λk=>Nat.le_of_dvd om (b k)
 have F: ∀k,k<C.length->(C.getD k []).length<=420:=λk U=>by
  have e:=b (k+1);rw[pD] at e;refine Nat.le_of_dvd om (e _ ?_);have e:((C.map List.length).take (k+1))=(C.take (k+1)).map List.length:=by rw[List.map_take]
  rw[e];refine pU.2 ⟨C.getD k [],?_,rfl⟩;rw[take_getD [] U];simp
 have b:C.length<=n:=by
  rw[←x];unfold jS;rw[iK];exact fstK_len a n n
 simp(disch:=omega)only[go_sem]
 refine aH (λP f t=> ∃(k:Nat),(∃g:Nat->V,f= [g 0,g 1,g 2,g 3,aB ((lD ((C.map List.length).take k):Nat):Int),vl,aB k,g 7,g 8])/\k<=C.length/\Fr z t/\P=C.length-k) C.length
  ⟨0,aA rfl,eY _,Fr.refl z,rfl⟩ ?_
 rintro P f w ⟨k,⟨g,rfl⟩,U,L,rfl⟩
 by_cases s:(k:Int)<(C.length:Int)
 case neg=>
  have B:=bM s;obtain rfl:k=C.length:=om
  simp(disch:=omega)only[go_sem,W,B];refine⟨?_,(Y.trans f2).trans L⟩;rw[yR (by rw[iK];exact fH _),←x];rfl
 have B:=bV s
 have d:k<C.length:=om
 obtain⟨g,e,b⟩:=N k d
 have cell: ∀t,Fr z t->t.cell id (G+k)=some (Q.getD k V.undef):=λt f=>by rw[f.cell g];exact e
 have l:=b.lens
 rw[aQ] at l
 have o:=SV.dJ b
 generalize Q.getD k V.undef=b at cell l o
 obtain⟨m,y⟩:=IP (lD ((C.map List.length).take k))
 obtain⟨c,j⟩:=IP ((C.getD k []).length)
 have K:0<m:=by rw[←y];exact h0 k
 have b:m<=420:=by rw[←y];exact p k
 have b:c<=420:=by rw[←j];exact F k d
 have step:lD ((C.map List.length).take (k+1))=m/Nat.gcd m c*c:=by
  rw[lcm_take (by rw[iK];exact d),y]
  have:(C.map List.length).getD k 0=c:=by
   rw[←j,List.getD,List.getD,Kt,eX d];rfl
  rw[this]
 have i:=p (k+1)
 rw[step] at i
 rw[j] at l
 rw[y]
 simp(disch:=omega)only[go_sem,W,B,sh.ixa,cell w L,l]
 have fb:Fr w (H.mk w.tr (w.next+16)):=(Fr.refl w).bL om
 refine (rgcd_ok m c _ om om).mono ?_
 rintro _ h4 ⟨rfl,b⟩
 have R:=(L.trans fb).trans b
 have b:0<Nat.gcd m c:=Nat.gcd_pos_of_pos_left c K
 have J:((Nat.gcd m c:Nat):Int)≠0:=om
 obtain⟨q,b⟩:=IP (m/Nat.gcd m c)
 have d:q<=m:=by rw[←b];exact Nat.div_le_self ..
 rw[b] at step i
 obtain⟨r,O⟩:=IP (q*c)
 rw[O] at step i
 have ed:((m:Nat):Int).tdiv ((Nat.gcd m c:Nat):Int)=(q:Int):=by
  rw[Int.tdiv_eq_ediv_of_nonneg om,←b];rfl
 have b:(q:Int)*(c:Int)=(r:Int):=by rw[←Int.natCast_mul,O]
 simp(disch:=omega)only[go_sem,cell h4 R,l,ev,o,J,ed,b]
 rw[dX k]
 exact⟨C.length-(k+1),om,k+1,by rw[step];exact aA rfl,om,R,rfl⟩
section
variable {a:List Nat} {n k j f s:Nat}
theorem cycs_at (c:k<(jS a n).length): ∃f,f<n/\(jS a n).getD k []=yY a f:=by
 have h:=getD_mem (d:=([]:List Nat)) c;unfold jS at h;obtain⟨f,b,e⟩:=pU.1 h;unfold yS at b;exact⟨f,Ae.1 (Sq.1 b).1,e.symm⟩
theorem cycs_cover (A:bT n a)(h:j<n): ∃k,k<(jS a n).length/\j∈(jS a n).getD k []:=by
 obtain⟨f,b,c,t,d⟩:=Vc A h
 have g:yY a f∈jS a n:=by
  unfold jS yS;refine pU.2 ⟨f,?_,rfl⟩;rw[Sq];exact⟨Ae.2 b,by simpa using c⟩
 obtain⟨k,c,e⟩:=vJ.1 g;refine⟨k,c,?_⟩;rw[List.getD,eX c,Option.getD_some,e];exact (Ov A b).2 ⟨t,d⟩
theorem per_ord (A:bT n a)(b:f<n):jA a f∣dW a n:=by
 rw[←rU A b,Dr A b,(kL A _).1 (Nat.dvd_refl _),eP b]
theorem cyc_at (b:s<jA a f):(yY a f).getD s 0=it a s f:=by
 unfold yY;simp [List.getD,b]
theorem pow_point {z:Int}(A:bT n a)(c:f<n)(p:s<jA a f):
  (yY a f).getD ((z%(jA a f:Int)+(s:Int))%(jA a f:Int)).toNat 0=(zp n a z).getD (it a s f) 0:=by
 have l:=(iT A c).1
 have d:=nI A
 obtain⟨m,h⟩:=per_ord A c
 obtain⟨e,i⟩:=IP ((z%(dW a n:Nat)).toNat)
 have d:=Int.emod_nonneg z (b:=(dW a n:Nat)) om
 have d:(e:Int)=z%(dW a n:Nat):=om
 have g:(e:Int)%(jA a f:Int)=z%(jA a f:Int):=by
  rw[d,Int.emod_emod_of_dvd _ (Int.ofNat_dvd.2 ⟨m,h⟩)]
 have o:((z%(jA a f:Int)+(s:Int))%(jA a f:Int)).toNat=(e+s)%jA a f:=by
  rw[←g,Int.emod_add_emod];rfl
 rw[o,cyc_at (Nat.mod_lt _ l),←Gx A c]
 unfold zp
 rw[i,←Dr A (qQ A c s),←mG,Nat.add_comm]
def wrC (C:LN)(k s j:Nat):Prop:=(∃q,q<k/\j∈C.getD q [])∨j∈(C.getD k []).take s
open Classical in
noncomputable def wrV (C:LN)(x:List Nat)(k s j:Nat):V:=if wrC C k s j then aB (x.getD j 0:Nat) else aB 0
theorem wrV_set {C:LN}{x:List Nat}(d:s<(C.getD k []).length):wrV C x k (s+1) j=if j=(C.getD k []).getD s 0 then aB (x.getD j 0:Nat) else wrV C x k s j:=by
 classical
 unfold wrV
 have e:wrC C k (s+1) j↔wrC C k s j∨j=(C.getD k []).getD s 0:=by
  unfold wrC;rw[take_getD 0 d,sP,List.mem_singleton,or_assoc]
 by_cases b:j=(C.getD k []).getD s 0
 ·rw[aV b,aV (e.2 (.inr b))]
 ·rw[aZ b]
  by_cases c:wrC C k s j
  ·rw[aV c,aV (e.2 (.inl c))]
  ·rw[aZ c,aZ (λh=>(e.1 h).elim c b)]
theorem wrV_next {C:LN}{x:List Nat}:wrV C x k (C.getD k []).length j=wrV C x (k+1) 0 j:=by
 classical
 unfold wrV
 have e:wrC C k (C.getD k []).length j↔wrC C (k+1) 0 j:=by
  unfold wrC;rw[List.take_length,List.take_zero];constructor
  ·rintro (⟨q,c,b⟩|h)
   ·exact .inl ⟨q,om,b⟩
   ·exact .inl ⟨k,om,h⟩
  ·rintro (⟨q,c,b⟩|h)
   ·by_cases e:q=k
    ·subst e;exact .inr b
    ·exact .inl ⟨q,om,b⟩
   ·cases h
 by_cases h:wrC C k (C.getD k []).length j
 ·rw[aV h,aV (e.1 h)]
 ·rw[aZ h,aZ (λb=>h (e.2 b))]
theorem rpow_ok (u:V)(z:Int)(n:Nat)(a:List Nat)(h:H)(n0:1<=n)(hn:n<=64)(A:bT n a)(hu:SI h u (zi a)):
  Ev T 44 [u,aB z] h (λv h'=> ∃vl,v= .tup [vl,aB 0]/\(SI h' vl (zi (zp n a z))/\ ∀id off m c,vl= .sl id off m c->h.next<=id)/\Fr h h'):=by
 refine bH c_ref01_Pow rfl rfl ?_
 simp(disch:=omega)only[go_sem,c_ref01_Pow,aF]
 refine (ref_Check_ok u _ h (by rw[aQ,A.len];omega) hu).mono ?_
 rw[pck_zi A n0 om]
 rintro _ h1 ⟨rfl,f1⟩
 have lu:=hu.lens
 rw[aQ,A.len] at lu
 simp(disch:=omega)only[go_sem]
 refine bB (λhc=>(hc rfl).elim) (λ_=>?_)
 obtain⟨S,hS⟩:=IP h1.next
 obtain⟨Y,e2,n2,g2,o2,f2⟩:=dL hS (rc n λ_=>aB 0)
 simp(disch:=omega)only[go_sem,lu,mks_zeros h1 n om,hS,e2]
 refine (rall_ok u n a Y hn A (hu.mono (f1.trans f2))).mono ?_
 rintro vl l ⟨ws,ol,pl,f3⟩
 obtain⟨C,hC⟩:=IP (jS a n)
 rw[hC] at pl
 obtain⟨lv,id,off,sh,hc⟩:=PVs.open ol.sv pl
 have a8:C.length<=n:=by
  rw[←hC];unfold jS;rw[iK];exact fstK_len a n n
 have X:bT n (zp n a z):=iB A _
 have n3:=f3.next
 have a4:=f2.trans f3
 have g3:l.get S=some (.cells false (rc n λ_=>aB 0)):=by rw[f3.get S om];exact g2
 have a8: ∀k,k<C.length->id<l.next:=λk N=>(hc k N).1
 have gC: ∀k,k<C.length-> ∃f,f<n/\C.getD k []=yY a f:=λk N=>by rw[←hC] at N ⊢;exact cycs_at N
 obtain⟨x,hx⟩:=IP (zp n a z)
 rw[hx] at X ⊢
 simp(disch:=omega)only[go_sem]
 refine bW (λvs d=>(∃g:Nat->V,vs= [g 0,g 1,g 2,g 3,g 4,.sl S 0 n (.kn n),g 6,g 7,g 8,g 9,g 10,g 11,g 12])/\d.get S=some (.cells false (rc n (wrV C x C.length 0)))/\l.next<=d.next/\ ∀q,q<l.next->q≠S->d.get q=l.get q) ?_ ?_
 ·refine aH (λk' b d=> ∃(k:Nat),(∃g:Nat->V,b= [g 0,aB z,g 2,g 3,g 4,.sl S 0 n (.kn n),vl,aB k,g 8,g 9,g 10,g 11,g 12])/\k<=C.length/\d.get S=some (.cells false (rc n (wrV C x k 0)))/\l.next<=d.next/\(∀q,q<l.next->q≠S->d.get q=l.get q)/\k'=C.length-k) C.length
   ⟨0,aA rfl,eY _,?_,fH _,λ_ _ _=>rfl,rfl⟩ ?_
  ·rw[g3,show rc n (wrV C x 0 0)=rc n λ_=>aB 0 from aX λj _=>?_]
   unfold wrV
   rw[aZ]
   rintro (⟨q,hq,_⟩|h)
   ·omega
   ·rw[List.take_zero] at h;cases h
  rintro k' b h4 ⟨k,⟨g,rfl⟩,N,y,n4,U,rfl⟩
  by_cases a1:(k:Int)<(C.length:Int)
  case neg=>
   have d1:=bM a1;obtain rfl:k=C.length:=om
   simp(disch:=omega)only[go_sem,lv,d1];exact⟨aA rfl,y,n4,U⟩
  have d1:=bV a1
  have a1:k<C.length:=om
  obtain⟨i1,c1,Z⟩:=hc k a1
  obtain⟨f,hf,R⟩:=gC k a1
  have p0:=(iT A hf).1
  have a1:=zZ A hf
  have W:=Z.si.lens
  rw[aQ,R,iZ] at W
  have a1:Y.next<=id∨C.length=0:=by
   rcases ol with ⟨_,e⟩|⟨i,m,a6,a1,e,e2,e3,e4,e5,e6⟩
   ·have:=All2.length pl
    rw[e,List.length_nil] at this;exact .inr this.symm
   ·have:=sh.ixa .i64 0 om om
    rw[e,sD om (by rw[jY] at e2;have:=All2.length pl;omega)] at this;simp only[Option.some.injEq,V.ptr.injEq] at this;exact .inl om
  have J:h4.cell id (off+k)=some (ws.getD k V.undef):=by
   unfold H.cell;rw[U id i1 om];exact c1
  generalize ws.getD k V.undef=vc at c1 Z W J
  obtain⟨K,P,G,O,a3⟩:=Z.si.open
  rw[aQ,R,iZ] at G O a3
  have a7:K≠S:=by
   have ho:=Z.off;rcases Z.si with ⟨_,h0⟩|⟨i,o,len,a6,ro,vs,e,e2,e3,_⟩
   ·have:(ints (zi (C.getD k []))).length=0:=by rw[h0];rfl
    rw[aL,aQ,R,iZ] at this;omega
   ·rw[aL,aQ,R,iZ,jY] at e2
    rw[e] at ho;have h7:=G.ixa .i64 0 om om;rw[e,sD om om] at h7;simp only[Option.some.injEq,V.ptr.injEq] at h7;have a1: ¬i<Y.next:=ho;omega
  have a0:=SV.dJ Z.si
  simp(disch:=omega)only[go_sem,lv,d1,sh.ixa,J]
  refine loop_end (λvs d=>(∃g:Nat->V,vs= [g 0,aB z,g 2,g 3,g 4,.sl S 0 n (.kn n),vl,aB k,g 8,g 9,g 10,g 11,g 12])/\d.get S=some (.cells false (rc n (wrV C x (k+1) 0)))/\l.next<=d.next/\(∀q,q<l.next->q≠S->d.get q=l.get q)) ?_ ?_
  ·refine aH (λk' b d=> ∃(s:Nat),(∃g:Nat->V,b= [g 0,aB z,g 2,g 3,g 4,.sl S 0 n (.kn n),vl,aB k,vc,aB s,g 10,g 11,g 12])/\s<=jA a f/\d.get S=some (.cells false (rc n (wrV C x k s)))/\l.next<=d.next/\(∀q,q<l.next->q≠S->d.get q=l.get q)/\k'=jA a f-s) (jA a f)
    ⟨0,aA rfl,eY _,y,n4,U,rfl⟩ ?_
   clear g y n4 U J
   rintro k' b L ⟨s,⟨g,rfl⟩,i,y,n5,o5,rfl⟩
   by_cases Q:(s:Int)<(jA a f:Int)
   case neg=>
    have d2:=bM Q;obtain rfl:s=jA a f:=om
    simp(disch:=omega)only[go_sem,W,d2];refine⟨aA rfl,?_,n5,o5⟩;rw[y];congr 2;refine aX λj _=>?_
    rw[←wrV_next,R,iZ]
   have d2:=bV Q
   have w:s<jA a f:=om
   have r: ∀(d:H),(∀q,q<l.next->q≠S->d.get q=l.get q)-> ∀t,t<jA a f->d.cell K (P+t)=some (aB ((yY a f).getD t 0:Nat)):=λd o t ht=>by
    unfold H.cell;rw[o K (O om) a7];show l.cell K (P+t)=_;rw[a3 t ht];congr 2;simp [zi,List.getD,iZ,ht]
   have d:=r L o5 s w
   have kl:=qQ A hf s
   rw[cyc_at w] at d
   have hb: ∀q,q<l.next->q≠S->(H.mk L.tr (L.next+19)).get q=l.get q:=o5
   have B:=r _ hb s w
   rw[cyc_at w] at B
   have pp:(0:Int)<(jA a f:Int):=om
   simp(disch:=omega)only[go_sem,W,d2,G.ixa,d]
   refine (pick_ok z (jA a f) _ pp om).mono ?_
   rintro _ d ⟨rfl,e⟩
   obtain rfl:=e.symm
   have d:=tmod_range z pp
   simp(disch:=omega)only[go_sem,B,a0,W]
   refine (pick_ok (z%(jA a f:Int)+(s:Int)) (jA a f) _ pp om).mono ?_
   rintro _ d ⟨rfl,e⟩
   obtain rfl:=e.symm
   have i:=tmod_range (z%(jA a f:Int)+(s:Int)) pp
   have d:=pow_point (z:=z) A hf w
   obtain⟨t,ht⟩: ∃t:Nat,(z%(jA a f:Int)+(s:Int))%(jA a f:Int)=(t:Int):=⟨_,(Int.toNat_of_nonneg i.1).symm⟩
   rw[ht] at d i ⊢
   rw[Cd,hx] at d
   have ct:=r _ hb t om
   rw[d] at ct
   obtain⟨F,a5,d,a2⟩: ∃F:H,H.mk L.tr (L.next+19)=F/\F.next=L.next+19/\ ∀q,F.get q=L.get q:=⟨_,rfl,rfl,λ_=>rfl⟩
   rw[a5] at ct B ⊢
   obtain⟨p,hp⟩:=IP (it a s f)
   rw[hp] at ct B kl ⊢
   have e3:decide ((p:Int)<0)=false:=bM om
   have e4:decide ((n:Int)<=(p:Int))=false:=bM om
   have i:F.get S=some (.cells false (rc n (wrV C x k s))):=by rw[a2];exact y
   have d:=bE (vs:=rc n (wrV C x k s)) (off:=p) (by rw[cK];exact kl) F S (aB (x.getD p 0:Nat))
   rw[eG] at d
   obtain⟨l,e6,l,g6,o6⟩:=nP F S (rc n λj=>if j=p then aB (x.getD p 0:Nat) else wrV C x k s j)
   rw[e6] at d
   simp(disch:=omega)only[go_sem,B,a0,W,G.ixa,ct,e3,e4,i,d]
   rw[dX s]
   refine⟨jA a f-(s+1),om,s+1,aA rfl,om,?_,om,λq h1 Y=>by rw[o6 q Y,a2];exact o5 q h1 Y,rfl⟩
   rw[g6]
   congr 2
   refine aX λj _=>?_
   rw[wrV_set (by rw[R,iZ];exact w),R,cyc_at w,hp]
   by_cases d:j=p
   ·rw[aV d,aV d,d]
   ·rw[aZ d,aZ d]
  clear g y n4 U J
  rintro b L ⟨⟨g,rfl⟩,y,n5,o5⟩
  simp(disch:=omega)only[go_sem]
  rw[dX k]
  exact⟨C.length-(k+1),om,k+1,aA rfl,om,y,n5,o5,rfl⟩
 rintro b h4 ⟨⟨g,rfl⟩,y,n4,U⟩
 simp(disch:=omega)only[go_sem]
 refine⟨_,rfl,?_,?_⟩
 ·have e:rc n (wrV C x C.length 0)=ints (zi x):=by
   have b:=Du x;rw[X.len] at b;rw[←b];refine aX λj b=>?_
   unfold wrV;obtain⟨k,N,F⟩:=cycs_cover A b;rw[hC] at N F;rw[aV (.inl ⟨k,N,F⟩)]
  rw[e] at y;have:=SV.all (h:=h4) (id:=S) (ro:=false) (vs:=ints (zi x)) (sz:=1) (len:=n) (by rw[aL,aQ,X.len,jY]) om y (.kn n);exact⟨this,λid off m c e=>by cases e;have:=f1.next;omega⟩
 ·refine⟨by have:=f1.next;omega,λq hq=>?_⟩
  have:=f1.next
  rw[U q om om,a4.get q om]
  exact f1.get q hq
end
section
variable {O:List (List Int)} {R:List (List (List Int))}
theorem sr_open {h:H}{v:V}(s:SR h v O):cV v=some (aB (O.length:Int))/\dJ v v=true/\v.cells= [v]/\v.one=true/\ ∃(id off:Nat) (ws:List V),Sl v 1 O.length id off/\ ∀i,i<O.length->id<h.next/\h.cell id (off+i)=some (ws.getD i V.undef)/\SI h (ws.getD i V.undef) (O.getD i []):=by
 have e:=s.lens;obtain⟨ws,sv,b⟩:=s;have a:=All2.length b;obtain⟨id,off,c,a,d⟩:=SV.shape sv O.length om om;exact⟨e,SV.dJ sv,(SV.dC sv).1,(SV.dC sv).2.1,id,off,ws,c,λi hi=>⟨a om,by rw[d i om];simp [List.getD,show i<ws.length by omega],Hf b hi⟩⟩
theorem srr_open {h:H}{v:V}(s:SRR h v R):cV v=some (aB (R.length:Int))/\dJ v v=true/\v.cells= [v]/\v.one=true/\ ∃(id off:Nat) (ws:List V),Sl v 1 R.length id off/\ ∀i,i<R.length->id<h.next/\h.cell id (off+i)=some (ws.getD i V.undef)/\SR h (ws.getD i V.undef) (R.getD i []):=by
 obtain⟨ws,sv,b,_⟩:=s;have e:=All2.length b;obtain⟨id,off,c,a,d⟩:=SV.shape sv R.length om om;refine⟨by unfold cV;rw[SV.len sv (n:=R.length) om om];rfl,SV.dJ sv,(SV.dC sv).1,(SV.dC sv).2.1,id,off,ws,c,λi hi=>⟨a om,by rw[d i om];simp [List.getD,show i<ws.length by omega],?_⟩⟩;have:=All2.get b i om hi;rw[List.getD,List.getD,eX (show i<ws.length by omega),eX hi];exact this
structure FrR (n:Nat)(O:List (List Int))(R:List (List (List Int)))(i k:Nat):Prop where
 row: ∀j,j<i->(O.getD j []).length<=n/\(O.getD j []).length=(R.getD j []).length
 perm: ∀j,j<i-> ∀x∈R.getD j [],x.length=n/\pckOk x=true
 last: ∀x∈(R.getD i []).take k,x.length=n/\pckOk x=true
theorem FrR.nat {n:Nat}(f:FrR n O R n 0)(j:R.length=n): ∃R':jL,R=R'.map (List.map zi)/\ ∀g∈R'.flatten,bT n g:=by
 have a: ∀r∈R,∀x∈r,x.length=n/\pckOk x=true:=λr b x c=>by
  obtain⟨i,hi,rfl⟩:=vJ.1 b;exact f.perm i om x (by rw[List.getD,eX hi];exact c)
 refine⟨R.map (List.map (List.map Int.toNat)),?_,λg e=>?_⟩
 ·rw[List.map_map]
  refine (List.map_id R).symm.trans (zD λr b=>?_);show r=(r.map (List.map Int.toNat)).map zi;rw[List.map_map];exact (List.map_id r).symm.trans (zD λx c=>(pckOk_isP (a r b x c).2).1)
 ·obtain⟨h,d,e⟩:=List.mem_flatten.1 e
  obtain⟨r,b,rfl⟩:=pU.1 d;obtain⟨x,c,rfl⟩:=pU.1 e;have:=(pckOk_isP (a r b x c).2).2;rwa [(a r b x c).1] at this
theorem FrR.next {n:Nat}{i k:Nat}(f:FrR n O R i k)(d:(R.getD i []).length<=k)(c:(O.getD i []).length<=n)(h2:(O.getD i []).length=(R.getD i []).length):FrR n O R (i+1) 0:=by
 have a:=f.last;rw[yR d] at a;refine⟨λj g=>?_,λj g=>?_,λx b=>by rw[List.take_zero] at b;cases b⟩
 ·by_cases e:j=i
  ·subst e;exact⟨c,h2⟩
  ·exact f.row j om
 ·by_cases e:j=i
  ·subst e;exact a
  ·exact f.perm j om
theorem pck_iff {x:List Int}(a:1<=x.length)(h2:x.length<=64):pck x=0↔pckOk x=true:=by
 unfold pck;rw[aZ om];constructor
 ·intro h
  split at h
  ·assumption
  ·omega
 ·intro h;rw[aV h]
theorem rcheck_ok (vc:V)(d:Int)(O:List (List Int))(R:List (List (List Int)))(h:H)(hc:ChI h vc d O R)(hd:d<=7∨64<d)(so:SmallO O)(sr:SmallR R):
  Ev T 104 [vc] h (λv h'=>v= aB (chkE d O R)/\Fr h h'):=by
 have c5:=hc
 obtain⟨vO,vR,rfl,sO,sR⟩:=hc
 refine bH c_ref08_Check rfl rfl ?_
 obtain⟨lO,e0,_,b7,d7,a8,a5,a0,cO⟩:=sr_open sO
 obtain⟨lR,e3,_,b1,d0,b0,b3,q,cR⟩:=srr_open sR
 obtain⟨B,hB⟩:=IP h.next
 obtain⟨b,e1,n1,g1,o1,p⟩:=dL hB [aB d,vO,vR]
 have c0: ∀a,Fr b a->a.cell B 0=some (aB d):=λa f=>by rw[f.cell om,H.aG g1];rfl
 have c1: ∀a,Fr b a->a.cell B 1=some vO:=λa f=>by rw[f.cell om,H.aG g1];rfl
 have N: ∀a,Fr b a->a.cell B 2=some vR:=λa f=>by rw[f.cell om,H.aG g1];rfl
 have rB: ∀a,Fr b a->a.row B 0 3=some [aB d,vO,vR]:=λa f=>aS (by rw[f.get B om];exact g1)
 have bx:=bF h (v:= aB d) (u:=vO) (w:=vR) rfl b7 b1
 by_cases a2:d<1
 ·have x1:=bV a2
  simp(disch:=omega)only[go_sem,c_ref08_Check,aF,bx,hB,e1,c0 b (Fr.refl _),x1]
  exact⟨by unfold chkE;rw[aV (.inl a2)],p⟩
 have x1:=bM a2
 by_cases a1:64<d
 ·have x2:=bV a1
  simp(disch:=omega)only[go_sem,c_ref08_Check,aF,bx,hB,e1,c0 b (Fr.refl _),x1,x2]
  exact⟨by unfold chkE;rw[aV (.inr a1)],p⟩
 have x2:=bM a1
 obtain⟨n,rfl⟩: ∃n:Nat,d=(n:Int):=⟨d.toNat,om⟩
 have J:1<=n:=om
 have c6:n<=7:=om
 by_cases d3:O.length=n
 case neg=>
  have x3:decide ((O.length:Int)≠(n:Int))=true:=bV om;simp(disch:=omega)only[go_sem,c_ref08_Check,aF,bx,hB,e1,c0 b (Fr.refl _),x1,x2,c1 b (Fr.refl _),lO,x3];exact⟨by rw[chk_form J om (λf=>d3 f.lo)],p⟩
 have x3:decide ((O.length:Int)≠(n:Int))=false:=bM om
 by_cases b6:R.length=n
 case neg=>
  have x4:decide ((R.length:Int)≠(n:Int))=true:=bV om;simp(disch:=omega)only[go_sem,c_ref08_Check,aF,bx,hB,e1,c0 b (Fr.refl _),x1,x2,c1 b (Fr.refl _),lO,x3,N b (Fr.refl _),lR,x4];exact⟨by rw[chk_form J om (λf=>b6 f.lr)],p⟩
 have x4:decide ((R.length:Int)≠(n:Int))=false:=bM om
 simp(disch:=omega)only[go_sem,c_ref08_Check,aF,bx,hB,e1,c0 b (Fr.refl _),x1,x2,c1 b (Fr.refl _),lO,x3,N b (Fr.refl _),lR,x4]
 have Q: ¬Frm n O R->chkE (n:Int) O R=3:=chk_form J om
 refine aH (λk' l a=> ∃(i:Nat) (G:V) (t:List V),(∃g:Nat->V,l= [g 0,.ptr B 0,g 2,aB n,G,aB i,g 6,g 7,g 8,g 9,g 10,g 11,g 12,g 13,g 14,g 15])/\i<=n/\Own a G 1 t b.next/\All2 (SI b) t (R.take i).flatten/\FrR n O R i 0/\Fr b a/\k'=n-i) n
   ⟨0,.aD, [],aA rfl,eY _,Own.aD _ _ _,trivial,⟨λj hj=>om,λj hj=>om,λx Z=>by rw[List.take_zero] at Z;cases Z⟩,Fr.refl b,rfl⟩ ?_
 rintro k' l e ⟨i,G,t,⟨g,rfl⟩,hi,ow,A,fr,F,rfl⟩
 by_cases b4:(i:Int)<(n:Int)
 case pos=>
  have d1:=bV b4;have Y:i<n:=om
  obtain⟨i1,ci,si⟩:=cO i om;obtain⟨j1,cj,sj⟩:=cR i om;have lo:=si.lens;have c8:=SV.dJ si;obtain⟨lr,c9,_,_,c4,a7,b5,P,cr⟩:=sr_open sj;have L: ∀a,Fr b a->a.cell d7 (a8+i)=some (a5.getD i V.undef):=λa f=>by rw[(p.trans f).cell i1];exact ci
  have o: ∀a,Fr b a->a.cell d0 (b0+i)=some (b3.getD i V.undef):=λa f=>by rw[(p.trans f).cell j1];exact cj
  generalize a5.getD i V.undef=vo at L lo c8;generalize b3.getD i V.undef=vr at o lr c9 P sj;have e5:(R.getD i []).length<1000000:=sr.2 i om
  by_cases q1:(n:Int)<((O.getD i []).length:Int)
  case pos=>
   have y1:=bV q1;simp(disch:=omega)only[go_sem,d1,c1 e F,N e F,a0.ixa,q.ixa,L e F,o e F,lo,lr,y1];exact⟨by rw[Q λf=>by have:=f.row i Y;omega],p.trans (F.bL om)⟩
  have y1:=bM q1
  by_cases q2:(O.getD i []).length=(R.getD i []).length
  case neg=>
   have y2:decide (((O.getD i []).length:Int)≠((R.getD i []).length:Int))=true:=bV om;simp(disch:=omega)only[go_sem,d1,c1 e F,N e F,a0.ixa,q.ixa,L e F,o e F,lo,lr,y1,y2];exact⟨by rw[Q λf=>by have:=f.row i Y;omega],p.trans (F.bL om)⟩
  have y2:decide (((O.getD i []).length:Int)≠((R.getD i []).length:Int))=false:=bM om;have Fb:Fr b (H.mk e.tr (e.next+23)):=F.bL om;have a4:Own (H.mk e.tr (e.next+23)) G 1 t b.next:=ow.fr ((Fr.refl e).bL om);simp(disch:=omega)only[go_sem,d1,c1 e F,N e F,a0.ixa,q.ixa,L e F,o e F,lo,lr,y1,y2];generalize (H.mk e.tr (e.next+23))=h3 at*;refine aH (λk' l a=> ∃(k:Nat) (G:V) (t:List V),(∃g:Nat->V,l= [g 0,.ptr B 0,g 2,aB n,G,aB i,aB k,g 7,g 8,g 9,g 10,g 11,g 12,g 13,g 14,g 15])/\k<=(R.getD i []).length/\Own a G 1 t b.next/\All2 (SI b) t ((R.take i).flatten++(R.getD i []).take k)/\FrR n O R i k/\Fr b a/\k'=(R.getD i []).length-k) (R.getD i []).length
   ⟨0,G,t,aA rfl,eY _,a4,by rw[List.take_zero,pN];exact A,fr,Fb,rfl⟩ ?_
  clear ow a4 A fr Fb;rintro k' l r ⟨k,G,t,⟨g,rfl⟩,hk,ow,A,fr,s,rfl⟩
  by_cases a3:(k:Int)<((R.getD i []).length:Int)
  case neg=>
   have d2:=bM a3;have b2:(R.getD i []).length<=k:=om
   rw[yR b2,←take_flat om] at A;simp(disch:=omega)only[go_sem,N r s,q.ixa,o r s,lr,d2];rw[dX i];exact⟨n-(i+1),om,i+1,G,t,aA rfl,om,ow,A,fr.next b2 om q2,s,rfl⟩
  have d2:=bV a3;have W:k<(R.getD i []).length:=om
  obtain⟨k1,ck,sk⟩:=cr k W;have U: ∀a,Fr b a->a.cell c4 (a7+k)=some (b5.getD k V.undef):=λa f=>by rw[(p.trans f).cell k1];exact ck
  generalize b5.getD k V.undef=vx at U sk;have mx:(R.getD i []).getD k []∈R.getD i []:=getD_mem W;obtain⟨x,Z⟩:=IP ((R.getD i []).getD k []);rw[Z] at sk mx;have lx:=sk.lens;have e2:=SV.dJ sk
  by_cases q3:x.length=n
  case neg=>
   have y3:decide ((x.length:Int)≠(n:Int))=true:=bV om;simp(disch:=omega)only[go_sem,N r s,q.ixa,o r s,lr,d2,P.ixa,U r s,lx,y3];exact⟨by rw[Q λf=>q3 (f.perm i Y x mx).1],p.trans s⟩
  have y3:decide ((x.length:Int)≠(n:Int))=false:=bM om;simp(disch:=omega)only[go_sem,N r s,q.ixa,o r s,lr,d2,P.ixa,U r s,lx,y3];refine (ref_Check_ok vx x _ om (sk.mono (p.trans s))).mono ?_;rintro _ h5 ⟨rfl,f5⟩;have K:=s.trans f5
  by_cases q4:pck x=0
  case neg=>
   have y4:=bV q4;simp(disch:=omega)only[go_sem,y4];exact⟨by rw[Q λf=>q4 ((pck_iff om om).2 (f.perm i Y x mx).2)],p.trans K⟩
  have y4:decide (pck x≠0)=false:=bM om;have ok:=(pck_iff om om).1 q4;have a9:=A.length
  have d8:((R.take i).flatten++(R.getD i []).take k).length<=400:=by
   have b:=flat_len (m:=7) (R:=R) (i:=i) om (λj hj=>by have:=fr.row j hj;omega);have e:i*7<=7*7:=Nat.mul_le_mul_right 7 om;rw[jD,xV];omega
  have one:=SV.dC sk;obtain⟨h6,a6,d6,f6,n6,o6⟩:=app_one (v:=vx) (ow.fr f5) K om (bytes:=24) om;simp(disch:=omega)only[go_sem,y4,N h5 K,q.ixa,o h5 K,P.ixa,U h5 K,cJ _ (z:= .aD) one.1 one.2.1,a6];rw[dX k];refine⟨(R.getD i []).length-(k+1),om,k+1,_,_,aA rfl,om,d6,?_,⟨fr.row,fr.perm,λy hy=>?_⟩,f6,rfl⟩
  ·rw[take_getD [] W,Z,←oH]
   exact A.append ⟨sk.mono p,trivial⟩
  ·rw[take_getD [] W,Z] at hy
   rcases sP.1 hy with hy|hy
   ·exact fr.last y hy
   ·rw[List.mem_singleton.1 hy];exact⟨q3,ok⟩
 have d1:=bM b4
 obtain rfl:i=n:=om
 rw[yR om] at A
 obtain⟨R',eR,hP⟩:=fr.nat b6
 have eF:R.flatten=R'.flatten.map zi:=by rw[eR,List.map_flatten]
 have fl:R.flatten.length<=49:=by
  have b:=flat_len (m:=7) (R:=R) (i:=R.length) om (λj hj=>by have:=fr.row j om;omega);have e:R.length*7<=7*7:=Nat.mul_le_mul_right 7 om;rw[yR om] at b;omega
 have e6:R'.flatten.length<=49:=by rw[eF,iK] at fl;exact fl
 have a9:=A.length
 have d4:=Own.lens ow a9
 have d5:decide ((4096:Int)<(R.flatten.length:Int))=false:=bM om
 rw[eF] at A
 simp(disch:=omega)only[go_sem,d1,d4,d5]
 refine (rmake_ok G i R'.flatten e J c6 om ⟨t,ow.sv,A.mono λ_ _ x=>x.mono F⟩ hP).mono ?_
 rintro _ h3 ⟨vm,O2,R2,rfl,gc,f3⟩
 obtain⟨_,⟨uO,uR,rfl,tO,tR⟩⟩:True/\ChI h3 vm (i:Int) (O2.map zi) (R2.map (List.map zi)):=⟨trivial,gc.ch⟩
 obtain⟨_,_,_,c7,_⟩:=sr_open tO
 obtain⟨_,_,_,b8,_⟩:=srr_open tR
 obtain⟨M,hM⟩:=IP h3.next
 obtain⟨r,e4,n4,g4,o4,f4⟩:=dL hM [aB 0,.aD,.aD]
 have d9:=f3.next
 have nF:=F.next
 have K:Fr h3 (r.set M (bX [aB i,uO,uR])):=f4.set om _
 have g5:(r.set M (bX [aB i,uO,uR])).get M=bX [aB i,uO,uR]:=H.aT ..
 simp(disch:=omega)only[go_sem,hM,e4,dO r M 0 (v:= aB i) (u:=uO) (w:=uR) rfl c7 b8,g4,dD]
 generalize r.set M (bX [aB i,uO,uR])=h5 at K g5 ⊢
 have G5:Fr b h5:=(F.trans f3).trans K
 obtain⟨c3,b9⟩:=gc.small
 simp(disch:=omega)only[go_sem,rB h5 G5,aS g5]
 refine (sameChain_ok _ _ (i:Int) (i:Int) O (O2.map zi) R (R2.map (List.map zi)) h5 (c5.mono (p.trans G5)) (ChI.mono ⟨uO,uR,rfl,tO,tR⟩ K) so c3 (sr.inn (λj hj x Z=>(fr.perm j om x Z).1) om) b9).mono ?_
 rintro _ h6 ⟨rfl,f6⟩
 have iff:=ChkP.iff (O:=O) J om hP gc.isc
 rw[←eR] at iff
 by_cases hq:(i:Int)=(i:Int)/\O=O2.map zi/\R=R2.map (List.map zi)
 ·have ed:=bV hq
  rw[ed]
  simp(disch:=omega)only[go_sem]
  refine⟨?_,p.trans (G5.trans f6)⟩
  unfold chkE
  rw[aZ om,aV (iff.2 hq.2)]
 ·have ed:=bM hq
  rw[ed]
  simp(disch:=omega)only[go_sem]
  refine⟨?_,p.trans (G5.trans f6)⟩
  unfold chkE
  rw[aZ om,aZ (λc=>hq ⟨rfl,iff.1 c⟩)]
end
theorem rsizes_ok {W:Nat->Prop}(vc:V)(n:Nat)(O:LN)(R:jL)(G:List Nat->Prop)(h:H)(l:GC W h vc n O R G):
  Ev T 105 [vc] h (λv h'=> ∃S,v= .tup [.sl S 0 (n+1) (.kn (n+1)),.bool true]/\h.next<=S/\S<h'.next/\h'.get S=some (.cells false (rc (n+1) λj=> aB (tB O (n-j) j:Nat)))/\Fr h h'):=by
 obtain⟨x,r,e,sO,sR⟩:=l.ch
 subst e
 refine bH c_ref09_sizes rfl rfl ?_
 have f:=l.isc
 have n0:=l.n0
 have n7:=l.n7
 obtain⟨wO,tO,aO⟩:=sO
 have lO:=aO.length
 rw[iK,f.lo] at lO
 have k:=tO.dC.2.1
 have c:r.one=true:=sT sR
 obtain⟨B,hB⟩:=IP h.next
 obtain⟨h1,e1,U,g1,o1,f1⟩:=dL hB [aB n,x,r]
 have bx:=bF h (v:= aB n) (u:=x) (w:=r) rfl k c
 have en:(n:Int)+1=((n+1:Nat):Int):=om
 have L:=mks_zeros h1 (n+1) om
 rw[U] at L
 obtain⟨t,z,n2,g2,o2,f2⟩:=dL U (rc (n+1) λ_=> aB 0)
 rw[z] at L
 have o:t.get B=some (.cells false [aB n,x,r]):=by rw[o2 _ om];exact g1
 have pt: ∀(c:H) (S:Nat) (F:Nat->V) (k:Nat) (v:V),k<n+1->dS (some (.cells false (rc (n+1) F))) c S k [v]=some (c.set S (some (.cells false (rc (n+1) λj=>if j=k then v else F j)))):=λc S F k v P=>by rw[bE (by rw[cK];exact P),eG]
 obtain⟨h3,e3,n3,g3,o3⟩:=nP t (B+1) (rc (n+1) λj=>if j=n then aB 1 else aB 0)
 have p:h3.get B=some (.cells false [aB n,x,r]):=by rw[o3 _ om];exact o
 have U:n<n+1:=om
 simp(disch:=omega)only[go_sem,c_ref09_sizes,aF,bx,hB,e1,H.aG g1,en,L,H.aG o,g2,pt _ _ _ n _ U,e3,H.aG p]
 have F3:Fr h h3:=⟨om,λk P=>by rw[o3 _ om,o2 _ om,o1 _ om]⟩
 have Q: ∀i,i<=n->0<tB O (n-i) i/\tB O (n-i) i<=823543:=λi hi=>by
  refine⟨szF_pos _ _ λj h1 t=>(l.row om).1,jC (szF_le (m:=7) om _ _ λj h1 t=>by have:=(l.row (j:=j) om).2;omega) ?_⟩;exact jC (Nat.pow_le_pow_right om (show n-i<=7 by omega)) (by decide)
 refine aH (λq b c=> ∃(i:Nat),(∃g:Nat->V,b= [g 0,.ptr B 0,g 2,g 3,.sl (B+1) 0 (n+1) (.kn (n+1)),aB ((i:Int)- 1),g 6,g 7])/\i<=n/\c.get B=some (.cells false [aB n,x,r])/\
   c.get (B+1)=some (.cells false (rc (n+1) λj=>if i<=j then aB (tB O (n-j) j:Nat) else aB 0))/\B+1<c.next/\Fr h c/\q=i) n
  ⟨n,aA rfl,fH _,p,?_,om,F3,rfl⟩ ?_
 ·rw[g3]
  congr 2
  refine aX λj hj=>?_
  by_cases e:j=n
  ·subst e;rw[aV rfl,aV (fH _),Nat.sub_self];rfl
  ·rw[aZ e,aZ om]
 clear g3 p o3 n3 e3 h3 F3 o g2 o2 n2 z L t f2
 rintro q b h4 ⟨i,⟨g,rfl⟩,hi,gB,gS,nx,F,P⟩
 subst P
 by_cases A:(0:Int)<=(q:Int)- 1
 case neg=>
  have N:=bM A;obtain rfl:q=0:=om
  simp(disch:=omega)only[go_sem,N];refine⟨B+1,rfl,om,nx,?_,F⟩;rw[gS];congr 2
 have N:=bV A
 obtain⟨i,rfl⟩: ∃i,q=i+1:=⟨q- 1,om⟩
 have b:((i+1:Nat):Int)- 1=(i:Int):=om
 have eI:(i:Int)+1=((i+1:Nat):Int):=om
 rw[b] at N ⊢
 have a:=getD_row aO (i:=i) (by rw[iK,f.lo];omega) .undef []
 rw[gd_map zi (d:= []) (by rw[f.lo];omega)] at a
 obtain⟨c,b,Z,f,f⟩:=(tO.mono F).shape n om om
 have co:h4.cell c (b+i)=some (wO.getD i .undef):=by rw[f i om,List.getD,eX om];rfl
 generalize wO.getD i .undef=b at a co
 have lo:=a.lens
 rw[aQ] at lo
 obtain⟨m,Y⟩:=IP ((O.getD i []).length)
 rw[Y] at lo
 have a:=l.row (j:=i) om
 rw[Y] at a
 have cS:h4.cell (B+1) (i+1)=some (aB ((tB O (n-(i+1)) (i+1):Nat):Int)):=by rw[gO gS om,aV (fH _)]
 obtain⟨s,hs⟩:=IP (tB O (n-(i+1)) (i+1))
 rw[hs] at cS
 have K:=Q (i+1) om
 rw[hs] at K
 have y:(1000000000000000000:Int).tdiv (m:Int)=((1000000000000000000/m:Nat):Int):=by
  rw[show (1000000000000000000:Int)=((1000000000000000000:Nat):Int) from rfl,Int.tdiv_eq_ediv_of_nonneg om];rfl
 have a:100000000000000000<=1000000000000000000/m:=by
  rw[Nat.le_div_iff_mul_le om];omega
 have a:1000000000000000000/m<=1000000000000000000:=Nat.div_le_self _ _
 have d2:decide (((1000000000000000000/m:Nat):Int)<(s:Int))=false:=bM om
 have J:(s:Int)*(m:Int)=((m*s:Nat):Int):=by rw[Int.mul_comm];rfl
 have a:m*s<=7*823543:=Nat.mul_le_mul om K.2
 have a:i<n+1:=om
 have b:(m:Int)≠0:=om
 simp(disch:=omega)only[go_sem,N,H.aG gB,Z.ixa,co,lo,eI,cS,y,b,d2,J,gS,pt _ _ _ i _ a]
 refine⟨i,om,i,aA rfl,om,gB,?_,om,?_,rfl⟩
 ·congr 2
  refine aX λj hj=>?_
  by_cases e:j=i
  ·subst e
   rw[aV rfl,aV (fH _),show n-j=(n-(j+1))+1 by omega]
   unfold tB
   rw[Y,hs]
  ·rw[aZ e]
   by_cases z:i+1<=j
   ·rw[aV z,aV om]
   ·rw[aZ z,aZ om]
 ·exact (F.bL om).set om _
def lessN (l:List Nat)(a:Nat):Nat:=(l.filter λb=>decide (b<a)).length
theorem lessN_snoc (l:List Nat)(b a:Nat):lessN (l++ [b]) a=lessN l a+if b<a then 1 else 0:=by
 unfold lessN;rw[List.filter_append,jD]
 by_cases h:b<a<;>simp [h]
theorem lessN_asc: ∀{S:List Nat},S.Pairwise (· < ·)-> ∀t,t<S.length->lessN S (S.getD t 0)=t
 | [],_,t,h=>by simp at h
 |x::S,hs,0,_=>by
  obtain⟨a,_⟩:=List.pairwise_cons.1 hs;unfold lessN;rw[List.length_eq_zero_iff,List.filter_eq_nil_iff];intro b d;rcases Dk.1 d with e|d
  ·subst e;simp
  ·have:=a b d
   simp;omega
 |x::S,hs,t+1,h=>by
  obtain⟨a,g⟩:=List.pairwise_cons.1 hs;have c:t<S.length:=by simpa using h
  have f:=lessN_asc g t c;unfold lessN at f ⊢;have e:(x::S).getD (t+1) 0=S.getD t 0:=by simp [List.getD]
  have i:x<S.getD t 0:=a _ (by rw[bP c];exact wT c);rw[e,List.filter_cons,aV (by simpa using i),List.length_cons,f]
theorem less_at {l:List Nat}(nd:l.Nodup){j m:Nat}(n:j<l.length)(g:m<l.length):lessN l (l.getD m 0)=j↔m=l.idxOf ((iF l).getD j 0):=by
 have b:=fW l;have a:=b.length_eq;have c:(iF l).Nodup:=b.nodup_iff.2 nd
 have h:(iF l).Pairwise (· < ·):=by
  rw[EX] at c;exact ((wY l).and c).imp λ⟨a,e⟩=>om
 have k: ∀a,lessN l a=lessN (iF l) a:=λa=>by
  unfold lessN;exact ((b.filter _).length_eq).symm
 have i:l.getD m 0∈iF l:=b.mem_iff.2 (by rw[bP g];exact wT g);obtain⟨t,d,a⟩:=vJ.1 i;have f:(iF l).getD t 0=l.getD m 0:=by rw[bP d,a]
 rw[k,←f,lessN_asc h t d];constructor
 ·rintro rfl
  rw[f,bP g,nd.idxOf_getElem]
 ·intro h
  have a:j<(iF l).length:=om
  have i:(iF l).getD j 0∈l:=b.mem_iff.1 (by rw[bP a];exact wT a)
  have e:l.getD m 0=(iF l).getD j 0:=by
   have b:=Ye.2 i;rw[h,bP b,List.getElem_idxOf]
  rw[←f,bP d,bP a] at e;exact (List.getElem_inj c).1 e
theorem flat_at {α:Type}(f:Nat->List α){s:Nat}(d:α)(e:0<s): ∀(l:List Nat) (k:Nat),(∀a∈l,(f a).length=s)->k<l.length*s->
  k/s<l.length/\(l.flatMap f).getD k d=(f (l.getD (k/s) 0)).getD (k%s) d
 | [],k,_,h=>by simp at h
 |a::l,k,hl,h=>by
  have n:=hl a (by simp);rw[List.flatMap_cons]
  by_cases g:k<s
  ·rw[Nat.div_eq_of_lt g,Nat.mod_eq_of_lt g]
   refine⟨by simp,?_⟩;rw[List.getD,vY om];simp [List.getD]
  ·have j:=flat_at f d e l (k-s) (λb m=>hl b (xS _ m)) (by rw[List.length_cons,Nat.succ_mul] at h;omega)
   have c:k/s=(k-s)/s+1:=by rw[Nat.div_eq_sub_div e om]
   have i:k%s=(k-s)%s:=Nat.mod_eq_sub_mod om;refine⟨by rw[c,List.length_cons];omega,?_⟩;rw[c,i,List.getD,Dw om,n];have:=j.2;simp only[List.getD,List.getElem?_cons_succ] at this ⊢;exact this
section
variable {n:Nat} {G:List Nat->Prop} {O:LN} {R:jL}
theorem elems_at (g:mD n G)(c:dU n G O R){d i:Nat}{x:List Nat}(hi:i+(d+1)=n)(X:bT n x){k:Nat}(h:0<tB O d (i+1))(m:k<tB O (d+1) i):
  k/tB O d (i+1)<(fF O x i).length/\(iF (fF O x i)).getD (k/tB O d (i+1)) 0∈fF O x i/\
   (cI O R (d+1) i x).getD k []=(cI O R d (i+1) (jO O R x i ((iF (fF O x i)).getD (k/tB O d (i+1)) 0))).getD (k%tB O d (i+1)) []:=by
 have l:(iF (fF O x i)).length=(O.getD i []).length:=by rw[(fW _).length_eq];simp [fF]
 have f: ∀a,a∈iF (fF O x i)↔a∈fF O x i:=λa=>(fW _).mem_iff
 obtain⟨b,j⟩:=flat_at (λa=>cI O R d (i+1) (jO O R x i a)) [] h (iF (fF O x i)) k (λa e=>by
  obtain⟨_,_,_,_,_,_,Y,_⟩:=lX g c X om ((f a).1 e)
  exact (wG g c d (i+1) _ om Y).2.2) (by rw[l];exact m)
 refine⟨by rw[←(fW _).length_eq];exact b,(f _).1 (by rw[bP b];exact wT b),j⟩
end
theorem zi_cell {h hh:H}{v:V}{l:List Nat}{b:Nat}(s:SI h v (zi l))(g:b=l.length): ∃id off,Sl v 1 b id off/\ ∀hh,Fr h hh-> ∀k,k<b->hh.cell id (off+k)=some (aB (l.getD k 0:Nat)):=by
 subst g;obtain⟨id,off,c,a,e⟩:=s.open;rw[aQ] at c a e;refine⟨id,off,c,λhh f k c=>?_⟩;rw[f.cell (a om),e k c];congr 2;rw[zi,gd_map _ (d:=0) c]
theorem off_new {v:V}{b:Nat}(h: ∀id off len cap,v= .sl id off len cap->b<=id):Ho (λq=>q<b) v:=by
 cases v with
 |sl id off len cap=>exact λa=>by have:=h _ _ _ _ rfl;omega
 |_=>trivial
theorem unrank_ok {W:Nat->Prop}(vc:V)(n:Nat)(O:LN)(R:jL)(G:List Nat->Prop)(h:H)(U:GC W h vc n O R G)(S k0:Nat)(hS:S<h.next)
  (gS:h.get S=some (.cells false (rc (n+1) λj=> aB (tB O (n-j) j:Nat)))) (d6:k0<tB O n 0):
  Ev T 106 [vc,.sl S 0 (n+1) (.kn (n+1)),aB k0] h (λv h'=>PV (λq=>q<h.next) h' v ((cI O R n 0 (cG n)).getD k0 [])/\Fr h h'):=by
 obtain⟨vO,vR,e,sO,sR⟩:=U.ch
 subst e
 refine bH c_ref09_unrank rfl rfl ?_
 have l:=U.isc
 have n7:=U.n7
 have hG:=U.grp
 obtain⟨lO,f4,_,d9,f3,c4,b5,p,cO⟩:=sr_open sO
 obtain⟨lR,f4,_,c8,f0,c6,c9,c3,cR⟩:=srr_open sR
 rw[iK,l.lo] at p cO
 rw[iK,l.lr] at c3 cR
 obtain⟨B,hB⟩:=IP h.next
 obtain⟨y,e1,n1,g1,o1,Z⟩:=dL hB [aB n,vO,vR]
 have c0: ∀hh,Fr y hh->hh.cell B 0=some (aB n):=λhh f=>by rw[f.cell om,H.aG g1];rfl
 have c1: ∀hh,Fr y hh->hh.cell B 1=some vO:=λhh f=>by rw[f.cell om,H.aG g1];rfl
 have c2: ∀hh,Fr y hh->hh.cell B 2=some vR:=λhh f=>by rw[f.cell om,H.aG g1];rfl
 have cS: ∀hh,Fr y hh-> ∀j,j<n+1->hh.cell S j=some (aB (tB O (n-j) j:Nat)):=λhh f j hj=>by
  rw[(Z.trans f).cell hS,gO gS hj]
 have bx:=bF h (v:= aB n) (u:=vO) (w:=vR) rfl d9 c8
 simp(disch:=omega)only[go_sem,c_ref09_unrank,aF,bx,hB,e1,c0 y (Fr.refl _)]
 refine (kone_ok n y om).mono ?_
 rintro u h2 ⟨su,f2,hu⟩
 obtain⟨L,J⟩:=IP ((cI O R n 0 (cG n)).getD k0 [])
 rw[J]
 simp(disch:=omega)only[go_sem]
 refine aH (λQ a hh=> ∃(i k:Nat) (u:V) (x:List Nat),(∃g:Nat->V,a= [g 0,.sl S 0 (n+1) (.kn (n+1)),aB k,.ptr B 0,g 4,u,aB i,g 7,g 8,g 9,g 10,g 11,g 12,g 13,g 14,g 15,g 16])/\i<=n/\bT n x/\PV (λq=>q<h.next) hh u x/\k<tB O (n-i) i/\(cI O R (n-i) i x).getD k []=L/\Fr y hh/\Q=n-i) n
  ⟨0,k0,u,_,aA rfl,eY _,bT.one n,⟨su,off_new λ_ _ _ _ e=>by have:=hu _ _ _ _ e;omega⟩,d6,J,f2,rfl⟩ ?_
 clear su f2 J d6 hu
 rintro Q a h3 ⟨i,k,u,x,⟨g,rfl⟩,hi,X,su,hk,J,F,rfl⟩
 by_cases d5:(i:Int)<(n:Int)
 case neg=>
  have d1:=bM d5;obtain rfl:i=n:=om
  simp(disch:=omega)only[go_sem,c0 h3 F,d1];rw[Nat.sub_self] at hk J;have:k=0:=by unfold tB at hk;omega
  subst this;unfold cI at J;have J:x=L:=J;subst J;exact⟨by rw[←hB];exact su,Z.trans F⟩
 have d1:=bV d5
 have o:i<n:=om
 obtain⟨d,L⟩: ∃d,n-i=d+1:=⟨n-i- 1,om⟩
 have b0:n-(i+1)=d:=om
 rw[L] at hk J
 have sp:0<tB O d (i+1):=szF_pos _ _ λj y h2=>(U.row om).1
 obtain⟨a1,L,a3⟩:=elems_at hG l (d:=d) om X sp hk
 rw[J] at a3
 have cs:=cS h3 F (i+1) om
 rw[b0] at cs
 obtain⟨s,hs⟩:=IP (tB O d (i+1))
 rw[hs] at sp a1 L a3 cs
 have e7:k%s<s:=Nat.mod_lt _ sp
 have nd:=zH hG l X o
 have la: ∀m,m<(fF O x i).length->(lessN (fF O x i) ((fF O x i).getD m 0)=k/s↔m=(fF O x i).idxOf ((iF (fF O x i)).getD (k/s) 0)):=λm hm=>less_at nd a1 hm
 obtain⟨c,q1,q2,J,q4,J,q6,_⟩:=lX hG l X o L
 rw[q2] at la
 rw[J] at a3 q6
 obtain⟨I,J⟩:=IP (fF O x i)
 have lI:=imgs_len O x i
 have a6: ∀m,m<(O.getD i []).length->I.getD m 0=x.getD ((O.getD i []).getD m 0) 0:=λm hm=>by rw[←J];exact imgs_at hm
 rw[J] at la lI a1
 obtain⟨skip,c7⟩: ∃q,k/s=q:=⟨_,rfl⟩
 rw[c7] at la a1
 have J:=szF_le (O:=O) (m:=7) om d (i+1) λj y h2=>by have:=(U.row (j:=j) om).2;omega
 have J:7^d<=823543:=jC (Nat.pow_le_pow_right om (show d<=7 by omega)) (by decide)
 have J:=szF_le (O:=O) (m:=7) om (d+1) i λj y h2=>by have:=(U.row (j:=j) om).2;omega
 have J:7^(d+1)<=823543:=jC (Nat.pow_le_pow_right om (show d+1<=7 by omega)) (by decide)
 have e3:(k:Int).tdiv (s:Int)=(skip:Int):=by rw[Int.tdiv_eq_ediv_of_nonneg om,←c7];rfl
 have e4:(k:Int).tmod (s:Int)=((k%s:Nat):Int):=by rw[Int.tmod_eq_emod_of_nonneg om];rfl
 have e2:(s:Int)≠0:=om
 have eI:(i:Int)+1=((i+1:Nat):Int):=om
 obtain⟨_,ci,si⟩:=cO i o
 obtain⟨_,cj,sj⟩:=cR i o
 have r: ∀hh,Fr y hh->hh.cell f3 (c4+i)=some (b5.getD i V.undef):=λhh f=>by rw[(Z.trans f).cell (by assumption)];exact ci
 have e0: ∀hh,Fr y hh->hh.cell f0 (c6+i)=some (c9.getD i V.undef):=λhh f=>by rw[(Z.trans f).cell (by assumption)];exact cj
 rw[gd_map zi (d:= []) (by rw[l.lo];exact o)] at si
 rw[gd_map (List.map zi) (d:= []) (by rw[l.lr];exact o)] at sj
 generalize b5.getD i V.undef=J at r si
 generalize c9.getD i V.undef=J at e0 sj
 obtain⟨lr,J,_,_,e8,b8,d7,a7,cr⟩:=sr_open sj
 rw[iK,l.rl i o] at a7 cr
 have lo:=si.lens
 rw[aQ] at lo
 obtain⟨m,hm⟩:=IP ((O.getD i []).length)
 have J:=U.row (j:=i) o
 have d8: ∀j,j<m->(O.getD i []).getD j 0<n:=λj hj=>uB hG l o (getD_mem om)
 rw[hm] at lo lI a6 a7 cr J q1
 obtain⟨J,J,b9,co⟩:=zi_cell (hh:=h) (b:=m) si hm.symm
 obtain⟨idx,J,b1,cx⟩:=zi_cell (hh:=h) (b:=n) su.si X.len.symm
 simp(disch:=omega)only[go_sem,c0 h3 F,d1,eI,cs,e3,e2,e4]
 have J: ∀q:Nat,((if c<q then c else 0:Nat):Int)=(if c<q then (c:Int) else 0):=λq=>by split<;>rfl
 refine aH (λQ a hh=> ∃(q:Nat),(∃g:Nat->V,a= [g 0,.sl S 0 (n+1) (.kn (n+1)),aB (k%s:Nat),.ptr B 0,g 4,u,aB i,aB skip,aB (if c<q then c else 0:Nat),aB q,g 10,g 11,g 12,g 13,g 14,g 15,g 16])/\q<=m/\Fr h3 hh/\Q=m-q) m
  ⟨0,aA rfl,eY _,Fr.refl h3,rfl⟩ ?_
 rintro Q a K ⟨q,⟨g,rfl⟩,J,F4,rfl⟩
 have A:=F.trans F4
 by_cases b3:(q:Int)<(m:Int)
 case neg=>
  have d2:=bM b3;have a4:q=m:=om
  obtain⟨F,J,sk⟩:=cr c q1;rw[gd_map zi (d:= []) (by rw[l.rl i o];omega)] at sk;have d0: ∀hh,Fr y hh->hh.cell e8 (b8+c)=some (d7.getD c V.undef):=λhh f=>by rw[(Z.trans f).cell F];exact J
  generalize d7.getD c V.undef=vg at d0 sk;have Y:=hG.isP q4.mem;generalize (R.getD i []).getD c []=y at sk Y a3 q6;have d:((if c<q then c else 0:Nat):Int)=(c:Int):=by rw[aV om]
  simp(disch:=omega)only[go_sem,c1 K A,p.ixa,r K A,lo,d2,c2 K A,c3.ixa,e0 K A,d,a7.ixa,d0 K A];refine (kmul_ok vg u y x K (by rw[Y.len];omega) (sk.mono (Z.trans A)) (su.si.mono F4) (λj hj=>by rw[X.len];exact Y.dZ (by rw[Y.len] at hj;exact hj))).mono ?_;rintro v z ⟨s5,f5,e9⟩;simp(disch:=omega)only[go_sem];rw[eI];refine⟨n-(i+1),om,i+1,k%s,v,bD y x,aA rfl,om,q6,⟨s5,off_new λ_ _ _ _ e=>by have:=e9 _ _ _ _ e;have:=A.next;omega⟩,by rw[b0,hs];exact e7,by rw[b0];exact a3.symm,A.trans f5,rfl⟩
 have d2:=bV b3
 have a4:q<m:=om
 obtain⟨b,hb⟩:=IP (I.getD q 0)
 have a5:=a6 q a4
 rw[hb] at a5
 simp(disch:=omega)only[go_sem,c1 K A,p.ixa,r K A,lo,d2]
 refine aH (λQ a hh=> ∃(t:Nat),(∃g:Nat->V,a= [g 0,.sl S 0 (n+1) (.kn (n+1)),aB (k%s:Nat),.ptr B 0,g 4,u,aB i,aB skip,aB (if c<q then c else 0:Nat),aB q,aB (lessN (I.take t) b:Nat),aB t,g 12,g 13,g 14,g 15,g 16])/\t<=m/\Fr K hh/\Q=m-t) m
  ⟨0,aA rfl,eY _,Fr.refl K,rfl⟩ ?_
 rintro Q a z ⟨t,⟨g,rfl⟩,a,F5,rfl⟩
 have N:=A.trans F5
 by_cases a0:(t:Int)<(m:Int)
 case neg=>
  have d3:=bM a0;rw[yR (show I.length<=t by omega)];have a8:=la q om;rw[hb] at a8
  by_cases b2:lessN I b=skip
  ·have d4:decide (((lessN I b:Nat):Int)=(skip:Int))=true:=bV om
   have b7:=a8.1 b2;simp(disch:=omega)only[go_sem,c1 z N,p.ixa,r z N,lo,d3,d4];rw[dX q];refine⟨m-(q+1),om,q+1,?_,om,F4.trans F5,rfl⟩;rw[aV om,←b7];exact aA rfl
  ·have d4:decide (((lessN I b:Nat):Int)=(skip:Int))=false:=bM om
   have b7:q≠c:=λe=>b2 (a8.2 e)
   simp(disch:=omega)only[go_sem,c1 z N,p.ixa,r z N,lo,d3,d4];rw[dX q];refine⟨m-(q+1),om,q+1,?_,om,F4.trans F5,rfl⟩
   have a:(if c<q+1 then c else 0)=if c<q then c else 0:=by
    by_cases h:c<q
    ·rw[aV h,aV om]
    ·rw[aZ h,aZ om]
   rw[a];exact aA rfl
 have d3:=bV a0
 have a:t<m:=om
 have c5:=d8 t om
 have b6:=d8 q om
 have ct:=co z (Z.trans N) t a
 have cq:=co z (Z.trans N) q a4
 have hc:=a6 t a
 have step:I.take (t+1)=I.take t++ [I.getD t 0]:=take_getD 0 om
 generalize (O.getD i []).getD t 0=ot at ct c5 hc
 generalize (O.getD i []).getD q 0=oq at cq b6 a5
 have P:=cx z (F4.trans F5) ot c5
 have a9:=cx z (F4.trans F5) oq b6
 rw[←hc] at P
 rw[←a5] at a9
 generalize I.getD t 0=c at P step
 have ls:=lessN_snoc (I.take t) c b
 have a:lessN (I.take t) b<=t:=jC (List.length_filter_le _ _) (by rw[xV];omega)
 rw[←step] at ls
 by_cases b4:(c:Int)<(b:Int)
 ·have d4:=bV b4
  rw[aV om] at ls
  simp(disch:=omega)only[go_sem,c1 z N,p.ixa,r z N,lo,d3,b9.ixa,ct,cq,b1.ixa,P,a9,d4]
  rw[show (t:Int)+1=((t+1:Nat):Int) from om,show ((lessN (I.take t) b:Nat):Int)+1=((lessN (I.take t) b+1:Nat):Int) from om,←ls]
  exact⟨m-(t+1),om,t+1,aA rfl,om,F5.bL om,rfl⟩
 ·have d4:=bM b4
  rw[aZ om] at ls
  simp(disch:=omega)only[go_sem,c1 z N,p.ixa,r z N,lo,d3,b9.ixa,ct,cq,b1.ixa,P,a9,d4]
  rw[show (t:Int)+1=((t+1:Nat):Int) from om,show ((lessN (I.take t) b:Nat):Int)=((lessN (I.take t) b+0:Nat):Int) from om,←ls]
  exact⟨m-(t+1),om,t+1,aA rfl,om,F5.bL om,rfl⟩
section
variable {h:H} {v:V} {b:Nat} {W:Nat->Prop}
theorem app_pv {g:H}{d:V}{a:List V}{n:LN}{x:List Nat}(o:Own h d 1 a g.next)(f:Fr g h)(s:a.length<1000000)(z:b<=g.next)(p:PVs (λq=>q<b∨BlkS d q) h a n)(pv:PV (λq=>q<b∨BlkS d q) h v x):
  ∃h2,qV (h.new (.cells false [v])) 1 24 d (.sl h.next 0 1 (.kn 1))=some (.sl (h.next+1) 0 (a.length+1) (.un 1),h2)/\Own h2 (.sl (h.next+1) 0 (a.length+1) (.un 1)) 1 (a++ [v]) g.next/\PVs (λq=>q<b∨BlkS (.sl (h.next+1) 0 (a.length+1) (.un 1)) q) h2 (a++ [v]) (n++ [x])/\Fr g h2/\h2.next=h.next+2:=by
 obtain⟨h2,t,u,w,y,c⟩:=app_one (v:=v) o f s (bytes:=24) om
 have k:Fx (λq=>q<b∨BlkS d q) h h2:=⟨om,λq j h2=>c q j λid i m c e r=>h2 (.inr ⟨i,m,c,r▸e⟩)⟩
 have l: ∀q,q<h.next->(q<b∨BlkS (.sl (h.next+1) 0 (a.length+1) (.un 1)) q)->(q<b∨BlkS d q):=λq j h2=>by
  rcases h2 with h2|⟨_,_,_,e⟩
  ·exact .inl h2
  ·cases e;omega
 exact⟨h2,t,u,(PVs.go p k l).append (PVs.one (PV.go pv k l)),w,y⟩
theorem PV.newer {h':H}{a:V}{d:List V}{sz c:Nat}{x:List Nat}(o:Own h a sz d b)(f:c<=h.next)(p:PV (λq=>q<h.next) h' v x):PV (λq=>q<c∨BlkS a q) h' v x:=
 p.weak λq _ e=>by
  rcases e with e|⟨_,_,_,e⟩
  ·omega
  ·exact (o.in _ _ _ _ e).1
theorem pvs_open {ws:List V}{L:LN}(o:Own h v 1 ws b)(p:PVs W h ws L): ∃id off,Sl v 1 L.length id off/\ ∀i,i<L.length->id<h.next/\h.cell id (off+i)=some (ws.getD i V.undef)/\PV W h (ws.getD i V.undef) (L.getD i []):=by
 have a:=All2.length p;obtain⟨id,off,c,a,d⟩:=SV.shape o.sv L.length om om;refine⟨id,off,c,λi hi=>⟨a om,?_,getD_row p hi .undef []⟩⟩;rw[d i om,List.getD,eX om];rfl
theorem PVs.fr {h':H}{vs:List V}{a:LN}(p:PVs W h vs a)(f:Fr h h'):PVs W h' vs a:=p.mono λ_ _ x=>⟨x.si.mono f,x.off⟩
theorem GC.rcheck {a:V}{n:Nat}{O:LN}{R:jL}{G:List Nat->Prop}(g:GC W h a n O R G):Ev T 104 [a] h (λv h'=>v= aB 0/\Fr h h'):=by
 obtain⟨c,sr⟩:=g.small;have:=rcheck_ok a (n:Int) (O.map zi) (R.map (List.map zi)) h g.ch (.inl (by have:=g.n7;omega)) c sr.out;rwa [g.chk] at this
theorem rlist_bad (k:V)(d:Int)(O:List (List Int))(R:List (List (List Int)))(h:H)(l:ChI h k d O R)(q:d<=7∨64<d)(r:SmallO O)(sr:SmallR R)(p:chkE d O R≠0):
  Ev T 74 [k] h (λv h'=>v= .tup [.aD,aB (chkE d O R)]/\Fr h h'):=by
 have e:=l
 obtain⟨g,f,rfl,x,o⟩:=l
 refine bH c_ref09_List rfl rfl ?_
 have a:g.one=true:=tH x
 have c:f.one=true:=sT o
 obtain⟨B,j⟩:=IP h.next
 obtain⟨m,t,o,n,o,i⟩:=dL j [aB d,g,f]
 have s:=bF h (v:= aB d) (u:=g) (w:=f) rfl a c
 simp(disch:=omega)only[go_sem,c_ref09_List,aF,s,j,t,aS n]
 refine (rcheck_ok _ d O R m (e.mono i) q r sr).mono ?_
 rintro _ a ⟨rfl,c⟩
 have a:=bV p
 simp(disch:=omega)only[go_sem,a]
 exact i.trans c
theorem rlist_ok (vc:V)(n:Nat)(O:LN)(R:jL)(G:List Nat->Prop)(h:H)(j:GC W h vc n O R G)(L:LN)(hL:cI O R n 0 (cG n)=L):
  Ev T 74 [vc] h (λv h'=> ∃vl wl,v= .tup [vl,aB 0]/\Own h' vl 1 wl h.next/\PVs (λq=>q<h.next) h' wl L/\Fr h h'):=by
 have d:=j
 obtain⟨t,A,e,sO,sR⟩:=j.ch
 subst e
 refine bH c_ref09_List rfl rfl ?_
 have e:=j.isc
 obtain⟨Y,ll⟩:=eJ j.grp e
 have e:=szF_fact j
 rw[hL] at Y ll
 have p:t.one=true:=tH sO
 have l:A.one=true:=sT sR
 obtain⟨B,hB⟩:=IP h.next
 obtain⟨h1,e1,e,g1,e,J⟩:=dL hB [aB n,t,A]
 have bx:=bF h (v:= aB n) (u:=t) (w:=A) rfl p l
 have Q: ∀a,Fr h1 a->a.row B 0 3=some [aB n,t,A]:=λa f=>aS (by rw[f.get B om];exact g1)
 simp(disch:=omega)only[go_sem,c_ref09_List,aF,bx,hB,e1,Q h1 (Fr.refl _)]
 refine ((d.mono J).rcheck).mono ?_
 rintro _ h2 ⟨rfl,N⟩
 simp(disch:=omega)only[go_sem]
 refine bB (λe=>(e rfl).elim) (λ_=>?_)
 simp(disch:=omega)only[go_sem,Q h2 N]
 refine (rsizes_ok _ n O R G h2 (d.mono (J.trans N))).mono ?_
 rintro _ K ⟨S,rfl,e,k,gS,e⟩
 have F3:=N.trans e
 have r: ∀a,Fr K a->a.cell S 0=some (aB (L.length:Int)):=λa f=>by
  rw[f.cell k,gO gS om,ll];rfl
 obtain⟨m,f⟩:=IP L.length
 have e:decide ((5040:Int)<(m:Int))=false:=bM om
 rw[f] at r
 have f:=j.n0
 simp(disch:=omega)only[go_sem,r K (Fr.refl _),e]
 refine aH (λk' c a=> ∃(i:Nat) (vl:V) (wl:List V),(∃g:Nat->V,c= [g 0,.ptr B 0,g 2,g 3,g 4,.sl S 0 (n+1) (.kn (n+1)),g 6,vl,aB i,g 9,g 10,g 11])/\i<=m/\Own a vl 1 wl K.next/\PVs (λq=>q<B∨BlkS vl q) a wl (L.take i)/\Fr K a/\k'=m-i) m
  ⟨0,.aD, [],aA rfl,eY _,Own.aD _ _ _,trivial,Fr.refl _,rfl⟩ ?_
 rintro k' c y ⟨i,vl,wl,⟨g,rfl⟩,hi,U,s,F,rfl⟩
 have x:=F3.trans F
 have a:=x.next
 have a:=F3.next
 have a:=s.length
 rw[xV] at a
 by_cases o:(i:Int)<(m:Int)
 case neg=>
  have P:=bM o;simp(disch:=omega)only[go_sem,r y F,P];rw[yR om] at s;exact⟨_,wl,rfl,U.le om,PVs.weak s λq _ a=> .inl om,J.trans x⟩
 have P:=bV o
 simp(disch:=omega)only[go_sem,r y F,P,Q y x]
 refine (unrank_ok _ n O R G y (d.mono (J.trans x)) S i (by have:=F.next;omega) (by rw[F.get _ k];exact gS) om).mono ?_
 rintro v a ⟨a,c⟩
 rw[hL] at a
 obtain⟨d,d,Z,p6,f6,e⟩:=app_pv (U.fr c) (F.trans c) om (b:=B) om (PVs.fr s c) (PV.newer U om a)
 simp(disch:=omega)only[go_sem,cJ _ (z:= .aD) a.dQ.1 a.dQ.2,d]
 rw[dX i]
 refine⟨m-(i+1),om,i+1,_,_,aA rfl,om,Z,?_,f6,rfl⟩
 rw[take_getD [] om]
 exact p6
end
section
variable {ks:List Cls.KE}
def enc3 (a:Cls.KE):List V:= [a.rep,aB (a.ord:Int),aB (a.size:Int)]
theorem list3_cons (a:Cls.KE)(r:List Cls.KE):list3 (a::r)=enc3 a++list3 r:=rfl
theorem list3_app (a b:List Cls.KE):list3 (a++b)=list3 a++list3 b:=by unfold list3;rw[List.flatMap_append]
theorem put_at3: ∀{ks:List Cls.KE} {pre:List V} {i:Nat} (a:Cls.KE),i<ks.length->putAt (pre++list3 ks) (pre.length+i*3) (enc3 a)=some (pre++list3 (ks.set i a))
 | [],_,_,_,hi=>by simp at hi
 |b::r,pre,0,a,_=>by
  have d:(enc3 a).length=3:=rfl;have c:(enc3 b).length=3:=rfl;unfold putAt;rw[list3_cons,List.set_cons_zero,list3_cons,aV (by simp only[jD];omega),Nat.zero_mul,Nat.add_zero,List.take_left,d,←c,←jD,←oH,List.drop_left,oH]
 |b::r,pre,i+1,a,hi=>by
  have:=put_at3 (ks:=r) (pre:=pre++enc3 b) (i:=i) a (by simpa using hi);rw[jD,show (enc3 b).length=3 from rfl] at this;rw[show pre.length+(i+1)*3=pre.length+3+i*3 by omega,List.set_cons_succ,list3_cons,list3_cons,←oH,←oH];exact this
theorem putO_at3 {i:Nat}(hi:i<ks.length)(h:H)(S:Nat)(a:Cls.KE):dS (some (.cells false (list3 ks))) h S (0+i*3) [a.rep,aB (a.ord:Int),aB (a.size:Int)]=some (h.set S (some (.cells false (list3 (ks.set i a))))):=by
 have:=put_at3 (pre:= []) a hi;simp only[List.nil_append,List.length_nil] at this;show Option.map (λb=>h.set S (some (Ob.cells false b))) (putAt (list3 ks) (0+i*3) (enc3 a))=_;rw[this];rfl
def zKE:Cls.KE:=⟨.aD,0,0,.aD,0,⟨rfl,rfl,rfl⟩,⟨rfl,rfl,rfl⟩⟩
theorem list3_zeros (n:Nat):dN [.aD,aB 0,aB 0] (n*3)=list3 (List.replicate n zKE):=by
 induction n with
 |zero=>rfl
 |succ n ih=>
  rw[List.replicate_succ,list3_cons,←ih];unfold dN;rw[show (n+1)*3=n*3+1+1+1 by omega,List.range_succ_eq_map,List.range_succ_eq_map,List.range_succ_eq_map];simp only[List.map_cons,List.map_map];refine congrArg (λl=>V.aD::aB 0::aB 0::l) (zD λi _=>?_);show [V.aD,aB 0,aB 0].getD ((i+3)%3) V.undef= [V.aD,aB 0,aB 0].getD (i%3) V.undef;rw[Nat.add_mod_right]
theorem mks3 (h:H)(n:Nat)(a:n<=100000):uJ h 3 40 [.aD,aB 0,aB 0] (aB n) (aB n)=some (.sl h.next 0 n (.kn n),h.new (.cells false (list3 (List.replicate n zKE)))):=by
 rw[lZ om (Int.le_refl _) om om,Cd,list3_zeros]
def kst (M K:List Nat)(ks:List Cls.KE)(w t:Nat):List Cls.KE:=(List.range w).map λq=>if M.idxOf (K.getD q 0)<t then ks.getD (M.idxOf (K.getD q 0)) zKE else zKE
theorem kst_zero (M K:List Nat)(ks:List Cls.KE)(w:Nat):kst M K ks w 0=List.replicate w zKE:=by
 unfold kst;refine List.ext_getElem (by simp) λi a a=>by simp
theorem kst_len (M K:List Nat)(ks:List Cls.KE)(w t:Nat):(kst M K ks w t).length=w:=by simp [kst]
theorem kst_set {M K:List Nat}{w t:Nat}(a:K.Perm M)(nd:M.Nodup)(i:M.length=w)(g:t<w):(kst M K ks w t).set (K.idxOf (M.getD t 0)) (ks.getD t zKE)=kst M K ks w (t+1):=by
 have b:=a.length_eq;have c:=a.nodup_iff.2 nd;have b:M.getD t 0∈K:=a.mem_iff.2 (getD_mem om);have d:=Ye.2 b;have f:M.idxOf (M.getD t 0)=t:=by rw[Pm.bP (show t<M.length by omega)];exact nd.idxOf_getElem _ _
 refine List.ext_getElem (by simp [kst]) λq b e=>?_
 have e:q<w:=by simpa [kst] using b
 rw[List.getElem_set];simp only[kst,List.getElem_map,List.getElem_range]
 by_cases e:K.idxOf (M.getD t 0)=q
 ·rw[aV e]
  have b:K.getD q 0=M.getD t 0:=by rw[←e,Pm.bP d,List.getElem_idxOf]
  rw[b,f,aV om]
 ·rw[aZ e]
  have b:M.idxOf (K.getD q 0)≠t:=λh=>by
   have b:K.getD q 0∈M:=a.mem_iff.1 (getD_mem om);have d:=Ye.2 b;have b:M.getD t 0=K.getD q 0:=by rw[←h,Pm.bP d,List.getElem_idxOf]
   rw[b,Pm.bP (show q<K.length by omega)] at e;exact e (c.idxOf_getElem _ _)
  by_cases h:M.idxOf (K.getD q 0)<t
  ·rw[aV h,aV om]
  ·rw[aZ h,aZ om]
theorem kst_done {M K:List Nat}{w:Nat}(b:K.Perm M)(f:M.length=w){P:Cls.KE->Nat->Prop}(al:All2 P ks M):All2 P (kst M K ks w w) K:=by
 have a:=b.length_eq;have a:=All2.length al;refine All2.iC (by rw[kst_len];omega) λq a c=>?_
 have a:K.getD q 0∈M:=b.mem_iff.1 (getD_mem om);have d:=Ye.2 a;simp only[kst,List.getElem_map,List.getElem_range];rw[aV om,List.getD,eX om];have:=All2.get al (M.idxOf (K.getD q 0)) om d;rw[List.getElem_idxOf] at this;have e:K.getD q 0=K[q]:=Pm.bP c;have:P ks[M.idxOf (K.getD q 0)] K[q]:=by rw[←e];exact this
 exact this
theorem rbefore_ok (a b:Cls.KE)(n:Nat)(x y:List Nat)(h:H)(A:n<100000)(J:x.length=n)(K:y.length=n)(G:SI h a.rep (zi x))(t:SI h b.rep (zi y))(c:Bool)(m:(a.ord<b.ord∨a.ord=b.ord/\(a.size<b.size∨a.size=b.size/\Lt x y))↔c=true):
  Ev T 124 [.agg [a.rep,aB (a.ord:Int),aB (a.size:Int)],.agg [b.rep,aB (b.ord:Int),aB (b.size:Int)]] h (λv h'=>v= .bool c/\Fr h h'):=by
 refine bH c_ref15_before rfl rfl ?_
 obtain⟨B,f⟩:=IP h.next
 obtain⟨e,p,g,j,L,s⟩:=dL f [a.rep,aB (a.ord:Int),aB (a.size:Int)]
 obtain⟨q,k,L,z,L,i⟩:=dL g [b.rep,aB (b.ord:Int),aB (b.size:Int)]
 have o:=bF h (v:=a.rep) (u:= aB (a.ord:Int)) (w:= aB (a.size:Int)) a.hrep.2.1 rfl rfl
 have d:=bF e (v:=b.rep) (u:= aB (b.ord:Int)) (w:= aB (b.size:Int)) b.hrep.2.1 rfl rfl
 have e:q.get B=some (.cells false [a.rep,aB (a.ord:Int),aB (a.size:Int)]):=by rw[i.get _ om];exact j
 have F:=s.trans i
 have go:=H.aG e
 have e:=H.aG z
 by_cases l:a.ord=b.ord
 case neg=>
  have i:decide ((a.ord:Int)≠(b.ord:Int))=true:=bV om;simp(disch:=omega)only[go_sem,c_ref15_before,aF,o,f,p,d,g,k,go,e,i];refine⟨?_,F⟩;congr 1;rw[wW,Cr,←m];exact⟨λh=> .inl om,by rintro (h|⟨h,_⟩);omega;exact absurd h l⟩
 have i:decide ((a.ord:Int)≠(b.ord:Int))=false:=bM om
 by_cases r:a.size=b.size
 case neg=>
  have j:decide ((a.size:Int)≠(b.size:Int))=true:=bV om;simp(disch:=omega)only[go_sem,c_ref15_before,aF,o,f,p,d,g,k,go,e,i,j];refine⟨?_,F⟩;congr 1;rw[wW,Cr,←m];exact⟨λh=> .inr ⟨l,.inl om⟩,by rintro (h|⟨_,h|⟨h,_⟩⟩);omega;omega;exact absurd h r⟩
 have j:decide ((a.size:Int)≠(b.size:Int))=false:=bM om
 simp(disch:=omega)only[go_sem,c_ref15_before,aF,o,f,p,d,g,k,go,e,i,j]
 refine (less_ok a.rep b.rep n x y q A J K (G.mono F) (t.mono F)).mono ?_
 rintro _ d ⟨rfl,d⟩
 simp(disch:=omega)only[go_sem]
 refine⟨?_,F.trans d⟩
 congr 1
 rw[wW,lessB_iff om,←m]
 exact⟨λh=> .inr ⟨l,.inr ⟨r,h⟩⟩,by rintro (h|⟨_,h|⟨_,h⟩⟩);omega;omega;exact h⟩
end
section
variable {i j:Nat} {Q:List Nat}
theorem cnt_asc {α:Type}{R:α->α->Prop}(d: ∀a b,R a b-> ¬R b a)(p:α->Bool){y:α}(k: ∀a,p a=true↔R a y): ∀{S:List α},S.Pairwise R-> ∀q,S[q]? =some y->(S.filter p).length=q
 | [],_,q,h=>by simp at h
 |x::S,hs,0,h=>by
  obtain⟨f,_⟩:=List.pairwise_cons.1 hs;have e:x=y:=by simpa using h
  rw[List.length_eq_zero_iff,List.filter_eq_nil_iff];intro b g l;have c:=(k b).1 l;rcases Dk.1 g with o|g
  ·subst o e;exact d _ _ c c
  ·subst e;exact d _ _ c (f b g)
 |x::S,hs,q+1,h=>by
  obtain⟨f,n⟩:=List.pairwise_cons.1 hs;have m:S[q]? =some y:=by simpa using h
  have r:=cnt_asc d p k n q m;have s:p x=true:=(k x).2 (f _ (Rm m));rw[List.filter_cons,aV s,List.length_cons,r]
section
variable {n:Nat} {G:List Nat->Prop} {L:LN} {K:List Nat}
theorem repsC_nodup (k:Nat):(repsC G L k).Nodup:=by
 unfold repsC;exact List.Pairwise.filter _ List.nodup_range
theorem isK_ex (n:Nat)(G:List Nat->Prop)(L:LN): ∃K,IsK n G L K:=by
 classical
 refine⟨(repsC G L L.length).mergeSort λr s=>decide (¬kLt n G L s r),List.mergeSort_perm _ _,?_⟩
 have e:=List.pairwise_mergeSort (le:=λr s=>decide (¬kLt n G L s r)) (λa b c e d=>by
  simp only[decide_eq_true_eq] at e d ⊢
  unfold kLt at*;omega) (λa b=>by
  simp only[Bool.or_eq_true,decide_eq_true_eq]
  unfold kLt;omega) (repsC G L L.length)
 have d:((repsC G L L.length).mergeSort λr s=>decide (¬kLt n G L s r)).Nodup:=(List.mergeSort_perm _ _).nodup_iff.2 (repsC_nodup _);rw[EX] at d;refine (e.and d).imp λ⟨f,h4⟩=>?_
 simp only[decide_eq_true_eq] at f;unfold kLt at*;omega
theorem repsC_pre {i:Nat}: ∀k,∃r,repsC G L (i+k)=repsC G L i++r
 |0=>⟨[],by simp⟩
 |k+1=>by
  obtain⟨r,h⟩:=repsC_pre (i:=i) k
  by_cases a:isR G L (i+k)
  ·exact⟨r++ [i+k],by rw[←Nat.add_assoc,(repsC_succ _).1 a,h,oH]⟩
  ·exact⟨r,by rw[←Nat.add_assoc,(repsC_succ _).2 a,h]⟩
theorem repsC_at (hi:i<L.length)(a:isR G L i):(repsC G L i).length<(repsC G L L.length).length/\(repsC G L L.length).getD (repsC G L i).length 0=i:=by
 obtain⟨r,h⟩:=repsC_pre (G:=G) (L:=L) (i:=i+1) (L.length-(i+1));rw[show i+1+(L.length-(i+1))=L.length by omega,(repsC_succ i).1 a] at h;rw[h];simp [List.getD]
open Classical in
noncomputable def lbC (G:List Nat->Prop)(L:LN)(i j:Nat):Nat:=if ∃i0,i0<i/\cR G L i0 j then numC G L (repsC G L L.length) j+1 else 0
open Classical in
noncomputable def lbQ (G:List Nat->Prop)(L:LN)(i:Nat)(Q:List Nat)(j:Nat):Nat:=if j∈Q then (repsC G L i).length+1 else lbC G L i j
theorem lbC_zero (j:Nat):lbC G L 0 j=0:=by
 unfold lbC;rw[aZ];rintro⟨i0,h,_⟩;omega
theorem lbQ_nil (i j:Nat):lbQ G L i [] j=lbC G L i j:=by
 unfold lbQ;rw[aZ (by simp)]
theorem lbQ_push {k:Nat}:lbQ G L i (Q++ [k]) j=if j=k then (repsC G L i).length+1 else lbQ G L i Q j:=by
 unfold lbQ
 by_cases e:j=k
 ·subst e;rw[aV (by simp),aV rfl]
 ·rw[aZ e]
  by_cases h:j∈Q
  ·rw[aV (by simp [h]),aV h]
  ·rw[aZ (by simp [h,e]),aZ h]
theorem lbC_iff:lbC G L i j=0↔ ¬ ∃i0,i0<i/\cR G L i0 j:=by
 unfold lbC
 by_cases h: ∃i0,i0<i/\cR G L i0 j
 ·rw[aV h];exact⟨λa=>om,λa=>absurd h a⟩
 ·rw[aZ h];exact⟨λ_=>h,λ_=>rfl⟩
theorem lbC_self:lbC G L i i=0↔isR G L i:=by
 rw[lbC_iff];exact⟨λh j b a=>h ⟨j,b,a⟩,λh ⟨j,b,a⟩=>h j b a⟩
variable (hG:mD n G) (E:eQ G L)
include hG E
theorem lbC_skip (hi:i<L.length)(d: ¬isR G L i)(j:Nat):lbC G L (i+1) j=lbC G L i j:=by
 have e:(∃a,a<i+1/\cR G L a j)↔ ∃a,a<i/\cR G L a j:=by
  refine⟨λ⟨a,h1,h2⟩=>?_,λ⟨a,h1,h2⟩=>⟨a,om,h2⟩⟩
  by_cases e:a=i
  ·subst e
   obtain⟨k,c,b⟩: ∃k,k<a/\cR G L k a:=Bz λf=>d λk c b=>f ⟨k,c,b⟩
   exact⟨k,c,cR_trans hG E om b h2⟩
  ·exact⟨a,om,h2⟩
 unfold lbC
 by_cases h: ∃a,a<i/\cR G L a j
 ·rw[aV (e.2 h),aV h]
 ·rw[aZ (λx=>h (e.1 x)),aZ h]
theorem numC_rep (hi:i<L.length)(b:isR G L i)(d:j<L.length)(e:cR G L i j):numC G L (repsC G L L.length) j=(repsC G L i).length:=by
 obtain⟨a,c⟩:=repsC_at hi b;exact numC_at hG E (List.Perm.refl _) a (orbC_mem.2 ⟨d,by rw[c];exact e⟩)
theorem lbQ_iff (hi:i<L.length)(c:isR G L i)(e:j<L.length)(b:cR G L i j):lbQ G L i Q j=0↔j∉Q:=by
 unfold lbQ
 by_cases h:j∈Q
 ·rw[aV h];exact⟨λa=>om,λa=>absurd h a⟩
 ·rw[aZ h,lbC_iff]
  exact⟨λ_=>h,λ_ ⟨d,h1,a⟩=>c d h1 (cR_trans hG E om a (cR_symm hG E hi b))⟩
theorem lbQ_done (hi:i<L.length)(f:isR G L i)(c: ∀j,j∈Q↔j<L.length/\cR G L i j)(d:j<L.length):lbQ G L i Q j=lbC G L (i+1) j:=by
 unfold lbQ
 by_cases h:j∈Q
 ·have b:=((c j).1 h).2
  rw[aV h];unfold lbC;rw[aV ⟨i,om,b⟩,numC_rep hG E hi f d b]
 ·rw[aZ h]
  have g: ¬cR G L i j:=λb=>h ((c j).2 ⟨d,b⟩)
  have e:(∃a,a<i+1/\cR G L a j)↔ ∃a,a<i/\cR G L a j:=by
   refine⟨λ⟨a,h1,h2⟩=>?_,λ⟨a,h1,h2⟩=>⟨a,om,h2⟩⟩
   by_cases e:a=i
   ·subst e;exact absurd h2 g
   ·exact⟨a,om,h2⟩
  unfold lbC
  by_cases h: ∃a,a<i/\cR G L a j
  ·rw[aV (e.2 h),aV h]
  ·rw[aZ (λx=>h (e.1 x)),aZ h]
theorem lbC_done (a:j<L.length):lbC G L L.length j=numC G L (repsC G L L.length) j+1:=by
 unfold lbC;rw[aV ⟨j,a,cR_refl hG E a⟩]
omit hG in
theorem lt_rank {r s:Nat}(k:r<L.length)(g:s<L.length):Lt (L.getD r []) (L.getD s [])↔r<s:=by
 have d:=Po.1 E.asc
 have e: ∀{a b:Nat},a<L.length->b<L.length->a<b->Lt (L.getD a []) (L.getD b []):=λ{a b} l f h=>by
  have:=d a b l f h;rwa [List.getD,eX l,List.getD,eX f]
 refine⟨λh=>?_,e k g⟩;rcases Nat.lt_trichotomy r s with c|c|c
 ·exact c
 ·subst c;exact (Lt.irrefl h).elim
 ·exact ((e g k c).asymm h).elim
omit hG E in
theorem nb_count (f:IsK n G L K)(p:Nat->Bool){t:Nat}(h:t<(repsC G L L.length).length)(d: ∀u,u<(repsC G L L.length).length->(p u=true↔kLt n G L ((repsC G L L.length).getD u 0) ((repsC G L L.length).getD t 0))):
  ((List.range (repsC G L L.length).length).filter p).length=K.idxOf ((repsC G L L.length).getD t 0):=by
 classical
 have a:(repsC G L L.length).getD t 0∈K:=f.perm.mem_iff.2 (getD_mem h)
 have k:=Ye.2 a
 have e:=cnt_asc (R:=kLt n G L) (λa b c g=>kLt_asymm c g) (λr=>decide (kLt n G L r ((repsC G L L.length).getD t 0))) (y:=(repsC G L L.length).getD t 0) (λa=>by simp) f.asc (K.idxOf ((repsC G L L.length).getD t 0)) (by rw[eX k,List.getElem_idxOf])
 rw[←e,(f.perm.filter _).length_eq]
 generalize repsC G L L.length=M at d
 generalize M.getD t 0=y at d
 have:(List.range M.length).filter p=(List.range M.length).filter λu=>decide (kLt n G L (M.getD u 0) y):=List.filter_congr λu a=>by
  have:=d u (Ae.1 a);rw[wW,this,Cr]
 rw[this]
 have e:M=(List.range M.length).map λu=>M.getD u 0:=List.ext_getElem (by simp) λi c g=>by simp [List.getD,c]
 conv=>rhs;rw[e]
 rw[List.filter_map,iK]
 rfl
theorem numC_ord (b:IsK n G L K)(f:j<L.length):numC G L (repsC G L L.length) j<(repsC G L L.length).length/\numC G L K j=K.idxOf ((repsC G L L.length).getD (numC G L (repsC G L L.length) j) 0):=by
 obtain⟨k,a,c⟩:=num_cover hG E (List.Perm.refl _) f;have d:=numC_at hG E (List.Perm.refl _) a c;rw[d];have e:(repsC G L L.length).getD k 0∈K:=b.perm.mem_iff.2 (getD_mem a);have d:=Ye.2 e;refine⟨a,numC_at hG E b.perm d ?_⟩;rw[bP d,List.getElem_idxOf];exact c
end
end
section
variable {a b c d e f:V}
theorem bld_six {v:V}(j:a.one=true)(h:b.one=true)(k:c.one=true)(i:v.cells= [v])(g:v.one=true):kU [aB 0,.aD,.aD,.aD,.aD,.aD] [(0,3,.agg [a,b,c]),(3,1,v)]=some (.agg [a,b,c,v,.aD,.aD]):=by
 simp [kU,gG,putAt,j,h,k,i,g,show (V.agg [a,b,c]).cells= [a,b,c] from rfl]
theorem stV_six (h:H)(id:Nat)(l:a.one=true)(g:b.one=true)(k:c.one=true)(m:d.one=true)(i:e.one=true)(j:f.one=true):Kz h 6 (.ptr id 0) (.agg [a,b,c,d,e,f])=dS (h.get id) h id 0 [a,b,c,d,e,f]:=pY h id 0 6 _ rfl (by simp [l,g,k,m,i,j])
theorem putO_six {g m j l k i:V}(h:H)(id:Nat):dS (some (.cells false [g,m,j,l,k,i])) h id 0 [a,b,c,d,e,f]=some (h.set id (some (.cells false [a,b,c,d,e,f]))):=by
 simp [dS,putAt]
theorem row_six {h:H}{id:Nat}{ro:Bool}(g:h.get id=some (.cells ro [a,b,c,d,e,f])):h.row id 0 6=some [a,b,c,d,e,f]:=by
 simp [H.row,g,sub]
theorem rread_bad (t:V)(d:Int)(O:List (List Int))(R:List (List (List Int)))(h:H)(y:ChI h t d O R)(N:d<=7∨64<d)(P:SmallO O)(sr:SmallR R)(x:chkE d O R≠0):
  Ev T 103 [t] h (λv h'=>v= .tup [.agg [aB 0,.aD,.aD,.aD,.aD,.aD],aB (chkE d O R)]/\Fr h h'):=by
 have l:=y
 obtain⟨k,j,rfl,W,G⟩:=y
 refine bH c_ref15_read rfl rfl ?_
 have g:k.one=true:=tH W
 have i:j.one=true:=sT G
 obtain⟨B,o⟩:=IP h.next
 obtain⟨G,U,p,F,G,q⟩:=dL o [aB d,k,j]
 obtain⟨n,L,G,J,G,m⟩:=dL p [aB 0,.aD,.aD,.aD,.aD,.aD]
 have Q:=bF h (v:= aB d) (u:=k) (w:=j) rfl g i
 have g:n.row B 0 3=some [aB d,k,j]:=aS (by rw[m.get B om];exact F)
 simp(disch:=omega)only[go_sem,c_ref15_read,aF,Q,o,U,p,L,g]
 refine (rlist_bad _ d O R n (l.mono (q.trans m)) N P sr x).mono ?_
 rintro _ r ⟨rfl,s⟩
 have K:=bV x
 have A:r.get (B+1)=some (.cells false [aB 0,.aD,.aD,.aD,.aD,.aD]):=by rw[s.get _ om];exact J
 have z:kU [aB 0,.aD,.aD,.aD,.aD,.aD] []=some (.agg [aB 0,.aD,.aD,.aD,.aD,.aD]):=rfl
 simp(disch:=omega)only[go_sem,K,z,stV_six r (B+1) (a:= aB 0) (b:= .aD) (c:= .aD) (d:= .aD) (e:= .aD) (f:= .aD) rfl rfl rfl rfl rfl rfl,A,putO_six,row_six (H.aT ..)]
 exact ((q.trans m).trans s).set om _
theorem put_third3 (hh:H)(id:Nat)(y:V):dS (some (.cells false [a,b,c])) hh id 2 [y]=some (hh.set id (some (.cells false [a,b,y]))):=by
 simp [dS,putAt]
structure KFd (n:Nat)(G:List Nat->Prop)(L:LN)(W:Nat->Prop)(h:H)(a:Cls.KE)(r:Nat):Prop where
 ord:a.ord=dW (L.getD r []) n
 size:a.size=(orbC G L r).length
 rep:PV W h a.rep (L.getD r [])
structure RdO (n:Nat)(G:List Nat->Prop)(L:LN)(K:List Nat)(b:Nat)(vO vR:V)(hh:H)(v:V):Prop where
 ex: ∃vL S ks vM,v= .agg [aB n,vO,vR,vL,.sl S 0 K.length (.kn K.length),vM]/\b<=S/\S<hh.next/\hh.get S=some (.cells false (list3 ks))/\All2 (KFd n G L (λq=>q<b∨S<=q) hh) ks K/\SP hh vL L/\SI hh vM (zi (numsL G L K))
theorem row3_cells {h:H}{id o:Nat}(j:h.cell id o=some a)(g:h.cell id (o+1)=some b)(i:h.cell id (o+2)=some c):h.row id o 3=some [a,b,c]:=by
 unfold H.cell at j g i;unfold H.row;split at j
 ·rename_i r k e
  rw[e] at g i;have g:k[o+1]? =some b:=g;have i:k[o+2]? =some c:=i;obtain⟨p,l⟩:=xQ.1 j;obtain⟨lb,m⟩:=xQ.1 g;obtain⟨n,q⟩:=xQ.1 i;rw[e];simp only[sub];rw[aV om,Tb p,Tb lb,Tb n,l,m,q]
  rfl
 ·cases j
theorem rread_ok {W:Nat->Prop}(vc:V)(n:Nat)(O:LN)(R:jL)(G:List Nat->Prop)(h:H)(gc:GC W h vc n O R G)(L:LN)(hL:cI O R n 0 (cG n)=L):
  Ev T 103 [vc] h (λv h'=> ∃vO vR K vg,vc= .agg [aB n,vO,vR]/\v= .tup [vg,aB 0]/\IsK n G L K/\RdO n G L K h.next vO vR h' vg/\Fr h h'):=by
 have a4:=gc
 obtain⟨vO,vR,rfl,sO,sR⟩:=gc.ch
 refine bH c_ref15_read rfl rfl ?_
 have hG:=gc.grp
 have n7:=gc.n7
 have n0:=gc.n0
 obtain⟨E,ll⟩:=eJ gc.grp gc.isc
 have m2:=szF_fact gc
 rw[hL] at E ll
 have a0:vO.one=true/\vR.one=true:=⟨tH sO,sT sR⟩
 obtain⟨B,hB⟩:=IP h.next
 obtain⟨l,e1,n1,g1,o1,f1⟩:=dL hB [aB n,vO,vR]
 obtain⟨A,e2,n2,g2,o2,f2⟩:=dL n1 [aB 0,.aD,.aD,.aD,.aD,.aD]
 have bx:=bF h (v:= aB n) (u:=vO) (w:=vR) rfl a0.1 a0.2
 have rB: ∀hh,Fr A hh->hh.row B 0 3=some [aB n,vO,vR]:=λhh f=>aS (by rw[f.get B om,f2.get B om];exact g1)
 have F2:=f1.trans f2
 simp(disch:=omega)only[go_sem,c_ref15_read,aF,bx,hB,e1,n1,e2,rB A (Fr.refl _)]
 refine (rlist_ok _ n O R G A (a4.mono F2) L hL).mono ?_
 rintro _ h3 ⟨Z,l0,rfl,c8,g6,f3⟩
 have sL:SP h3 Z L:=PVs.sp' c8.sv g6
 obtain⟨m,hm⟩:=IP L.length
 have a8:=sL.lens
 have wL:=SV.dC (show SV h3 Z 1 _ from sL.choose_spec.1)
 rw[iK,hm] at a8
 obtain⟨P,hP⟩:=IP h3.next
 obtain⟨h4,e4,n4,g4,o4,f4⟩:=dL hP [aB 0,.aD,.aD,.aD,.aD,.aD]
 obtain⟨h5,e5,n5,g5,o5⟩:=nP h4 P [aB n,vO,vR,Z,.aD,.aD]
 have c7:Fr h3 h5:=⟨om,λq hq=>by rw[o5 q om,o4 q om]⟩
 simp(disch:=omega)only[go_sem,rB h3 f3]
 refine bB (λhc=>(hc rfl).elim) (λ_=>?_)
 simp(disch:=omega)only[go_sem,rB h3 f3,bld_six (a:= aB n) rfl a0.1 a0.2 wL.1 wL.2.1,hP,e4,stV_six h4 P (a:= aB n) (b:=vO) (c:=vR) (d:=Z) (e:= .aD) (f:= .aD) rfl a0.1 a0.2 wL.2.1 rfl rfl,g4,putO_six,e5,rB h5 (f3.trans c7)]
 have F5:=(F2.trans f3).trans c7
 refine (kstrong_ok _ n O R G h5 (a4.mono F5)).mono ?_
 rintro vS h6 ⟨sS,f6⟩
 obtain⟨D,hD⟩:=IP h6.next
 obtain⟨h7,e7,m2,g7,o7,f7⟩:=dL hD (rc m λ_=> aB 0)
 simp(disch:=omega)only[go_sem,a8,mks_zeros _ m om,hD,e7]
 obtain⟨s4,m2,d8,cL⟩:=pvs_open c8 g6
 obtain⟨c5,m4,t0,m9,p9,j7,cS⟩:=sp_open sS
 rw[hm] at d8 cL
 obtain⟨S,hS⟩:=IP R.flatten
 have c1: ∀s∈S,G s:=by rw[←hS];exact chain_mem a4.isc
 have j5: ∀x,G x->fA n (λg=>g∈S) x:=λx hx=>by
  have:=(chain_iff hG a4.isc x).2 hx;rw[←hS];exact this
 have m4:R.flatten.length<=49:=by
  have l:=flat_len (m:=7) (R:=R.map (List.map zi)) (i:=n) (by rw[iK,a4.isc.lr];exact fH _) (λj hj=>by
   rw[gd_map (List.map zi) (d:= []) (by rw[a4.isc.lr];exact hj),iK,a4.isc.rl j hj]
   have:=(a4.row hj).2;omega)
  rw[yR (by rw[iK,a4.isc.lr];exact fH _)] at l;have e:(R.map (List.map zi)).flatten.length=R.flatten.length:=by simp [List.length_flatten,List.map_map,Function.comp_def]
  rw[e] at l;have A:n*7<=7*7:=Nat.mul_le_mul_right 7 n7;omega
 rw[hS] at c5 j7 cS m4
 obtain⟨sl,l7⟩:=IP S.length
 rw[l7] at c5 j7 cS m4
 have a4:=f6.next
 have a4:=c7.next
 have F6:=F5.trans f6
 have a4:=F2.next
 have a4:=f3.next
 have fD: ∀hh,Fx (· =D) h7 hh->Fr h6 hh:=λhh f=>⟨by have:=f.next;omega,λq hq=>by rw[f.get q om (λe=>by have:q=D:=e;omega)];exact o7 q om⟩
 have i4: ∀hh,Fx (· =D) h7 hh->Fr h3 hh:=λhh f=>(c7.trans f6).trans (fD hh f)
 have m0: ∀i,i<m-> ∀hh,Fr h3 hh->hh.cell s4 (m2+i)=some (l0.getD i V.undef):=λi hi hh f=>by rw[f.cell (cL i hi).1];exact (cL i hi).2.1
 have s6: ∀i,i<sl-> ∀hh,Fr h6 hh->hh.cell t0 (m9+i)=some (p9.getD i V.undef):=λi hi hh f=>by rw[f.cell (cS i hi).1];exact (cS i hi).2.1
 have LP: ∀g∈L,bT n g:=λg hg=>hG.isP ((E.mem g).1 hg)
 clear e1 e2 o2 e4 g4 o4 e5 o5 bx
 refine bW (λvs hh=> ∃(vK:V) (ks:List Cls.KE),(∃g:Nat->V,vs= [g 0,.ptr B 0,.ptr (B+1) 0,g 3,Z,g 5,.ptr P 0,g 7,.sl D 0 m (.kn m),vK,g 10,g 11,g 12,g 13,g 14,g 15,g 16,g 17,g 18,g 19,g 20,g 21,g 22,g 23,g 24,g 25,g 26,g 27,g 28,g 29,g 30,g 31,g 32,g 33])/\Own hh vK 3 (list3 ks) (D+1)/\All2 (KFd n G L (λq=>q<A.next) h3) ks (repsC G L m)/\hh.get D=some (.cells false (rc m λj=> aB (lbC G L m j:Nat)))/\D<hh.next/\Fx (· =D) h7 hh) ?_ ?_
 ·refine aH (λk' vs hh=> ∃(i:Nat) (vK:V) (ks:List Cls.KE),(∃g:Nat->V,vs= [g 0,.ptr B 0,.ptr (B+1) 0,g 3,Z,g 5,.ptr P 0,vS,.sl D 0 m (.kn m),vK,aB i,g 11,g 12,g 13,g 14,g 15,g 16,g 17,g 18,g 19,g 20,g 21,g 22,g 23,g 24,g 25,g 26,g 27,g 28,g 29,g 30,g 31,g 32,g 33])/\i<=m/\Own hh vK 3 (list3 ks) (D+1)/\All2 (KFd n G L (λq=>q<A.next) h3) ks (repsC G L i)/\hh.get D=some (.cells false (rc m λj=> aB (lbC G L i j:Nat)))/\D<hh.next/\Fx (· =D) h7 hh/\k'=m-i) m
   ⟨0,.aD, [],aA rfl,eY _,Own.aD _ _ _,trivial,by rw[g7,show (λj=>aB (lbC G L 0 j:Nat))=λ_=>aB 0 from funext λj=>by rw[lbC_zero];rfl],om,Fx.refl _ _,rfl⟩ ?_
  rintro k' Y ha ⟨i,vK,ks,⟨g,rfl⟩,hi,ow,al,gD,nD,Fa,rfl⟩
  by_cases a3:(i:Int)<(m:Int)
  case neg=>
   have d1:=bM a3;obtain rfl:i=m:=om
   simp(disch:=omega)only[go_sem,a8,d1];exact⟨vK,ks,aA rfl,ow,al,gD,nD,Fa⟩
  have d1:=bV a3
  have i8:i<m:=om
  have b5:i<L.length:=om
  have cD:=gO gD i8
  by_cases hr:isR G L i
  case neg=>
   have d2:decide (((lbC G L i i:Nat):Int)≠0)=true:=bV λh=>hr (lbC_self.1 om)
   simp(disch:=omega)only[go_sem,a8,d1,cD,d2];rw[dX i];exact⟨m-(i+1),om,i+1,vK,ks,aA rfl,om,ow,by rw[(repsC_succ i).2 hr];exact al,by rw[gD,show (λj=>aB (lbC G L (i+1) j:Nat))=λj=>aB (lbC G L i j:Nat) from funext λj=>by rw[lbC_skip hG E b5 hr j]],nD,Fa,rfl⟩
  have d2:decide (((lbC G L i i:Nat):Int)≠0)=false:=bM λh=>h (by rw[lbC_self.2 hr];rfl)
  obtain⟨_,_,pi⟩:=cL i i8
  have k9:=m0 i i8
  generalize l0.getD i V.undef=vx at k9 pi
  have si:=pi.si
  have X:=el_isP hG E b5
  have j9:=i4 ha Fa
  simp(disch:=omega)only[go_sem,a8,d1,cD,d2,d8.ixa,k9 ha j9]
  refine (rorder_ok vx n (L.getD i []) ha n0 n7 X (si.mono j9)).mono ?_
  rintro _ r ⟨rfl,fb⟩
  obtain⟨o,ho⟩:=IP (dW (L.getD i []) n)
  rw[ho]
  have r9:=j9.trans fb
  have b8:=SV.dC si
  obtain⟨C,hC⟩:=IP r.next
  obtain⟨hc,ec,nc,a5,oc,fc⟩:=dL hC [.aD,aB 0,aB 0]
  obtain⟨hd,ed,nd,gd,od⟩:=nP hc C [vx,aB o,aB 0]
  have q6:hd.next=C+1:=om
  obtain⟨he,ee,ne,ge,oe,fe⟩:=dL q6 [aB i]
  have nb:=fb.next
  have l1:he.get D=some (.cells false (rc m λj=> aB (lbC G L i j:Nat))):=by rw[oe _ om,od _ om,oc _ om,fb.get _ om];exact gD
  obtain⟨hf,ef,nf,gf,of⟩:=nP he D ((rc m λj=> aB (lbC G L i j:Nat)).set i (aB ((repsC G L i).length+1:Nat)))
  have b0:=All2.length al
  have a4:(repsC G L i).length<=i:=by
   unfold repsC;refine jC (List.length_filter_le _ _) (by rw[zE];exact fH _)
  have a2:cV vK=some (aB ((repsC G L i).length:Int)):=by unfold cV;rw[SV.len ow.sv (n:=ks.length) (list3_len ks) om,b0];rfl
  have t8:kU [.aD,aB 0,aB 0] [(0,1,vx),(1,1,aB o)]=some (.agg [vx,aB o,aB 0]):=by
   simp [kU,gG,putAt,b8.1,b8.2.1,show (aB o).cells= [aB o] from rfl,show (aB o).one=true from rfl]
  have pt:=bE (vs:=rc m λj=> aB (lbC G L i j:Nat)) (off:=i) (by rw[cK];omega)
  have a4:=k9 r r9
  simp(disch:=omega)only[go_sem,a8,d8.ixa,a4,t8,hC,ec,dO hc C 0 (v:=vx) (u:= aB o) (w:= aB 0) b8.2.1 rfl rfl,a5,dD,ed,cJ hd (z:= aB 0) (v:= aB i) rfl rfl,q6,ee,a2,l1,pt,show ((repsC G L i).length:Int)+1=(((repsC G L i).length+1:Nat):Int) from rfl,ef]
  obtain⟨pl,l4⟩:=IP ((repsC G L i).length)
  have Fbf:Fx (· =D) r hf:=⟨om,λq l A=>by rw[of q A,oe q om,od q om,oc q om]⟩
  have a4:Fx (· =D) h7 r:=⟨by have:=Fa.next;omega,λq l A=>by rw[fb.get q (by have:=Fa.next;omega)];exact Fa.get q l A⟩
  have FT: ∀{hh},Fx (· =D) r hh->Fx (· =D) h7 hh:=λ{hh} f=>⟨by have:=f.next;have:=a4.next;omega,λq l A=>by rw[f.get q (by have:=a4.next;omega) A];exact a4.get q l A⟩
  have g8:hf.get D=some (.cells false (rc m λj=> aB (lbQ G L i [i] j:Nat))):=by
   rw[gf,eG];congr 2;refine aX λj _=>?_
   rw[show [i]= []++ [i] from rfl,lbQ_push]
   by_cases e:j=i
   ·rw[aV e,aV e]
   ·rw[aZ e,aZ e,lbQ_nil]
  have i9:hf.get C=some (.cells false [vx,aB o,aB 0]):=by rw[of _ om,oe _ om];exact gd
  have i0:Own hf (.sl (C+1) 0 1 (.kn 1)) 1 (ints (zi [i])) (C+1):= .inr ⟨C+1,1,.kn 1, [],rfl,rfl,.inr ⟨rfl,rfl⟩,fH _,om,by rw[of _ om,pN];exact ge⟩
  have B0:BQ G L S i [i] 0:=⟨by simp,by simp,rfl,λj hj=>by
   obtain rfl:j=i:=by simpa using hj
   exact⟨om,cR_refl hG E b5⟩,λk hk=>om⟩
  refine bW (λvs hh=> ∃(Q:List Nat) (vQ:V),(∃g:Nat->V,vs= [g 0,.ptr B 0,.ptr (B+1) 0,g 3,Z,g 5,.ptr P 0,vS,.sl D 0 m (.kn m),vK,aB i,g 11,.ptr C 0,vQ,g 14,g 15,g 16,g 17,g 18,g 19,g 20,g 21,g 22,g 23,g 24,g 25,g 26,g 27,g 28,g 29,g 30,g 31,g 32,g 33])/\BQ G L S i Q Q.length/\hh.get C=some (.cells false [vx,aB o,aB (Q.length:Int)])/\C<hh.next/\hh.get D=some (.cells false (rc m λj=> aB (lbQ G L i Q j:Nat)))/\Fx (· =D) r hh) ?_ ?_
  ·refine aH (λk' vs hh=> ∃(Q:List Nat) (vQ:V) (p:Nat),(∃g:Nat->V,vs= [g 0,.ptr B 0,.ptr (B+1) 0,g 3,Z,g 5,.ptr P 0,vS,.sl D 0 m (.kn m),vK,aB i,g 11,.ptr C 0,vQ,aB p,g 15,g 16,g 17,g 18,g 19,g 20,g 21,g 22,g 23,g 24,g 25,g 26,g 27,g 28,g 29,g 30,g 31,g 32,g 33])/\p<=Q.length/\BQ G L S i Q p/\Own hh vQ 1 (ints (zi Q)) (C+1)/\hh.get C=some (.cells false [vx,aB o,aB p])/\C<hh.next/\hh.get D=some (.cells false (rc m λj=> aB (lbQ G L i Q j:Nat)))/\Fx (· =D) r hh/\k'=m-p) m
    ⟨[i],_,0,aA rfl,eY _,B0,i0,i9,om,g8,Fbf,rfl⟩ ?_
   clear g8 i9 i0 B0 Fbf ef nf gf of ee ne ge oe fe ed nd gd od ec nc a5 oc fc l1 pt cD d2
   rintro k' Y ka ⟨Q,vQ,p,⟨g2,rfl⟩,hp,F,oQ,gC,nC,a6,Fk,rfl⟩
   have i7:=F.len
   have j1:=Own.lens oQ (show (ints (zi Q)).length=Q.length by rw[aL,aQ])
   by_cases j8:(p:Int)<(Q.length:Int)
   case neg=>
    have d5:=bM j8;obtain rfl:p=Q.length:=om
    simp(disch:=omega)only[go_sem,j1,d5];exact⟨Q,vQ,aA rfl,F,gC,nC,a6,Fk⟩
   have d5:=bV j8
   have b2:p<Q.length:=om
   obtain⟨kb,o6,s5,q9,d7⟩:=nP ka C [vx,aB o,aB (p+1:Nat)]
   have pC:=put_third3 (a:=vx) (b:= aB o) (c:= aB p)
   simp(disch:=omega)only[go_sem,j1,d5,H.aG gC,gC,pC,show (p:Int)+1=((p+1:Nat):Int) from rfl,o6]
   obtain⟨c,a9⟩:=IP (Q.getD p 0)
   obtain⟨q4,s0⟩:=F.mem c (by rw[←a9];exact getD_mem b2)
   have Cp:=el_isP hG E q4
   have f0: ∀hh,Fx (λq=>q=D∨q=C) kb hh->Fx (· =D) r hh:=λhh f=>⟨by have:=f.next;have:=Fk.next;omega,λq l A=>by rw[f.get q (by have:=Fk.next;omega) (by rintro (e|e);exact A e;omega),d7 q om];exact Fk.get q l A⟩
   have Fkb:Fx (· =D) r kb:=f0 kb (Fx.refl _ _)
   have nk:=Fk.next
   have q8:Own kb vQ 1 (ints (zi Q)) (C+1):=oQ.keep om λid off n' cp e l=>d7 id (by have:=(oQ.in _ _ _ _ e).2.1;omega)
   have d3:kb.get D=some (.cells false (rc m λj=> aB (lbQ G L i Q j:Nat))):=by rw[d7 D om];exact a6
   refine aH (λk' vs hh=> ∃(Q:List Nat) (vQ:V) (t:Nat),(∃g:Nat->V,vs= [g 0,.ptr B 0,.ptr (B+1) 0,g 3,Z,g 5,.ptr P 0,vS,.sl D 0 m (.kn m),vK,aB i,g 11,.ptr C 0,vQ,aB p,aB t,g 16,g 17,g 18,g 19,g 20,g 21,g 22,g 23,g 24,g 25,g 26,g 27,g 28,g 29,g 30,g 31,g 32,g 33])/\t<=sl/\p<Q.length/\BQ G L S i Q p/\Q.getD p 0=c/\(∀s∈S.take t,∃j∈Q,L.getD j []=conjP (L.getD c []) s)/\Own hh vQ 1 (ints (zi Q)) (C+1)/\hh.get C=some (.cells false [vx,aB o,aB (p+1:Nat)])/\C<hh.next/\hh.get D=some (.cells false (rc m λj=> aB (lbQ G L i Q j:Nat)))/\Fx (· =D) r hh/\k'=sl-t) sl
    ⟨Q,vQ,0,aA rfl,eY _,b2,F,a9,λs hs=>(by simp at hs),q8,q9,om,d3,Fkb,rfl⟩ ?_
   clear F oQ gC a6 Fk a9 b2 i7 j1 d5 hp j8 o6 s5 q9 d7 f0 Fkb q8 d3 nk nC kb ka
   clear Q vQ
   rintro k' Y ka ⟨Q,vQ,t,⟨g3,rfl⟩,ht,b2,F,a9,k0,oQ,gC,nC,a6,Fk,rfl⟩
   have i7:=F.len
   by_cases m3:(t:Int)<(sl:Int)
   case neg=>
    have d5:=bM m3;obtain rfl:t=sl:=om
    simp(disch:=omega)only[go_sem,c5,d5];rw[dX p];refine⟨m-(p+1),om,Q,vQ,p+1,aA rfl,om,⟨F.nd,F.ne,F.hd,F.mem,λk hk s hs=>?_⟩,oQ,gC,nC,a6,Fk,rfl⟩
    by_cases e:k=p
    ·subst e
     rw[a9];exact k0 s (by rw[←l7,List.take_length];exact hs)
    ·exact F.cl k om s hs
   have d5:=bV m3
   have l3:t<sl:=om
   have r2:p<Q.length:=b2
   obtain⟨a4,a4,t1,cq⟩:=zi_cell (h:=ka) (hh:=ka) (b:=Q.length) oQ.sv rfl
   have i1:=λhh f=>cq hh f p r2
   rw[a9] at i1
   have b9:=fD ka (FT Fk)
   have c3:=i4 ka (FT Fk)
   obtain⟨_,_,sy⟩:=cS t l3
   have cy:=s6 t l3
   obtain⟨_,_,pz⟩:=cL c om
   have cz:=m0 c om
   generalize p9.getD t V.undef=vy at cy sy
   generalize l0.getD c V.undef=vz at cz pz
   have sz:=pz.si
   obtain⟨s,hs⟩:=IP (S.getD t [])
   rw[hs] at sy
   have d0:s∈S:=by rw[←hs];exact getD_mem om
   have Sp:=hG.isP (c1 s d0)
   simp(disch:=omega)only[go_sem,c5,d5,j7.ixa,cy ka b9,t1.ixa,i1 ka (Fr.refl _),d8.ixa,cz ka c3]
   have a4:Fr ka (H.mk ka.tr (ka.next+19)):=(Fr.refl ka).bL om
   refine (kinv_ok vy n s _ om Sp ((sy.mono b9).mono a4)).mono ?_
   rintro c7 k1 c5
   have K1:=a4.trans c5.fr
   have ez:=SV.dJ sz
   have ey:=SV.dJ sy
   simp(disch:=omega)only[go_sem,i1 k1 K1,cz k1 (c3.trans K1),cy k1 (b9.trans K1),ez,ey]
   refine (kmul_ok c7 vz (dH s) (L.getD c []) k1 (by rw[fV,Sp.len];omega) (c5.pv (W:=λ_=>False) id).si (sz.mono (c3.trans K1)) (λj hj=>by rw[Cp.len];exact Sp.inv.dZ (by rw[←Sp.inv.len];exact hj))).mono ?_
   rintro c5 k2 ⟨a4,c7,_⟩
   have K2:=K1.trans c7
   have P2:=Sp.inv.mul Cp
   simp(disch:=omega)only[go_sem,cy k2 (b9.trans K2),ey]
   refine (kmul_ok c5 vy _ s k2 (by rw[P2.len];omega) a4 (sy.mono (b9.trans K2)) (λj hj=>by rw[Sp.len];exact P2.dZ (by rw[←P2.len];exact hj))).mono ?_
   rintro a4 k3 ⟨b9,c5,_⟩
   have K3:=K2.trans c5
   have P3:=P2.mul Sp
   simp(disch:=omega)only[go_sem]
   have t5:bD (bD (dH s) (L.getD c [])) s∈L:=(E.mem _).2 (hG.mul (hG.mul (hG.inv (c1 s d0)) (el_mem E q4)) (c1 s d0))
   refine (index_ok Z a4 n L _ k3 om om LP P3 E.asc (sL.mono (c3.trans K3)) b9).mono ?_
   rintro a4 k4 ⟨a4,s8⟩
   rcases a4 with ⟨j,rfl,hj,ej⟩|⟨a4,_⟩
   case inr=>exact absurd t5 a4
   have K4:=K3.trans s8
   have j0:L.getD j []=conjP (L.getD c []) s:=ej
   have l9:cR G L i j:=cR_trans hG E om s0 ⟨s,c1 s d0,j0.symm⟩
   have p6:S.take (t+1)=S.take t++ [s]:=by rw[take_getD [] om,hs]
   have a4:=K4.next
   have a4:=Fk.next
   have i5:k4.get D=some (.cells false (rc m λj=> aB (lbQ G L i Q j:Nat))):=by rw[K4.get _ om];exact a6
   have q3:k4.get C=some (.cells false [vx,aB o,aB (p+1:Nat)]):=by rw[K4.get _ nC];exact gC
   have l2:=oQ.fr K4
   have m8:Fx (· =D) r k4:=⟨om,λq l A=>by rw[K4.get q om];exact Fk.get q l A⟩
   have r1:=gO i5 (i:=j) om
   have f8:=lbQ_iff hG E (Q:=Q) b5 hr hj l9
   by_cases c6:j∈Q
   ·have d6:decide (((lbQ G L i Q j:Nat):Int)=0)=false:=bM λh=>f8.1 om c6
    simp(disch:=omega)only[go_sem,r1,d6]
    rw[dX t]
    refine⟨sl-(t+1),om,Q,vQ,t+1,aA rfl,om,b2,F,a9,?_,l2,q3,om,i5,m8,rfl⟩
    rw[p6]
    intro s' c0
    rcases sP.1 c0 with l|l
    ·exact k0 s' l
    ·obtain rfl:s'=s:=by simpa using l
     exact⟨j,c6,j0⟩
   have d6:decide (((lbQ G L i Q j:Nat):Int)=0)=true:=bV (by rw[f8.2 c6];rfl)
   obtain⟨k5,e5,p,t2,q5⟩:=nP k4 D ((rc m λj=> aB (lbQ G L i Q j:Nat)).set j (aB (pl+1:Nat)))
   have pt:=bE (vs:=rc m λj=> aB (lbQ G L i Q j:Nat)) (off:=j) (by rw[cK];omega)
   have l8:Own k5 vQ 1 (ints (zi Q)) (C+1):=l2.keep om λid off n' cp e l=>q5 id (by have:=(l2.in _ _ _ _ e).2.1;omega)
   obtain⟨p,r5,p,r6,l5,t4⟩:=dL (h:=k5) rfl [aB j]
   obtain⟨k7,a7,p7⟩:=(l8.fr t4).push (bytes:=8) (SV.one (v:= aB j) (id:=k5.next) om r6 (.kn 1)) (n:=Q.length) (m:=1) (by rw[aL,aQ];simp) rfl om om om
   have p:=a2
   rw[l4] at p
   simp(disch:=omega)only[go_sem,r1,d6,p,show (pl:Int)+1=((pl+1:Nat):Int) from rfl,i5,pt,e5,cJ k5 (z:= aB 0) (v:= aB j) rfl rfl,r5,a7]
   rw[dX t]
   have el:ints (zi (Q++ [j]))=ints (zi Q)++ [aB j]:=by simp [zi,ints]
   have p:=p7.next
   have m1: ∀q,q<=C->dF vQ q:=λq hq id off n' cp e e2=>by have:=(l8.in _ _ _ _ e).2.1;omega
   have g0: ∀q,q<=C->q≠D->k7.get q=k4.get q:=λq l A=>by rw[p7.old q om (m1 q l),l5 q om,q5 q A]
   have r8:(rc m λp=>aB (lbQ G L i Q p:Nat)).set j (aB (pl+1:Nat))=rc m λp=> aB (lbQ G L i (Q++ [j]) p:Nat):=by
    rw[eG]
    exact aX λp _=>by
     rw[lbQ_push,l4]
     by_cases e:p=j
     ·rw[aV e,aV e]
     ·rw[aZ e,aZ e]
   refine⟨sl-(t+1),om,Q++ [j],_,t+1,aA rfl,om,by rw[jD];omega,⟨?_,by rw[jD];simp,?_,?_,?_⟩,?_,?_,by rw[el];exact p7.own (by rw[aL,aQ];omega) rfl om,by rw[g0 C (fH _) om];exact q3,om,?_,?_,rfl⟩
   ·rw[List.nodup_append]
    exact⟨F.nd,by simp,λx hx y hy e=>by
     obtain rfl:y=j:=by simpa using hy
     exact c6 (e▸hx)⟩
   ·rw[List.getD,vY F.ne];exact F.hd
   ·intro x hx
    rcases sP.1 hx with l|l
    ·exact F.mem x l
    ·obtain rfl:x=j:=by simpa using l
     exact⟨hj,l9⟩
   ·intro k hk s' c0
    obtain⟨y,hy,ey⟩:=F.cl k hk s' c0
    refine⟨y,sP.2 (.inl hy),?_⟩
    rw[ey,List.getD,List.getD,List.getD,List.getD,vY om]
   ·rw[List.getD,vY b2];exact a9
   ·rw[p6]
    intro s' c0
    rcases sP.1 c0 with l|l
    ·obtain⟨y,hy,ey⟩:=k0 s' l
     exact⟨y,sP.2 (.inl hy),ey⟩
    ·obtain rfl:s'=s:=by simpa using l
     exact⟨j,sP.2 (.inr (by simp)),j0⟩
   ·rw[p7.old D om (m1 D om),l5 D om,t2,r8]
   ·refine⟨om,λq l A=>?_⟩
    rw[g0 q om A]
    exact m8.get q l A
  clear g8 i9 i0 B0 Fbf ef nf gf of ee ne ge oe fe ed nd gd od ec nc a5 oc fc l1 pt cD d2
  rintro Y ka ⟨Q,vQ,⟨g2,rfl⟩,p,gC,nC,a6,Fk⟩
  have hQ:=p.done hG E (fH _) b5 c1 j5
  have r4:Q.length=(orbC G L i).length:=by
   have:=(List.perm_ext_iff_of_nodup p.nd (orbC_nodup (G:=G) (L:=L) i)).2 λj=>by rw[hQ j,orbC_mem]
   exact this.length_eq
  have i7:=p.len
  have nk:=Fk.next
  obtain⟨kc,t7,p,r3,j3,p⟩:=dL (h:=ka) rfl [vx,aB o,aB (Q.length:Int)]
  have c4:=FT Fk
  have p:Own kc vK 3 (list3 ks) (D+1):=ow.keep (by have:=fb.next;omega) λid off n' cp e l=>by
   have A:=(ow.in _ _ _ _ e).2.1;rw[j3 id om,Fk.get id om (λe=>by have:id=D:=e;omega),fb.get id om]
  obtain⟨s,s7,c9⟩:=p.push (bytes:=40) (y:= .sl ka.next 0 1 (.kn 1)) (us:= [vx,aB o,aB (Q.length:Int)]) (SV.all rfl om r3 _) (n:=ks.length) (m:=1) (by rw[list3_len]) rfl om om om
  have p:=c9.next
  simp(disch:=omega)only[go_sem,aS gC,bls_three b8.2.1,t7,s7]
  rw[dX i]
  obtain⟨ke,e3,f5,e6⟩: ∃a:Cls.KE,a.rep=vx/\a.ord=o/\a.size=Q.length:=⟨⟨vx,o,Q.length,.aD,0,⟨b8.1,b8.2.1,SV.dJ si⟩,⟨rfl,rfl,rfl⟩⟩,rfl,rfl,rfl⟩
  have ap: ∀q,q<=D->dF vK q:=λq hq id off n' cp e e2=>by have:=(ow.in _ _ _ _ e).2.1;omega
  refine⟨m-(i+1),om,i+1,_,ks++ [ke],aA rfl,om,?_,?_,?_,om,?_,rfl⟩
  ·have t:=c9.own (b:=D+1) (by rw[list3_len]) rfl om
   have e:list3 (ks++ [ke])=list3 ks++ [vx,aB o,aB (Q.length:Int)]:=by rw[list3_app];simp [list3,e3,f5,e6]
   rw[e]
   exact t
  ·rw[(repsC_succ i).1 hr]
   exact al.append ⟨⟨by rw[f5,ho],by rw[e6,r4],by rw[e3];exact pi⟩,trivial⟩
  ·rw[c9.old D om (ap D (fH _)),j3 D om,a6,aX λj hj=>by rw[lbQ_done hG E b5 hr hQ om]]
  ·refine⟨by have:=c4.next;omega,λq l A=>?_⟩
   have o:q≠D:=A
   rw[c9.old q (by have:=c4.next;omega) (ap q om),j3 q (by have:=c4.next;omega)]
   exact c4.get q l A
 rintro Y h8 ⟨vK,ks,⟨g,rfl⟩,ow,al,gD,nD,F8⟩
 obtain⟨K,ik⟩:=isK_ex n G L
 obtain⟨M,hM⟩:=IP (repsC G L m)
 rw[hM] at al
 have b0:=All2.length al
 obtain⟨w,hw⟩:=IP M.length
 rw[hw] at b0
 have o:w<=m:=by
  rw[←hw,←hM];unfold repsC;exact jC (List.length_filter_le _ _) (by rw[zE];exact fH _)
 have a2:cV vK=some (aB w):=by unfold cV;rw[SV.len ow.sv (n:=w) (by rw[list3_len,b0]) om];rfl
 obtain⟨c2,e8,i6,b3,b7⟩:=SV.shape ow.sv w (by rw[list3_len,b0]) om
 rw[list3_len,b0] at b7
 have o:=fD h8 F8
 have b4:=i4 h8 F8
 have rK: ∀i,(hi:i<w)-> ∀hh,Fr h8 hh->hh.row c2 (e8+i*3) 3=some [(ks[i]'om).rep,aB ((ks[i]'om).ord:Int),aB ((ks[i]'om).size:Int)]:=λi hi hh f=>by
  obtain⟨o,s,p⟩:=list3_at (ks:=ks) (i:=i) om;refine row3_cells ?_ ?_ ?_
  ·rw[f.cell (b3 om),b7 _ om,o]
  ·rw[f.cell (b3 om),Nat.add_assoc,b7 _ om,s]
  ·rw[f.cell (b3 om),Nat.add_assoc,b7 _ om,p]
 obtain⟨N,o⟩:=IP h8.next
 obtain⟨h9,e9,n9,g9,o9,f9⟩:=dL o (rc w λ_=> aB 0)
 simp(disch:=omega)only[go_sem,a2,mks_zeros _ w om,o,e9]
 have o:=F8.next
 have fN: ∀hh,Fx (· =N) h9 hh->Fr h8 hh:=λhh f=>⟨by have:=f.next;omega,λq hq=>by rw[f.get q om (λe=>by have:q=N:=e;omega)];exact o9 q om⟩
 have o8: ∀i,(hi:i<w)->KFd n G L (λq=>q<A.next) h3 (ks[i]'om) (M.getD i 0)/\M.getD i 0<L.length:=λi hi=>by
  have l:=All2.get al i om om;have e:M.getD i 0=M[i]'om:=bP om;have i3:M.getD i 0∈repsC G L m:=by rw[hM];exact getD_mem om
  refine⟨by rw[e];exact l,?_⟩;have:=(repsC_mem.1 i3).1;omega
 obtain⟨bK,p0⟩: ∃bK:Nat->Nat->Bool,∀k i,bK k i=true↔kLt n G L (M.getD k 0) (M.getD i 0):=by
  classical
  exact⟨λk i=>decide (kLt n G L (M.getD k 0) (M.getD i 0)),λk i=>by simp⟩
 have s3: ∀i,i<w->cntB (λu=>bK u i) w=K.idxOf (M.getD i 0):=λi hi=>by
  have:=nb_count ik (λu=>bK u i) (t:=i) (by rw[hm,hM];omega) (λu o=>by rw[hm,hM];exact p0 u i);rw[hm,hM,hw] at this;exact this
 refine bW (λvs hh=>(∃g:Nat->V,vs= [g 0,.ptr B 0,.ptr (B+1) 0,g 3,Z,g 5,.ptr P 0,g 7,.sl D 0 m (.kn m),vK,g 10,g 11,g 12,g 13,g 14,g 15,g 16,g 17,.sl N 0 w (.kn w),g 19,g 20,g 21,g 22,g 23,g 24,g 25,g 26,g 27,g 28,g 29,g 30,g 31,g 32,g 33])/\hh.get N=some (.cells false (rc w λt=> aB (K.idxOf (M.getD t 0):Nat)))/\N<hh.next/\Fx (· =N) h9 hh) ?_ ?_
 ·refine aH (λk' vs hh=> ∃(i:Nat),(∃g:Nat->V,vs= [g 0,.ptr B 0,.ptr (B+1) 0,g 3,Z,g 5,.ptr P 0,g 7,.sl D 0 m (.kn m),vK,g 10,g 11,g 12,g 13,g 14,g 15,g 16,g 17,.sl N 0 w (.kn w),aB i,g 20,g 21,g 22,g 23,g 24,g 25,g 26,g 27,g 28,g 29,g 30,g 31,g 32,g 33])/\i<=w/\hh.get N=some (.cells false (rc w λt=> aB (if t<i then K.idxOf (M.getD t 0) else 0:Nat)))/\N<hh.next/\Fx (· =N) h9 hh/\k'=w-i) w
   ⟨0,aA rfl,eY _,by rw[g9];rfl,om,Fx.refl _ _,rfl⟩ ?_
  rintro k' Y ha ⟨i,⟨g,rfl⟩,hi,gN,nN,Fa,rfl⟩
  by_cases a3:(i:Int)<(w:Int)
  case neg=>
   have d1:=bM a3;obtain rfl:i=w:=om
   simp(disch:=omega)only[go_sem,a2,d1];exact⟨aA rfl,by rw[gN,aX λj hj=>by rw[aV hj]],nN,Fa⟩
  have d1:=bV a3
  have k8:i<w:=om
  simp(disch:=omega)only[go_sem,a2,d1]
  refine aH (λk' vs hh=> ∃(k:Nat),(∃g:Nat->V,vs= [g 0,.ptr B 0,.ptr (B+1) 0,g 3,Z,g 5,.ptr P 0,g 7,.sl D 0 m (.kn m),vK,g 10,g 11,g 12,g 13,g 14,g 15,g 16,g 17,.sl N 0 w (.kn w),aB i,aB k,g 21,g 22,g 23,g 24,g 25,g 26,g 27,g 28,g 29,g 30,g 31,g 32,g 33])/\k<=w/\hh.get N=some (.cells false (rc w λt=> aB (if t<i then K.idxOf (M.getD t 0) else if t=i then cntB (λu=>bK u i) k else 0:Nat)))/\N<hh.next/\Fx (· =N) h9 hh/\k'=w-k) w
   ⟨0,aA rfl,eY _,by
    rw[gN,aX λj hj=>?_]
    by_cases e:j<i
    ·rw[aV e,aV e]
    ·rw[aZ e,aZ e];split<;>rfl,nN,Fa,rfl⟩ ?_
  clear gN nN Fa ha
  rintro k' Y ha ⟨k,⟨g,rfl⟩,hk,gN,nN,Fa,rfl⟩
  by_cases o0:(k:Int)<(w:Int)
  case neg=>
   have d2:=bM o0;obtain rfl:k=w:=om
   simp(disch:=omega)only[go_sem,a2,d2];rw[dX i];refine⟨k-(i+1),om,i+1,aA rfl,om,?_,nN,Fa,rfl⟩;rw[gN,aX λj hj=>?_]
   by_cases e:j<i
   ·rw[aV e,aV om]
   ·rw[aZ e]
    by_cases e2:j=i
    ·subst e2;rw[aV rfl,aV om,s3 j hj]
    ·rw[aZ e2,aZ om]
  have d2:=bV o0
  have o:k<w:=om
  have a1:=fN ha Fa
  simp(disch:=omega)only[go_sem,a2,d2,i6.ixa,rK k o ha a1,rK i k8 ha a1]
  obtain⟨j2,p8⟩:=o8 k o
  obtain⟨j4,q7⟩:=o8 i k8
  have b1:Fr ha (H.mk ha.tr (ha.next+9)):=(Fr.refl ha).bL om
  have r7:(ks[k]'om).ord<(ks[i]'om).ord∨(ks[k]'om).ord=(ks[i]'om).ord/\((ks[k]'om).size<(ks[i]'om).size∨(ks[k]'om).size=(ks[i]'om).size/\Lt (L.getD (M.getD k 0) []) (L.getD (M.getD i 0) []))↔bK k i=true:=by
   rw[p0,j2.ord,j2.size,j4.ord,j4.size,lt_rank E p8 q7];rfl
  refine (rbefore_ok _ _ n (L.getD (M.getD k 0) []) (L.getD (M.getD i 0) []) _ om (el_isP hG E p8).len (el_isP hG E q7).len (((j2.rep.si.mono b4).mono a1).mono b1) (((j4.rep.si.mono b4).mono a1).mono b1) (bK k i) r7).mono ?_
  rintro _ r ⟨rfl,fb⟩
  have Fb:Fx (· =N) h9 r:=⟨by have:=Fa.next;have:=b1.next;have:=fb.next;omega,λq l A=>by rw[fb.get q (by have:=Fa.next;have:=b1.next;omega),b1.get q (by have:=Fa.next;omega)];exact Fa.get q l A⟩
  have b6:=gN
  rw[←(b1.trans fb).get N nN] at b6
  have o:=(b1.trans fb).next
  have n3:=gO b6 k8
  rw[aZ om,aV rfl] at n3
  have cs:=cntB_succ (λu=>bK u i) k
  have cl:=cntB_le (λu=>bK u i) k
  cases hb1:bK k i with
  |false=>
   simp(disch:=omega)only[go_sem];rw[dX k];have cs:cntB (λu=>bK u i) (k+1)=cntB (λu=>bK u i) k:=by rw[cs,hb1];rfl
   exact⟨w-(k+1),om,k+1,aA rfl,om,by rw[b6,cs],om,Fb,rfl⟩
  |true=>
   rw[hb1,aV rfl] at cs;have pt:=bE (vs:=rc w λt=>aB (if t<i then K.idxOf (M.getD t 0) else if t=i then cntB (λu=>bK u i) k else 0:Nat)) (off:=i) (by rw[cK];omega);simp(disch:=omega)only[go_sem,n3,b6,pt];rw[dX k];refine⟨w-(k+1),om,k+1,aA rfl,om,?_,(show N<r.next by omega),⟨(show h9.next<=r.next from Fb.next),λq l A=>by rw[H.aI _ A];exact Fb.get q l A⟩,rfl⟩;rw[eG];congr 2;refine aX λj hj=>?_
   by_cases e:j=i
   ·subst e
    rw[aV rfl,aZ om,aV rfl,cs];rfl
   ·rw[aZ e,aZ e,aZ e]
 clear n9 g9 o9 f9 e9
 rintro Y ha ⟨⟨g,rfl⟩,gN,nN,Fa⟩
 have a1:=fN ha Fa
 have o:=Fa.next
 have o:P<D:=om
 have o:ha.get P=some (.cells false [aB n,vO,vR,Z,.aD,.aD]):=by
  rw[a1.get P om,F8.get P om (λe=>by have:P=D:=e;omega),o7 P om,f6.get P om];exact g5
 have t6:ha.get (B+1)=some (.cells false [aB 0,.aD,.aD,.aD,.aD,.aD]):=by
  rw[a1.get _ om,b4.get _ om,f3.get _ om];exact g2
 have t3:ha.get D=some (.cells false (rc m λj=> aB (lbC G L m j:Nat))):=by rw[a1.get _ om];exact gD
 obtain⟨J,p⟩:=IP ha.next
 obtain⟨r,eb,nb,gb,ob,fb⟩:=dL p (list3 (List.replicate w zKE))
 obtain⟨hc,ec,nc,a5,oc⟩:=nP r P [aB n,vO,vR,Z,.sl J 0 w (.kn w),.aD]
 have j6:r.get P=some (.cells false [aB n,vO,vR,Z,.aD,.aD]):=by rw[fb.get _ om];exact o
 have o: ∀(hh:H) (y:V),dS (some (.cells false [aB n,vO,vR,Z,.aD,.aD])) hh P 4 [y]=some (hh.set P (some (.cells false [aB n,vO,vR,Z,y,.aD]))):=λhh y=>by simp [dS,putAt]
 simp(disch:=omega)only[go_sem,a2,mks3 ha w om,p,eb,j6,o,ec]
 have s1:M.Nodup:=by rw[←hM];exact repsC_nodup _
 have pK:K.Perm M:=by rw[←hM,←hm];exact ik.perm
 have lK:K.length=w:=by rw[pK.length_eq,hw]
 have U0: ∀q,q<J->q≠P->hc.get q=ha.get q:=λq l A=>by rw[oc q A,ob q om]
 have s2:0<w->D+1<=c2:=λo=>Own.ge ow (n:=w) (by rw[list3_len,b0]) om i6 o
 refine bW (λvs hh=>(∃g:Nat->V,vs= [g 0,.ptr B 0,.ptr (B+1) 0,g 3,Z,g 5,.ptr P 0,g 7,.sl D 0 m (.kn m),vK,g 10,g 11,g 12,g 13,g 14,g 15,g 16,g 17,.sl N 0 w (.kn w),g 19,g 20,g 21,g 22,g 23,g 24,g 25,g 26,g 27,g 28,g 29,g 30,g 31,g 32,g 33])/\hh.get P=some (.cells false [aB n,vO,vR,Z,.sl J 0 w (.kn w),.aD])/\hh.get J=some (.cells false (list3 (kst M K ks w w)))/\J<hh.next/\ ∀q,q<J->q≠P->hh.get q=ha.get q) ?_ ?_
 ·refine aH (λk' vs hh=> ∃(t:Nat),(∃g:Nat->V,vs= [g 0,.ptr B 0,.ptr (B+1) 0,g 3,Z,g 5,.ptr P 0,g 7,.sl D 0 m (.kn m),vK,g 10,g 11,g 12,g 13,g 14,g 15,g 16,g 17,.sl N 0 w (.kn w),g 19,g 20,aB t,g 22,g 23,g 24,g 25,g 26,g 27,g 28,g 29,g 30,g 31,g 32,g 33])/\t<=w/\hh.get P=some (.cells false [aB n,vO,vR,Z,.sl J 0 w (.kn w),.aD])/\hh.get J=some (.cells false (list3 (kst M K ks w t)))/\J<hh.next/\(∀q,q<J->q≠P->hh.get q=ha.get q)/\k'=w-t) w
   ⟨0,aA rfl,eY _,a5,by rw[oc J om,kst_zero];exact gb,om,U0,rfl⟩ ?_
  clear U0 a5 oc nc ec j6 gb ob fb nb eb
  rintro k' Y hd ⟨t,⟨g,rfl⟩,ht,gP,gT,nT,U,rfl⟩
  by_cases a3:(t:Int)<(w:Int)
  case neg=>
   have d1:=bM a3;obtain rfl:t=w:=om
   simp(disch:=omega)only[go_sem,a2,d1];exact⟨aA rfl,gP,gT,nT,U⟩
  have d1:=bV a3
  have i2:t<w:=om
  have o:hd.get N=some (.cells false (rc w λt=> aB (K.idxOf (M.getD t 0):Nat))):=by rw[U N om om];exact gN
  have cN:=gO o i2
  have n6:K.idxOf (M.getD t 0)<w:=by
   have i3:M.getD t 0∈K:=pK.mem_iff.2 (getD_mem om);have:=Ye.2 i3;omega
  have d4:=kst_set (ks:=ks) pK s1 hw i2
  have ek:ks.getD t zKE=ks[t]'om:=by rw[List.getD,eX om];rfl
  rw[ek] at d4
  generalize K.idxOf (M.getD t 0)=q0 at cN n6 d4
  have r0:hd.row c2 (e8+t*3) 3=some [(ks[t]'om).rep,aB ((ks[t]'om).ord:Int),aB ((ks[t]'om).size:Int)]:=by
   have l:=rK t i2 h8 (Fr.refl _);have A:=b3 om;have h3:=s2 om;unfold H.row at l ⊢;rw[U c2 om om,a1.get c2 A];exact l
  have e0:=(ks[t]'(show t<ks.length by omega)).hrep.2.1
  generalize ks[t]'(show t<ks.length by omega)=a at d4 r0 e0
  have pt:=λhh=>putO_at3 (ks:=kst M K ks w t) (i:=q0) (by rw[kst_len];exact n6) hh J a
  simp only[Nat.zero_add] at pt
  simp(disch:=omega)only[go_sem,a2,d1,H.aG gP,cN,i6.ixa,r0,dO _ J _ (v:=a.rep) (u:= aB (a.ord:Int)) (w:= aB (a.size:Int)) e0 rfl rfl,gT,pt]
  rw[dX t]
  refine⟨w-(t+1),om,t+1,aA rfl,om,?_,by rw[d4],(show J<hd.next+12 by omega),λq l A=>?_,rfl⟩
  ·exact gP
  ·rw[H.aI _ om];exact U q l A
 clear U0 a5 oc nc ec j6 gb ob fb nb eb hc r
 rintro Y r ⟨⟨g,rfl⟩,gP,gT,nT,U⟩
 simp(disch:=omega)only[go_sem]
 refine bW (λvs hh=> ∃(vM:V),(∃g:Nat->V,vs= [g 0,.ptr B 0,.ptr (B+1) 0,g 3,Z,g 5,.ptr P 0,g 7,.sl D 0 m (.kn m),vK,g 10,g 11,g 12,g 13,g 14,g 15,g 16,g 17,.sl N 0 w (.kn w),g 19,g 20,g 21,g 22,g 23,g 24,g 25,g 26,g 27,g 28,g 29,g 30,g 31,g 32,g 33])/\hh.get P=some (.cells false [aB n,vO,vR,Z,.sl J 0 w (.kn w),vM])/\Own hh vM 1 (ints (zi (numsL G L K))) (J+1)/\hh.get J=some (.cells false (list3 (kst M K ks w w)))/\J<hh.next/\ ∀q,q<J->q≠P->hh.get q=ha.get q) ?_ ?_
 ·refine aH (λk' vs hh=> ∃(j:Nat) (vM:V),(∃g:Nat->V,vs= [g 0,.ptr B 0,.ptr (B+1) 0,g 3,Z,g 5,.ptr P 0,g 7,.sl D 0 m (.kn m),vK,g 10,g 11,g 12,g 13,g 14,g 15,g 16,g 17,.sl N 0 w (.kn w),g 19,g 20,g 21,aB j,g 23,g 24,g 25,g 26,g 27,g 28,g 29,g 30,g 31,g 32,g 33])/\j<=m/\hh.get P=some (.cells false [aB n,vO,vR,Z,.sl J 0 w (.kn w),vM])/\Own hh vM 1 (ints (zi ((numsL G L K).take j))) (J+1)/\hh.get J=some (.cells false (list3 (kst M K ks w w)))/\J<hh.next/\(∀q,q<J->q≠P->hh.get q=ha.get q)/\k'=m-j) m
   ⟨0,.aD,aA rfl,eY _,gP,Own.aD _ _ _,gT,nT,U,rfl⟩ ?_
  clear gP gT nT U r
  rintro k' Y r ⟨j,vM,⟨g,rfl⟩,hj,gP,oM,gT,nT,U,rfl⟩
  have i:(numsL G L K).length=m:=by simp [numsL,hm]
  by_cases a3:(j:Int)<(m:Int)
  case neg=>
   have d1:=bM a3;obtain rfl:j=m:=om
   simp(disch:=omega)only[go_sem,a8,d1];rw[yR om] at oM;exact⟨vM,aA rfl,gP,oM,gT,nT,U⟩
  have d1:=bV a3
  have l6:j<m:=om
  have d3:r.get D=some (.cells false (rc m λj=> aB (lbC G L m j:Nat))):=by rw[U D om om];exact t3
  have b6:r.get N=some (.cells false (rc w λt=> aB (K.idxOf (M.getD t 0):Nat))):=by rw[U N om om];exact gN
  have cD:=gO d3 l6
  have i:=lbC_done hG E (j:=j) om
  obtain⟨q1,q2⟩:=numC_ord hG E ik (j:=j) om
  rw[hm,hM] at i q1 q2
  rw[i] at cD
  rw[hw] at q1
  generalize numC G L M j=u at cD q1 q2
  have cN:=gO b6 q1
  rw[←q2] at cN
  have eN:(numsL G L K).take (j+1)=(numsL G L K).take j++ [numC G L K j]:=by
   rw[take_getD 0 om];have:(numsL G L K).getD j 0=numC G L K j:=by simp [numsL,hm,l6]
   rw[this]
  have b7:numC G L K j<=K.length:=by unfold numC;exact List.findIdx_le_length
  generalize numC G L K j=c at cN eN b7
  obtain⟨hc,d9⟩: ∃hc:H,hc=H.mk ((H.mk r.tr (r.next+10)).new (.cells false [aB c])).tr (r.next+14):=⟨_,rfl⟩
  have nc:hc.next=r.next+14:=by rw[d9]
  have a5:hc.get (r.next+10)=some (.cells false [aB c]):=by rw[d9];exact H.aN (H.mk r.tr (r.next+10)) _
  have oc: ∀q,q≠r.next+10->hc.get q=r.get q:=λq hq=>by rw[d9];exact H.bJ (H.mk r.tr (r.next+10)) hq _
  have fc:Fr r hc:=⟨om,λq hq=>oc q om⟩
  obtain⟨hd,ad,pd⟩:=(oM.fr fc).push (bytes:=8) (SV.one (v:= aB c) (id:=r.next+10) om a5 (.kn 1)) (n:=j) (m:=1) (by rw[aL,aQ,xV];omega) rfl om om om
  have nd:=pd.next
  have i: ∀q,q<=J->dF vM q:=λq hq id off n' cp e e2=>by have:=(oM.in _ _ _ _ e).2.1;omega
  have od: ∀q,q<=J->hd.get q=r.get q:=λq hq=>by
   rw[pd.old q om (i q hq),oc q om]
  have s9:hd.get P=some (.cells false [aB n,vO,vR,Z,.sl J 0 w (.kn w),vM]):=by rw[od P om];exact gP
  have p5: ∀(hh:H) (y:V),dS (some (.cells false [aB n,vO,vR,Z,.sl J 0 w (.kn w),vM])) hh P 5 [y]=some (hh.set P (some (.cells false [aB n,vO,vR,Z,.sl J 0 w (.kn w),y]))):=λhh y=>by simp [dS,putAt]
  simp(disch:=omega)only[go_sem,a8,d1,H.aG gP,cD,show ((u+1:Nat):Int)- 1=(u:Int) from om,cN,cJ _ (z:= aB 0) (v:= aB c) rfl rfl,←d9,ad,s9,p5]
  rw[dX j]
  have t:=pd.own (b:=J+1) (by rw[aL,aQ,xV];omega) rfl om
  have el:ints (zi ((numsL G L K).take (j+1)))=ints (zi ((numsL G L K).take j))++ [aB c]:=by rw[eN];simp [zi,ints]
  rw[←el] at t
  refine⟨m-(j+1),om,j+1,_,aA rfl,om,rfl,?_,?_,(show J<hd.next by omega),λq l A=>?_,rfl⟩
  ·exact t.mono (fH _) λid off n' cp e l A=>H.aI _ om _
  ·rw[od J (fH _)];exact gT
  ·rw[H.aI _ A,od q om];exact U q l A
 clear gP gT nT U r
 rintro Y r ⟨vM,⟨g,rfl⟩,gP,oM,gT,nT,U⟩
 have gA:r.get (B+1)=some (.cells false [aB 0,.aD,.aD,.aD,.aD,.aD]):=by rw[U _ om om];exact t6
 have o3:=(SV.dC oM.sv).2.1
 simp(disch:=omega)only[go_sem,row_six gP,stV_six _ (B+1) (a:= aB n) (b:=vO) (c:=vR) (d:=Z) (e:= .sl J 0 w (.kn w)) (f:=vM) rfl a0.1 a0.2 wL.2.1 rfl o3,gA,putO_six,row_six (H.aT ..)]
 obtain⟨hz,ez⟩:=IP (r.set (B+1) (some (.cells false [aB n,vO,vR,Z,.sl J 0 w (.kn w),vM])))
 rw[ez]
 have g:hz.next=r.next:=by rw[←ez];rfl
 have oz: ∀q,q≠B+1->hz.get q=r.get q:=λq hq=>by rw[←ez];exact H.aI _ hq _
 have x3:Fx (λq=>q<A.next) h3 hz:=⟨om,λq l A=>by rw[oz q om,U q om om,a1.get q om,b4.get q l]⟩
 have g:=b4.next
 refine⟨vO,vR,K,_,rfl,rfl,ik,⟨Z,J,kst M K ks w w,vM,by rw[lK],om,om,by rw[oz J om];exact gT,?_,?_,?_⟩,?_⟩
 ·exact (kst_done pK hw al).mono λa r k=>⟨k.ord,k.size,PV.go k.rep x3 λq g g=>(show q<A.next from om)⟩
 ·exact PVs.sp' (c8.keep x3.next λid off n' cp e l=>x3.get id l (by have:=(c8.in _ _ _ _ e).2.1;omega)).sv (g6.fx x3)
 ·exact (oM.keep om λid off n' cp e l=>oz id (by have:=(oM.in _ _ _ _ e).2.1;omega)).sv
 ·refine⟨om,λq hq=>?_⟩
  rw[oz q om,U q om om,a1.get q om,b4.get q om]
  exact (F2.trans f3).get q om
end
section
variable {n:Nat} {G:List Nat->Prop} {L:LN} {W:Nat->Prop} {a:Cls.KE}
theorem KFd.go {b:Nat->Prop}{h h':H}{r:Nat}(k:KFd n G L W h a r)(f:Fx W h h')(c: ∀id,id<h.next->b id->W id):KFd n G L b h' a r:=⟨k.ord,k.size,PV.go k.rep f c⟩
theorem KFd.fr {h h':H}{r:Nat}(k:KFd n G L W h a r)(f:Fr h h'):KFd n G L W h' a r:=⟨k.ord,k.size,k.rep.si.mono f,k.rep.off⟩
theorem RdO.open {K:List Nat}{b:Nat}{h g:V}{hh:H}{v:V}(r:RdO n G L K b h g hh v):
  ∃vL S ks vM,v= .agg [aB n,h,g,vL,.sl S 0 K.length (.kn K.length),vM]/\vL.one=true/\vM.one=true/\b<=S/\S<hh.next/\hh.get S=bX (list3 ks)/\ks.length=K.length/\All2 (KFd n G L (λq=>q<b∨S<=q) hh) ks K/\SP hh vL L/\SI hh vM (zi (numsL G L K)):=by
 obtain⟨vL,S,ks,vM,e,i,j,k,c,f,d⟩:=r.ex
 exact⟨vL,S,ks,vM,e,(SV.dC (show SV hh vL 1 _ from f.choose_spec.1)).2.1,(SV.dC d).2.1,i,j,k,All2.length c,c,f,d⟩
theorem list3_rep {ks:List Cls.KE}{i:Nat}(hi:i<ks.length)(b:a.ord=ks[i].ord)(h2:a.size=ks[i].size):(list3 ks).set (i*3) a.rep=list3 (ks.set i a):=by
 induction ks generalizing i with
 |nil=>simp at hi
 |cons c r ih=>
  cases i with
  |zero=>
   have b:a.ord=c.ord:=b;have h2:a.size=c.size:=h2;rw[List.set_cons_zero,list3_cons,list3_cons];unfold enc3;rw[b,h2];rfl
  |succ i=>
   have:=ih (i:=i) (by simpa using hi) (by simpa using b) (by simpa using h2);rw[List.set_cons_succ,list3_cons,list3_cons,←this,show (i+1)*3=(enc3 c).length+i*3 from by show (i+1)*3=3+i*3;omega,List.set_append_right _ _ om,Nat.add_sub_cancel_left]
theorem rclist_bad (t:V)(d:Int)(O:List (List Int))(R:List (List (List Int)))(h:H)(y:ChI h t d O R)(N:d<=7∨64<d)(Q:SmallO O)(sr:SmallR R)(A:chkE d O R≠0):
  Ev T 73 [t] h (λv h'=>v= .tup [.aD,aB (chkE d O R)]/\Fr h h'):=by
 have o:=y
 obtain⟨m,l,rfl,sO,B⟩:=y
 refine bH c_ref15_List rfl rfl ?_
 have k:m.one=true:=tH sO
 have j:l.one=true:=sT B
 obtain⟨B,p⟩:=IP h.next
 obtain⟨Z,Y,B,J,B,q⟩:=dL p [aB d,m,l]
 have bx:=bF h (v:= aB d) (u:=m) (w:=l) rfl k j
 simp(disch:=omega)only[go_sem,c_ref15_List,aF,bx,p,Y,aS J]
 refine (rread_bad _ d O R Z (o.mono q) N Q sr A).mono ?_
 rintro _ K ⟨rfl,m⟩
 obtain⟨P,j⟩:=IP K.next
 obtain⟨k,l,o,g3,p,o⟩:=dL j [aB 0,.aD,.aD,.aD,.aD,.aD]
 obtain⟨r,U,o,z,o⟩:=nP k P [aB 0,.aD,.aD,.aD,.aD,.aD]
 have F:Fr h r:=(q.trans m).trans ⟨om,λq m=>by rw[o q om,p q om]⟩
 simp(disch:=omega)only[go_sem,j,l,stV_six k P (a:= aB 0) (b:= .aD) (c:= .aD) (d:= .aD) (e:= .aD) (f:= .aD) rfl rfl rfl rfl rfl rfl,g3,putO_six,U]
 refine aH (λs i x=>(∃g:Nat->V,i= [g 0,g 1,g 2,g 3,.ptr P 0,aB (chkE d O R),aB 0,g 7])/\x=r/\s=0) 0 ⟨aA rfl,rfl,rfl⟩ ?_
 rintro s i x ⟨⟨g,rfl⟩,rfl,rfl⟩
 simp(disch:=omega)only[go_sem,H.aG z,show decide ((0:Int)<0)=false from rfl]
 exact F
theorem rclist_ok (vc:V)(n:Nat)(O:LN)(R:jL)(G:List Nat->Prop)(h:H)(Q:GC W h vc n O R G)(L:LN)(hL:cI O R n 0 (cG n)=L):
  Ev T 73 [vc] h (λv h'=> ∃vl K ks,v= .tup [vl,aB 0]/\IsK n G L K/\SV h' vl 3 (list3 ks)/\All2 (KFd n G L (λ_=>False) h') ks K/\Fr h h'):=by
 have a6:=Q
 obtain⟨N,U,rfl,sO,B⟩:=Q.ch
 refine bH c_ref15_List rfl rfl ?_
 have z:N.one=true:=tH sO
 have r:U.one=true:=sT B
 have B:=Q.n7
 have hG:=Q.grp
 obtain⟨E,B⟩:=eJ Q.grp Q.isc
 have b3:=szF_fact Q
 rw[hL] at E B
 obtain⟨B,hB⟩:=IP h.next
 obtain⟨Y,e1,B,g1,B,f1⟩:=dL hB [aB n,N,U]
 have bx:=bF h (v:= aB n) (u:=N) (w:=U) rfl z r
 simp(disch:=omega)only[go_sem,c_ref15_List,aF,bx,hB,e1,aS g1]
 refine (rread_ok _ n O R G Y (a6.mono f1) L hL).mono ?_
 rintro _ p ⟨B,B,K,B,ee,rfl,ik,rd,f2⟩
 cases ee
 obtain⟨vL,S,ks,vM,rfl,a3,a0,B,nS,Z,l,J,B,B⟩:=rd.open
 obtain⟨P,B⟩:=IP p.next
 obtain⟨h3,e3,n3,g3,o3,f3⟩:=dL B [aB 0,.aD,.aD,.aD,.aD,.aD]
 obtain⟨h4,e4,n4,g4,o4⟩:=nP h3 P [aB n,N,U,vL,.sl S 0 K.length (.kn K.length),vM]
 have o:Fr p h4:=⟨om,λq hq=>by rw[o4 q om,o3 q om]⟩
 simp(disch:=omega)only[go_sem,B,e3,stV_six h3 P (a:= aB n) (b:=N) (c:=U) (d:=vL) (e:= .sl S 0 K.length (.kn K.length)) (f:=vM) rfl z r a3 rfl a0,g3,putO_six,e4]
 have z:K.length<=5040:=by
  rw[ik.perm.length_eq];unfold repsC;exact jC (List.length_filter_le _ _) (by rw[zE];omega)
 have b1: ∀r∈K,r<L.length:=λr r=>(repsC_mem.1 (ik.perm.mem_iff.1 r)).1
 obtain⟨w,hw⟩:=IP K.length
 rw[hw] at l z
 refine aH (λk' x m=> ∃(i:Nat) (ks:List Cls.KE),(∃g:Nat->V,x= [g 0,g 1,g 2,g 3,.ptr P 0,aB 0,aB i,g 7])/\i<=w/\ks.length=w/\m.get S=bX (list3 ks)/\All2 (KFd n G L (· =S) m) ks K/\Fx (· =S) h4 m/\k'=w-i) w
  ⟨0,ks,aA rfl,eY _,l,by rw[o.get _ nS];exact Z,J.mono λ_ _ k=>KFd.fr (KFd.go k (Fx.refl _ _) (λq _ e=> .inr (by have:q=S:=e;omega))) o,Fx.refl _ _,rfl⟩ ?_
 clear l J Z
 rintro k' x m ⟨i,ks,⟨g,rfl⟩,hi,l,Z,J,F,rfl⟩
 have g:=F.next
 have gP:m.get P=bX [aB n,N,U,vL,.sl S 0 K.length (.kn K.length),vM]:=by rw[F.get P om (λe=>by have:P=S:=e;omega)];exact g4
 rw[hw] at gP
 by_cases a1:(i:Int)<(w:Int)
 case neg=>
  have d1:=bM a1;simp(disch:=omega)only[go_sem,H.aG gP,d1]
  refine⟨_,K,ks,rfl,ik,SV.all (by rw[list3_len,l]) om Z _,J.mono λ_ _ k=>KFd.go k (Fx.refl _ _) (λq _ e=>e.elim),⟨by have:=o.next;have:=f2.next;omega,λq hq=>by
   have g:=f2.next;have g:=o.next
   rw[F.get q om (λe=>by have:q=S:=e;omega),o.get q om,f2.get q om];exact f1.get q om⟩⟩
 have d1:=bV a1
 have g:i<w:=om
 have k1:=All2.get J i om om
 obtain⟨g,_,_⟩:=list3_at (ks:=ks) (i:=i) om
 have r:m.cell S (i*3)=some (ks[i]'om).rep:=by rw[H.aG Z];exact g
 obtain⟨a,ha⟩:=IP (ks[i]'(show i<ks.length by omega))
 rw[ha] at k1 r
 have o:K[i]'om<L.length:=b1 _ (wT _)
 have g:Fr m (H.mk m.tr (m.next+13)):=(Fr.refl m).bL om
 have x:P≠S:=om
 simp(disch:=omega)only[go_sem,H.aG gP,d1,r]
 refine (own_ok a.rep (zi (L.getD (K[i]'om) [])) _ (k1.rep.si.mono g) (by rw[aQ,(el_isP hG E o).len];omega)).mono ?_
 rintro v1 A ⟨s,o,_⟩
 have k5:=g.trans o
 have g:=k5.next
 have b0:A.get S=bX (list3 ks):=by rw[k5.get S om];exact Z
 have a9:A.get P=bX [aB n,N,U,vL,.sl S 0 w (.kn w),vM]:=by rw[k5.get P om];exact gP
 have t:=SV.dC s.sv
 obtain⟨y,a2,a4,a5⟩: ∃y:Cls.KE,y.rep=v1/\y.ord=a.ord/\y.size=a.size:=⟨⟨v1,a.ord,a.size,.aD,0,⟨t.1,t.2.1,SV.dJ s.sv⟩,⟨rfl,rfl,rfl⟩⟩,rfl,rfl,rfl⟩
 have o:=bE (vs:=list3 ks) (off:=i*3) (by rw[list3_len];omega)
 have g:=list3_rep (ks:=ks) (i:=i) om (a:=y) (by rw[a4,ha]) (by rw[a5,ha])
 rw[a2] at g
 simp(disch:=omega)only[go_sem,H.aG a9,fZ t.1 t.2.1,b0,o,g]
 rw[dX i]
 refine⟨by simp [dJ],w-(i+1),om,i+1,ks.set i y,aA rfl,om,by rw[List.length_set];exact l,rfl,?_,⟨(show h4.next<=A.next by omega),λq Y p=>by rw[H.aI _ p,k5.get q om];exact F.get q Y p⟩,rfl⟩
 have g:Fx (· =S) m (A.set S (bX (list3 (ks.set i y)))):=⟨(show m.next<=A.next by omega),λq Y p=>by rw[H.aI _ p];exact k5.get q Y⟩
 have a7:All2 (KFd n G L (· =S) (A.set S (bX (list3 (ks.set i y))))) ks K:=J.mono λ_ _ k=>KFd.go k g λ_ _ e=>e
 have g:=All2.length J
 refine All2.iC (by rw[List.length_set];exact g) λj hj a8=>?_
 rw[List.getElem_set]
 by_cases e:i=j
 ·rw[aV e]
  subst e
  refine⟨by rw[a4,k1.ord],by rw[a5,k1.size],?_⟩
  rw[a2]
  have p5:PV (· =S) A v1 (L.getD (K[i]'om) []):=⟨s.sv,by
   have b2:=s.in
   cases v1 with
   |sl id off len cap=>exact λe=>by have:=(b2 _ _ _ _ rfl).2.1;have:m.next+13<=id:=this;have e:id=S:=e;omega
   |_=>trivial⟩
  exact p5.fx ⟨fH _,λq Y p=>H.aI _ p _⟩
 ·rw[aZ e]
  exact All2.get a7 j (by rw[List.length_set] at hj;exact hj) a8
end
set_option maxHeartbeats 8000000
theorem rmap_ok {W:Nat->Prop}(J:V)(n:Nat)(O:LN)(R:jL)(G:List Nat->Prop)(h:H)(i:GC W h J n O R G)(L:LN)(F:cI O R n 0 (cG n)=L):
  Ev T 75 [J] h (λv h'=> ∃vl K,v= .tup [vl,aB 0]/\IsK n G L K/\SI h' vl (zi (numsL G L K))/\Fr h h'):=by
 have q:=i
 obtain⟨l,m,rfl,Q,A⟩:=i.ch
 refine bH c_ref15_Map rfl rfl ?_
 have j:l.one=true:=tH Q
 have g:m.one=true:=sT A
 have A:=i.n7
 have A:=i.n0
 have A:=i.grp
 obtain⟨E,A⟩:=eJ i.grp i.isc
 have Q:=szF_fact i
 rw[F] at E A
 obtain⟨B,y⟩:=IP h.next
 obtain⟨h1,Z,A,z,A,N⟩:=dL y [aB n,l,m]
 have P:=bF h (v:= aB n) (u:=l) (w:=m) rfl j g
 simp(disch:=omega)only[go_sem,c_ref15_Map,aF,P,y,Z,aS z]
 refine (rread_ok _ n O R G h1 (q.mono N) L F).mono ?_
 rintro _ t ⟨q,q,K,q,ee,rfl,U,rd,r⟩
 cases ee
 obtain⟨x,S,q,s,rfl,p,o,q,q,q,q,q,q,sM⟩:=rd.open
 obtain⟨P,y⟩:=IP t.next
 obtain⟨Q,Z,q,Y,o3,q⟩:=dL y [aB 0,.aD,.aD,.aD,.aD,.aD]
 obtain⟨A,e4,q,g4,o4⟩:=nP Q P [aB n,l,m,x,.sl S 0 K.length (.kn K.length),s]
 have k:Fr t A:=⟨om,λq t=>by rw[o4 q om,o3 q om]⟩
 have F4:=(N.trans r).trans k
 have q:A.get B=bX [aB n,l,m]:=by rw[k.get _ (by have:=r.next;omega),r.get _ om];exact z
 simp(disch:=omega)only[go_sem,y,Z,stV_six Q P (a:= aB n) (b:=l) (c:=m) (d:=x) (e:= .sl S 0 K.length (.kn K.length)) (f:=s) rfl j g p rfl o,Y,putO_six,e4]
 simp(disch:=omega)only[go_sem,H.aG g4]
 exact⟨s,K,rfl,U,sM.mono k,F4⟩
section
variable {n q:Nat} {G:List Nat->Prop} {L:LN} {K:List Nat} {h h':H} {vL vC vM v:V} {us:List V}
set_option maxHeartbeats 16000000
structure RgO (n:Nat)(G:List Nat->Prop)(L:LN)(K:List Nat)(hh:H)(vL vC vM:V):Prop where
 sL:SP hh vL L
 sM:SI hh vM (zi (numsL G L K))
 ex: ∃ks,SV hh vC 3 (list3 ks)/\All2 (KS n G L hh) ks K
theorem RgO.fr (r:RgO n G L K h vL vC vM)(f:Fr h h'):RgO n G L K h' vL vC vM:=by
 obtain⟨b,s,a⟩:=r.ex;exact⟨r.sL.mono f,r.sM.mono f,b,s.mono f,a.mono λ_ _ k=>⟨k.ord,k.size,k.rep.mono f⟩⟩
theorem RgO.one (r:RgO n G L K h vL vC vM):vL.one=true/\vC.one=true/\vM.one=true:=by
 obtain⟨a,s,a⟩:=r.ex;exact⟨(SV.dC (show SV h vL 1 _ from r.sL.choose_spec.1)).2.1,(SV.dC s).2.1,(SV.dC r.sM).2.1⟩
theorem RgO.cls (r:RgO n G L K h vL vC vM)(b:K.length<1000000):
  cV vC=some (aB (K.length:Int))/\dJ vC vC=true/\ ∃id off,Sl vC 3 K.length id off/\ ∀k,k<K.length->id<h.next/\ ∃rep,h.cell id (off+k*3)=some rep/\h.cell id (off+k*3+2)=some (aB ((orbC G L (K.getD k 0)).length:Int))/\h.row id (off+k*3) 3=some [rep,aB (dW (L.getD (K.getD k 0) []) n:Int),aB ((orbC G L (K.getD k 0)).length:Int)]/\SI h rep (zi (L.getD (K.getD k 0) [])):=by
 obtain⟨a,s,a⟩:=r.ex
 exact cls_openS b s a
theorem SV.keep {sz:Nat}{ws:List V}(s:SV h v sz ws)(g:h.get q=bX us)(a: ∃w∈ws,w∉us)(f:Fx (· =q) h h'):SV h' v sz ws:=by
 rcases s with s|⟨id,d,len,b,r,m,k,l,j,c,o,i⟩
 ·exact .inl s
 ·by_cases e:id=q
  ·subst e
   rw[g] at c;cases c;obtain⟨w,a,p⟩:=a;rw[←i] at a;exact absurd (List.mem_of_mem_drop (List.mem_of_mem_take a)) p
  ·exact .inr ⟨id,d,len,b,r,m,k,l,iO j f.next,by rw[f.get id j e];exact c,o,i⟩
theorem SI.keep {l:List Int}(s:SI h v l)(b:l≠ [])(g:h.get q=bX us)(c: ∀z,aB z∉us)(f:Fx (· =q) h h'):SI h' v l:=by
 refine SV.keep s g ?_ f
 cases l with
 |nil=>exact absurd rfl b
 |cons a r=>exact⟨aB a,by simp [ints],c a⟩
theorem zi_ne {x:List Nat}(X:bT n x)(a:1<=n):zi x≠ []:=λe=>by
 have:=congrArg List.length e;rw[aQ,X.len] at this;simp at this;omega
theorem RgO.keep (w:mD n G)(E:eQ G L)(p:IsK n G L K)(t:1<=n)(r:RgO n G L K h vL vC vM)(g:h.get q=bX us)(o: ∀z,aB z∉us)(x: ∀id off m c,V.sl id off m c∉us)(f:Fx (· =q) h h'):RgO n G L K h' vL vC vM:=by
 have K0:=(K_first w E p).1;have l:0<L.length:=by have:=p.lt (getD_mem (d:=0) K0);omega
 have ne: ∀i,i<L.length->zi (L.getD i [])≠ []:=λi hi=>zi_ne (el_isP w E hi) t
 refine⟨?_,SI.keep r.sM (by intro e;have:=congrArg List.length e;rw[aQ] at this;simp [numsL] at this;rw[this] at l;exact absurd l (by decide)) g o f,?_⟩
 ·obtain⟨l,sv,j⟩:=r.sL
  have k:=All2.length j;rw[iK] at k
  have ge: ∀i (hi:i<l.length) (b:i<(L.map zi).length),(L.map zi)[i]≠ []:=λi hi b=>by
   rw[List.getElem_map];have:=ne i om;rwa [Cs,eX (show i<L.length by omega)] at this
  refine⟨l,SV.keep (show SV h vL 1 l from sv) g ⟨l[0]'om,wT _,?_⟩ f,All2.iC (All2.length j) λi hi b=>SI.keep (All2.get j i hi b) (ge i hi b) g o f⟩;have l:=All2.get j 0 om (by rw[iK];omega);have t:=ge 0 om (by rw[iK];omega);rcases l with ⟨_,e⟩|⟨id,off,len,l,l,l,e,_⟩
  ·exact absurd (by simpa [ints] using e) t
  ·rw[e];exact x _ _ _ _
 ·obtain⟨u,s,j⟩:=r.ex
  have k:=All2.length j;refine⟨u,SV.keep s g ?_ f,All2.iC k λi hi b=>?_⟩
  ·cases u with
   |nil=>simp at k;omega
   |cons a r=>exact⟨aB a.ord,by simp [list3_cons,enc3],o _⟩
  ·have k:=All2.get j i hi b
   have e:K[i]=K.getD i 0:=(Pm.bP b).symm;exact⟨k.ord,k.size,SI.keep k.rep (by rw[e];exact ne _ (p.lt (getD_mem b))) g o f⟩
theorem bld_rg (b:v.cells= [v])(a:v.one=true):kU [.aD,.aD,.aD] [(1,1,v)]=some (.agg [.aD,v,.aD]):=by
 simp [kU,gG,putAt,b,a]
theorem put3 {a b c:V}(hh:H)(id i:Nat)(y:V)(hi:i<3):dS (bX [a,b,c]) hh id i [y]=some (hh.set id (bX ([a,b,c].set i y))):=bE hi hh id y
theorem rof27_bad (o:V)(d:Int)(O:List (List Int))(R:List (List (List Int)))(h:H)(r:ChI h o d O R)(y:d<=7∨64<d)(A:SmallO O)(sr:SmallR R)(j:chkE d O R≠0):
  Ev T 43 [o] h (λv h'=>v= .tup [.agg [.aD,.aD,.aD],aB (chkE d O R)]/\Fr h h'):=by
 have f:=r
 obtain⟨e,c,rfl,sO,x⟩:=r
 refine bH c_ref27_Of rfl rfl ?_
 have b:e.one=true:=tH sO
 have a:c.one=true:=sT x
 obtain⟨B,l⟩:=IP h.next
 obtain⟨x,J,m,t,W,N⟩:=dL l [aB d,e,c]
 obtain⟨k,Q,x,z,p,U⟩:=dL m [.aD,.aD,.aD]
 have Z:=bF h (v:= aB d) (u:=e) (w:=c) rfl b a
 have a:k.get B=bX [aB d,e,c]:=by rw[p B om];exact t
 simp(disch:=omega)only[go_sem,c_ref27_Of,aF,Z,l,J,m,Q,aS a]
 refine (rclist_bad _ d O R k (f.mono (N.trans U)) y A sr j).mono ?_
 rintro _ i ⟨rfl,g⟩
 have a:=bV j
 have P:i.get (B+1)=bX [.aD,.aD,.aD]:=by rw[g.get _ om];exact z
 obtain⟨b,F,b,s,Y⟩:=nP i (B+1) [.aD,.aD,.aD]
 have b:=g.next
 simp(disch:=omega)only[go_sem,a,zN,dO i (B+1) 0 (v:= .aD) (u:= .aD) (w:= .aD) rfl rfl rfl,P,dD,F,aS s]
 exact⟨om,λq a=>by rw[Y q om,g.get q om,p q om,W q om]⟩
theorem rof27_ok {W0:Nat->Prop}(vc:V)(n:Nat)(O:LN)(R:jL)(G:List Nat->Prop)(h:H)(gc:GC W0 h vc n O R G)(L:LN)(hL:cI O R n 0 (cG n)=L):
  Ev T 43 [vc] h (λv h'=> ∃K,IsK n G L K/\Fr h h'/\(64<K.length/\v= .tup [.agg [.aD,.aD,.aD],aB 5]∨K.length<=64/\ ∃vL vC vM,v= .tup [.agg [vL,vC,vM],aB 0]/\RgO n G L K h' vL vC vM)):=by
 have a:=gc
 obtain⟨t,x,rfl,sO,sR⟩:=gc.ch
 refine bH c_ref27_Of rfl rfl ?_
 have a1:t.one=true:=tH sO
 have U:x.one=true:=sT sR
 obtain⟨B,hB⟩:=IP h.next
 obtain⟨h1,e1,n1,g1,o1,f1⟩:=dL hB [aB n,t,x]
 obtain⟨r,e2,n2,g2,o2,f2⟩:=dL n1 [.aD,.aD,.aD]
 have bx:=bF h (v:= aB n) (u:=t) (w:=x) rfl a1 U
 have o:r.get B=bX [aB n,t,x]:=by rw[o2 B om];exact g1
 have F2:=f1.trans f2
 simp(disch:=omega)only[go_sem,c_ref27_Of,aF,bx,hB,e1,n1,e2,aS o]
 refine (rclist_ok _ n O R G r (a.mono F2) L hL).mono ?_
 rintro _ j ⟨vC,K,ks,rfl,l,sC,U,A⟩
 have a1:=A.next
 have g3:j.get (B+1)=bX [.aD,.aD,.aD]:=by rw[A.get _ om];exact g2
 have Y:All2 (KS n G L j) ks K:=U.mono λ_ _ k=>⟨k.ord,k.size,k.rep.si⟩
 have hG:=a.grp
 obtain⟨E,U⟩:=eJ a.grp a.isc
 have a1:=szF_fact a
 rw[hL] at E U
 have U:K.length<=5040:=by
  rw[l.perm.length_eq];unfold repsC;exact jC (List.length_filter_le _ _) (by rw[zE];omega)
 have lC:=(cls_openS om sC Y).1
 by_cases hk:(64:Int)<(K.length:Int)
 ·have d1:=bV hk
  obtain⟨h4,e4,n4,g4,o4⟩:=nP j (B+1) [.aD,.aD,.aD]
  simp(disch:=omega)only[go_sem,show decide ((0:Int)≠0)=false from rfl,lC,d1,zN,dO j (B+1) 0 (v:= .aD) (u:= .aD) (w:= .aD) rfl rfl rfl,g3,dD,e4,aS g4]
  exact⟨K,l,⟨om,λq b=>by rw[o4 q om,A.get q om,o2 q om,o1 q om]⟩,.inl ⟨om,trivial⟩⟩
 have d1:=bM hk
 have wC:=SV.dC sC
 obtain⟨P,hP⟩:=IP j.next
 obtain⟨h4,e4,n4,g4,o4,U⟩:=dL hP [.aD,.aD,.aD]
 obtain⟨N,e5,U,g5,U⟩:=nP h4 P [.aD,vC,.aD]
 have J:Fr j N:=⟨om,λq b=>by rw[U q om,o4 q om]⟩
 have F5:Fr r N:=A.trans J
 have a3:N.get B=bX [aB n,t,x]:=by rw[F5.get _ om];exact o
 simp(disch:=omega)only[go_sem,show decide ((0:Int)≠0)=false from rfl,lC,d1,hP,e4,bld_rg wC.1 wC.2.1,dO h4 P 0 (v:= .aD) (u:=vC) (w:= .aD) rfl wC.2.1 rfl,g4,dD,e5,aS a3]
 refine (rlist_ok _ n O R G N (a.mono (F2.trans F5)) L hL).mono ?_
 rintro _ F ⟨vL,U,rfl,i,pv,f6⟩
 have U:=f6.next
 have sL:SP F vL L:=PVs.sp' i.sv pv
 have wL:=SV.dC (show SV F vL 1 _ from i.sv)
 have g6:F.get P=bX [.aD,vC,.aD]:=by rw[f6.get _ om];exact g5
 obtain⟨Z,U,n7,g7,o7⟩:=nP F P [vL,vC,.aD]
 have p7:dS (bX [.aD,vC,.aD]) F P 0 [vL]=some Z:=by rw[put3 _ _ _ _ om,←U];rfl
 have f:Fr j Z:=⟨om,λq b=>by rw[o7 q om,f6.get q om];exact J.get q b⟩
 have U:Fr r Z:=A.trans f
 have J:Z.get B=bX [aB n,t,x]:=by rw[U.get _ om];exact o
 simp(disch:=omega)only[go_sem,fZ wL.1 wL.2.1,g6,p7,aS J]
 refine (rmap_ok _ n O R G Z (a.mono (F2.trans U)) L hL).mono ?_
 rintro _ h8 ⟨vM,o,rfl,a4,sM,s⟩
 obtain rfl:=l.uniq a4
 have o:=s.next
 have wM:=SV.dC sM
 have g8:h8.get P=bX [vL,vC,.aD]:=by rw[s.get _ om];exact g7
 obtain⟨g,o,t,g9,y⟩:=nP h8 P [vL,vC,vM]
 have p9:dS (bX [vL,vC,.aD]) h8 P 2 [vM]=some g:=by rw[put3 _ _ _ _ om,←o];rfl
 have a2:g.get (B+1)=bX [.aD,.aD,.aD]:=by rw[y _ om,s.get _ om,f.get _ om];exact g3
 obtain⟨o,t,x,x,p⟩:=nP g (B+1) [vL,vC,vM]
 have J:=aS g9
 simp(disch:=omega)only[go_sem,fZ wM.1 wM.2.1,g8,p9,J,dO g (B+1) 0 (v:=vL) (u:=vC) (w:=vM) wL.2.1 wC.2.1 wM.2.1,a2,dD,t,aS x]
 have t: ∀q,q<P->q≠B+1->o.get q=j.get q:=λq b x=>by rw[p q x,y q om,s.get q om];exact f.get q om
 have x: ∀q,q≠P->q≠B+1->o.get q=h8.get q:=λq h1 r=>by rw[p q r,y q h1]
 refine⟨K,l,⟨om,λq b=>by rw[t q om om,A.get q om,o2 q om,o1 q om]⟩,.inr ⟨om,vL,vC,vM,rfl,?_⟩⟩
 have a0: ∀w∈ [vL,vC,V.aD],∀z,w≠ aB z:=λw Q z e=>by
  subst e;rcases Dk.1 Q with e|Q
  ·rw[←e] at wL;have:=sL.lens;rw[←e] at this;cases this
  rcases Dk.1 Q with e|Q
  ·rw[←e] at lC;cases lC
  ·simp at Q
 have s8:SI g vM (zi (numsL G L K)):=SI.keep sM (by intro e;have:=congrArg List.length e;rw[aQ] at this;have K0:=(K_first hG E l).1;have o:=l.lt (getD_mem (d:=0) K0);simp [numsL] at this;rw[this] at o;exact absurd o (Nat.not_lt_zero _)) g8 (λz W=>a0 _ W z rfl) ⟨om,λq _ b=>y q b⟩
 have l9:SP g vL L:=by
  have fx:Fx (λq=>q<N.next) F g:=⟨om,λq b o=>by rw[y q (by show q≠P;omega),s.get q om,o7 q om]⟩
  refine PVs.sp' (SV.fx i.sv ?_ fx) (pv.mono λ_ _ x=>x.fx fx)
  cases vL with
  |sl id off m c=>exact λe=>by have:=(i.in _ _ _ _ rfl).2.1;omega
  |_=>trivial
 have e:Fr j g:=⟨om,λq b=>by rw[y q om,s.get q om];exact f.get q b⟩
 have f:RgO n G L K g vL vC vM:=⟨l9,s8,ks,sC.mono e,Y.mono λ_ _ k=>⟨k.ord,k.size,k.rep.mono e⟩⟩
 exact f.keep hG E l a.n0 a2 (λz W=>by simp at W) (λ_ _ _ _ W=>by simp at W) ⟨om,λq _ b=>p q b⟩
theorem rclass_ok (vL vC vM u:V)(n:Nat)(G:List Nat->Prop)(L:LN)(K:List Nat)(x:List Nat)(h:H)(A:n<=7)(m:mD n G)(E:eQ G L)(z:L.length<=5040)(e:RgO n G L K h vL vC vM)(X:G x)(y:SI h u (zi x)):
  Ev T 81 [.agg [vL,vC,vM],u] h (λv h'=>v= aB (numC G L K (L.idxOf x):Nat)/\Fr h h'):=by
 refine bH c_ref27_Group_Class rfl rfl ?_
 obtain⟨p,f,g⟩:=e.one
 obtain⟨B,c⟩:=IP h.next
 obtain⟨a,o,t,k,t,d⟩:=dL c [vL,vC,vM]
 have t:=bF h (v:=vL) (u:=vC) (w:=vM) p f g
 obtain⟨f,f,i,r⟩:=zi_cell (hh:=h) (b:=L.length) e.sM (by simp [numsL])
 have s:=SV.dJ (show SV h vM 1 _ from e.sM)
 simp(disch:=omega)only[go_sem,c_ref27_Group_Class,aF,t,c,o,H.aG k]
 have c:Fr a (H.mk a.tr (a.next+9)):=(Fr.refl a).bL om
 refine (index_ok vL u n L x _ om om (λg f=>m.isP ((E.mem g).1 f)) (m.isP X) E.asc ((e.sL.mono d).mono c) ((y.mono d).mono c)).mono ?_
 rintro _ l ⟨f,g⟩
 have F2:=c.trans g
 rcases f with ⟨j,rfl,f,o⟩|⟨c,_⟩
 case inr=>exact absurd ((E.mem _).2 X) c
 have c:l.get B=bX [vL,vC,vM]:=by rw[F2.get B om];exact k
 have cj:=r l (d.trans F2) j f
 have g:L.idxOf x=j:=by
  have a:=idx_el E X;exact nd_inj E.nodup a.1 f (a.2.trans o.symm)
 have a:(numsL G L K).getD j 0=numC G L K j:=by simp [numsL,f]
 rw[a] at cj
 simp(disch:=omega)only[go_sem,H.aG c,i.ixa,cj,s]
 exact⟨by rw[g],d.trans F2⟩
theorem rgpower_ok (vL vC vM:V)(i:Nat)(z:Int)(n:Nat)(G:List Nat->Prop)(L:LN)(K:List Nat)(h:H)(J:1<=n)(N:n<=7)(l:mD n G)(E:eQ G L)(s:IsK n G L K)(t:L.length<=5040)(P:K.length<=64)(k:RgO n G L K h vL vC vM)(hi:i<K.length):
  Ev T 49 [.agg [vL,vC,vM],aB i,aB z] h (λv h'=>v= aB ((numC G L K (L.idxOf (zp n (L.getD (K.getD i 0) []) z)):Nat):Int)/\Fr h h'):=by
 refine bH c_ref27_Group_Power rfl rfl ?_
 obtain⟨e,a,b⟩:=k.one
 obtain⟨B,p⟩:=IP h.next
 obtain⟨r,y,f,m,f,d⟩:=dL p [vL,vC,vM]
 have F:=bF h (v:=vL) (u:=vC) (w:=vM) e a b
 obtain⟨a,a,e,b,f,g⟩:=k.cls om
 obtain⟨A,a,O,_,x,sr⟩:=g i hi
 have g:r.cell e (b+i*3)=some a:=by rw[d.cell A];exact O
 have c:K.getD i 0<L.length:=s.lt (getD_mem hi)
 simp(disch:=omega)only[go_sem,c_ref27_Group_Power,aF,F,p,y,H.aG m,f.ixa,g]
 refine (rpow_ok a z n _ r J om (el_isP l E c) (sr.mono d)).mono ?_
 rintro _ o ⟨w,rfl,⟨e,_⟩,j⟩
 have b:o.get B=bX [vL,vC,vM]:=by rw[j.get B om];exact m
 have a:G (zp n (L.getD (K.getD i 0) []) z):=grp_pw l (el_mem E c) _
 simp(disch:=omega)only[go_sem,aS b]
 refine (rclass_ok vL vC vM w n G L K _ o N l E t ((k.fr d).fr j) a e).mono ?_
 rintro _ a ⟨rfl,a⟩
 simp(disch:=omega)only[go_sem]
 exact (d.trans j).trans a
end
structure CsR (G:List Nat->Prop)(L:LN)(K:List Nat)(i b:Nat)(hh:H)(v:V):Prop where
 ex: ∃ρ:Nat->Nat,SV hh v 1 (rc K.length λj=> .sl (ρ j) 0 K.length (.kn K.length))/\(∀id off m c,v= .sl id off m c->b<=id)/\ ∀j,j<K.length->b<=ρ j/\ρ j<hh.next/\hh.get (ρ j)=some (.cells false (rc K.length λk=> aB (cstK G L K i j k:Nat)))
theorem CsR.sr {G:List Nat->Prop}{L:LN}{K:List Nat}{i b:Nat}{hh:H}{v:V}(c:CsR G L K i b hh v):SR hh v (cstM G L K i):=by
 obtain⟨ρ,s,_,d⟩:=c.ex;refine⟨_,s,All2.iC (by simp [cstM,rc]) λa e f=>?_⟩;have h:a<K.length:=by simpa [rc] using e
 simp only[cstM,rc,List.getElem_map,List.getElem_range];obtain⟨_,g,f⟩:=d a h
 have e:(rc K.length λk=>aB (cstK G L K i a k:Nat))=ints (zi ((List.range K.length).map (cstK G L K i a))):=by
  simp [rc,ints,zi,Function.comp_def]
 rw[e] at f;exact SV.all (by rw[aL,aQ,iK,zE,jY]) g f _
structure RwJ (b r j:Nat)(hh:H)(v:V)(ρ:Nat->Nat):Prop where
 ow:Own hh v 1 (rc j λa=> .sl (ρ a) 0 r (.kn r)) b
 rows: ∀a,a<j->b<=ρ a/\ρ a<hh.next/\hh.get (ρ a)=some (.cells false (rc r λ_=> aB 0))/\dF v (ρ a)
 inj: ∀a c,a<j->c<j->ρ a=ρ c->a=c
set_option maxHeartbeats 64000000
theorem rconsts_ok (vL vC vM:V)(i:Nat)(n:Nat)(G:List Nat->Prop)(L:LN)(K:List Nat)(h:H)(n7:n<=7)(hG:mD n G)(E:eQ G L)(ik:IsK n G L K)(hl:L.length<=5040)(hr:K.length<=64)(rg:RgO n G L K h vL vC vM):
  Ev T 48 [.agg [vL,vC,vM],aB i] h (λv h'=>CsR G L K i h.next h' v/\Fr h h'):=by
 refine bH c_ref27_Group_Constants rfl rfl ?_
 obtain⟨oL,oC,oM⟩:=rg.one
 obtain⟨B,hB⟩:=IP h.next
 obtain⟨Y,e1,n1,g1,o1,f1⟩:=dL hB [vL,vC,vM]
 have bx:=bF h (v:=vL) (u:=vC) (w:=vM) oL oC oM
 obtain⟨b8,eC,c4,b4,a7,cC⟩:=rg.cls om
 obtain⟨a6,eL,c8,b9,ws,b7,cL⟩:=sp_open rg.sL
 obtain⟨c9,c9,a5,cM⟩:=zi_cell (hh:=h) (b:=L.length) rg.sM (by simp [numsL])
 have eM:=SV.dJ (show SV h vM 1 _ from rg.sM)
 obtain⟨r,N⟩:=IP K.length
 obtain⟨m0,b5⟩: ∃m,L.length=m:=⟨_,rfl⟩
 have K0:0<r:=by rw[←N];exact (K_first hG E ik).1
 rw[N] at b8 a7 cC hr
 rw[b5] at a6 b7 cL hl a5 cM
 have gB: ∀hh,Fr Y hh->hh.get B=some (.cells false [vL,vC,vM]):=λhh f=>by rw[f.get B om];exact g1
 simp(disch:=omega)only[go_sem,c_ref27_Group_Constants,aF,bx,hB,e1,H.aG g1,b8]
 refine bW (λvs hh=> ∃y ρ,(∃g:Nat->V,vs= [g 0,aB i,.ptr B 0,g 3,aB r,y,g 6,g 7,g 8,g 9,g 10,g 11,g 12])/\RwJ Y.next r r hh y ρ/\Fr Y hh) ?_ ?_
 ·refine aH (λk' d hh=> ∃(j:Nat) (y:V) (ρ:Nat->Nat),(∃g:Nat->V,d= [g 0,aB i,.ptr B 0,g 3,aB r,y,aB j,g 7,g 8,g 9,g 10,g 11,g 12])/\j<=r/\RwJ Y.next r j hh y ρ/\Fr Y hh/\k'=r-j) r
   ⟨0,.aD,λ_=>0,aA rfl,eY _,⟨Own.aD _ _ _,λa h=>om,λa c h=>om⟩,Fr.refl _,rfl⟩ ?_
  rintro k' d hh ⟨j,y,ρ,⟨g,rfl⟩,l,J,F,rfl⟩
  have nF:=F.next
  by_cases Q:(j:Int)<(r:Int)
  case neg=>
   have d1:=bM Q;obtain rfl:j=r:=om
   simp(disch:=omega)only[go_sem,d1];exact⟨y,ρ,aA rfl,J,F⟩
  have d1:=bV Q
  obtain⟨S,hS⟩:=IP hh.next
  obtain⟨h2,p,n2,g2,o2,f2⟩:=dL hS (rc r λ_=> aB 0)
  obtain⟨h3,a3,b6,f3,n3,o3⟩:=app_one (v:= .sl S 0 r (.kn r)) (J.ow.fr f2) (F.trans f2) (by rw[cK];omega) (bytes:=24) om
  rw[cK] at a3
  simp(disch:=omega)only[go_sem,d1,mks_zeros hh r om,hS,p,cJ _ (z:= .aD) (v:= .sl S 0 r (.kn r)) rfl rfl,a3]
  rw[dX j]
  have F: ∀k,k<Y.next->dF y k:=λk hk c6 off m c e=>by have:=(J.ow.in _ _ _ _ e).2.1;omega
  refine⟨r-(j+1),om,j+1,_,λa=>if a=j then S else ρ a,aA rfl,om,⟨?_,λa A=>?_,λa c A hc e=>?_⟩,f3,rfl⟩
  ·rw[cK] at b6
   have e:(rc (j+1) λa=>V.sl (if a=j then S else ρ a) 0 r (.kn r))=(rc j λa=>V.sl (ρ a) 0 r (.kn r))++ [.sl S 0 r (.kn r)]:=by
    unfold rc;rw[List.range_succ,List.map_append,List.map_cons,List.map_nil,aV rfl];congr 1;exact zD λa A=>by rw[aZ (by have:=Ae.1 A;omega)]
   rw[e];exact b6
  ·show Y.next<=(if a=j then S else ρ a)/\(if a=j then S else ρ a)<h3.next/\h3.get (if a=j then S else ρ a)=_/\dF _ (if a=j then S else ρ a)
   by_cases e:a=j
   ·rw[aV e]
    refine⟨om,om,?_,dF.sl om⟩
    rw[o3 S om λc6 off m c e=>by have:=(J.ow.in _ _ _ _ e).1;omega]
    exact g2
   ·rw[aZ e]
    obtain⟨r1,F,F,r4⟩:=J.rows a om
    exact⟨r1,om,by rw[o3 _ om r4,o2 _ om];exact F,dF.sl om⟩
  ·have ee:(if a=j then S else ρ a)=(if c=j then S else ρ c):=e
   by_cases e1:a=j
   ·by_cases p:c=j
    ·omega
    ·rw[aV e1,aZ p] at ee
     have:=(J.rows c om).2.1
     omega
   ·by_cases p:c=j
    ·rw[aZ e1,aV p] at ee
     have:=(J.rows a om).2.1
     omega
    ·rw[aZ e1,aZ p] at ee
     exact J.inj a c om om ee
 rintro d hX ⟨y,ρ,⟨g,rfl⟩,J,FX⟩
 have F:=FX.next
 obtain⟨W,hW⟩: ∃W:Nat->Prop,W=λq=> ∃j,j<r/\q=ρ j:=⟨_,rfl⟩
 have Wb: ∀q,W q->Y.next<=q/\q<hX.next:=λq O=>by
  rw[hW] at O;obtain⟨j,l,rfl⟩:=O;exact⟨(J.rows j l).1,(J.rows j l).2.1⟩
 have a2: ∀j,j<r->W (ρ j):=λj l=>by rw[hW];exact⟨j,l,rfl⟩
 have F1: ∀hh,Fx W hX hh->Fr Y hh:=λhh f=>⟨by have:=f.next;omega,λq O=>by rw[f.get q om λhw=>by have:=(Wb q hw).1;omega,FX.get q O]⟩
 have c3:Ho W y:=by
  cases y with
  |sl id off m c=>
   intro hw;rw[hW] at hw;obtain⟨j,l,e⟩:=hw;exact (J.rows j l).2.2.2 _ _ _ _ rfl e.symm
  |_=>trivial
 have sX:=J.ow.sv
 have c5:=J.ow.in
 obtain⟨Y,F,b3,b6,b6⟩:=sX.shape r (by rw[cK,jY]) om
 have cQ: ∀hh,Fx W hX hh-> ∀j,j<r->hh.cell Y (F+j)=some (.sl (ρ j) 0 r (.kn r)):=λhh f j l=>by
  obtain⟨F,F,F,_,Y⟩:=(sX.fx c3 f).shape r (by rw[cK,jY]) om;have e1:=b3.ixa .i64 (j:Int) om om;have p:=F.ixa .i64 (j:Int) om om;rw[e1] at p;simp only[Option.some.injEq,V.ptr.injEq,Cd,jY] at p;obtain⟨F,q2⟩:=p;rw[F,q2,Y j (by rw[cK];exact l),iP l]
 simp(disch:=omega)only[go_sem]
 refine aH (λk' d hh=> ∃(t:Nat),(∃g:Nat->V,d= [g 0,aB i,.ptr B 0,g 3,aB r,y,g 6,aB t,g 8,g 9,g 10,g 11,g 12])/\t<=m0/\(∀j,j<r->hh.get (ρ j)=some (.cells false (rc r λk=> aB (cstA G L K i k t j:Nat))))/\Fx W hX hh/\k'=m0-t) m0
  ⟨0,aA rfl,eY _,λj l=>(J.rows j l).2.2.1,Fx.refl _ _,rfl⟩ ?_
 rintro k' d A ⟨t,⟨g,rfl⟩,F,a1,Fa,rfl⟩
 have F:=Fa.next
 have a8:=F1 A Fa
 by_cases Q:(t:Int)<(m0:Int)
 case neg=>
  have d1:=bM Q;obtain rfl:t=m0:=om
  simp(disch:=omega)only[go_sem,H.aG (gB A a8),a6,d1];refine⟨⟨ρ,by rw[N];exact sX.fx c3 Fa,λid off m c e=>by have:=(c5 _ _ _ _ e).2.1;omega,λj l=>?_⟩,f1.trans a8⟩;have:=J.rows j om;refine⟨om,om,?_⟩;rw[a1 j om,N];unfold cstK;rw[b5]
 have d1:=bV Q
 have c0:t<m0:=om
 obtain⟨bl,cx,sx⟩:=cL t c0
 have a9:t<L.length:=om
 have X:=el_isP hG E a9
 have GX:=el_mem E a9
 generalize ws.getD t V.undef=vx at cx sx
 simp(disch:=omega)only[go_sem,H.aG (gB A a8),a6,d1]
 refine aH (λk' d hh=> ∃(k:Nat),(∃g:Nat->V,d= [g 0,aB i,.ptr B 0,g 3,aB r,y,g 6,aB t,aB k,g 9,g 10,g 11,g 12])/\k<=r/\(∀j,j<r->hh.get (ρ j)=some (.cells false (rc r λa=> aB (cstA G L K i a (if a<k then t+1 else t) j:Nat))))/\Fx W hX hh/\k'=r-k) r
  ⟨0,aA rfl,eY _,λj l=>a1 j l,Fa,rfl⟩ ?_
 rintro k' d R ⟨k,⟨g,rfl⟩,hk,s,Fb,rfl⟩
 have d:=Fb.next
 have o:=F1 R Fb
 by_cases b0:(k:Int)<(r:Int)
 case neg=>
  have d2:=bM b0;obtain rfl:k=r:=om
  simp(disch:=omega)only[go_sem,d2,lW];rw[dX t];refine⟨m0-(t+1),om,t+1,aA rfl,om,λj l=>?_,Fb,rfl⟩;rw[s j l];congr 2;exact aX λa A=>by rw[aV A]
 have d2:=bV b0
 have a4:k<r:=om
 have Z:=cM R (f1.trans o) t c0
 have d:(numsL G L K).getD t 0=numC G L K t:=by simp [numsL,a9]
 rw[d] at Z
 obtain⟨c,hc⟩:=IP (numC G L K t)
 rw[hc] at Z
 by_cases c7:c=i
 case neg=>
  have d3:decide ((c:Int)=(i:Int))=false:=bM om;simp(disch:=omega)only[go_sem,d2,H.aG (gB R o),a5.ixa,Z,d3];rw[dX t];refine⟨m0-(t+1),om,t+1,aA rfl,om,λj l=>?_,Fb,rfl⟩;rw[s j l];congr 2;refine aX λa A=>?_
  have e:cstA G L K i a (t+1) j=cstA G L K i a t j:=by rw[cstA_succ,aZ (by rw[hc];exact λx=>c7 x.1)];rfl
  split
  ·rfl
  ·rw[e]
 have d3:decide ((c:Int)=(i:Int))=true:=bV om
 obtain⟨B,y,Q,_,c,sr⟩:=cC k a4
 have c:K.getD k 0<L.length:=ik.lt (getD_mem om)
 have Y:=el_isP hG E c
 have F:=el_mem E c
 have d:=f1.trans o
 have m: ∀hh,Fr h hh->hh.cell c8 (b9+t)=some vx:=λhh f=>by rw[f.cell bl];exact cx
 have g: ∀hh,Fr h hh->hh.cell c4 (b4+k*3)=some y:=λhh f=>by rw[f.cell B];exact Q
 have c:=sx.dJ
 have f:=sr.dJ
 have c:Fr R (H.mk R.tr (R.next+16)):=(Fr.refl R).bL om
 simp(disch:=omega)only[go_sem,d2,H.aG (gB R o),aS (gB R o),a5.ixa,Z,d3,b7.ixa,m R d,a7.ixa,g R d]
 refine (kinv_ok vx n _ _ om X ((sx.mono d).mono c)).mono ?_
 rintro y h2 m
 have f2:=c.trans m.fr
 have c:=d.trans f2
 have si:SI h2 y (zi (dH (L.getD t []))):=(m.pv (W:=λ_=>False) id).si
 have Q:=X.inv
 simp(disch:=omega)only[go_sem,H.aG (gB h2 (o.trans f2)),aS (gB h2 (o.trans f2)),a7.ixa,g h2 c,eL,eC,eM,f]
 refine (kmul_ok _ _ _ _ h2 (by rw[Q.len];omega) si (sr.mono c) (λq O=>by rw[Y.len];rw[Q.len] at O;exact Q.dZ O)).mono ?_
 rintro f h3 ⟨c,f3,_⟩
 have a0:=f2.trans f3
 simp(disch:=omega)only[go_sem,H.aG (gB h3 (o.trans a0)),aS (gB h3 (o.trans a0)),eL,eC,eM]
 have Gq:G (bD (dH (L.getD t [])) (L.getD (K.getD k 0) [])):=hG.mul (hG.inv GX) F
 refine (rclass_ok vL vC vM f n G L K _ h3 n7 hG E om (rg.fr (d.trans a0)) Gq c).mono ?_
 rintro _ h4 ⟨rfl,c⟩
 have U:=a0.trans c
 have c:=U.next
 have b1:Fx W hX h4:=Fb.trans (Fx.of (W:=W) U) λ_ _ h=>h
 obtain⟨q,O⟩:=IP (numC G L K (L.idxOf (bD (dH (L.getD t [])) (L.getD (K.getD k 0) []))))
 have P:q<r:=by rw[←O,←N];exact (numC_ok hG E ik (idx_el E Gq).1).1
 have c1:quK G L K t k=q:=O
 have b2:h4.get (ρ q)=some (.cells false (rc r λa=> aB (cstA G L K i a (if a<k then t+1 else t) q:Nat))):=by
  rw[U.get _ (by have:=(Wb _ (a2 q P)).2;omega)];exact s q P
 have c:h4.cell (ρ q) k=some (aB (cstA G L K i k t q:Nat)):=by
  rw[H.aG b2,iP a4,aZ om]
 have d:cstA G L K i k t q<=t:=cstA_le ..
 obtain⟨u,hu⟩:=IP (cstA G L K i k t q)
 rw[hu] at c d
 have pS:=λhh=>bE (vs:=rc r λa=> aB (cstA G L K i a (if a<k then t+1 else t) q:Nat)) (off:=k) (by rw[cK];exact a4) hh (ρ q) (aB (u+1:Nat))
 rw[O]
 simp(disch:=omega)only[go_sem,b3.ixa,cQ h4 b1 q P,c,show (u:Int)+1=((u+1:Nat):Int) from rfl,b2,pS]
 rw[dX k]
 refine⟨r-(k+1),om,k+1,aA rfl,om,λj l=>?_,?_,rfl⟩
 ·by_cases e:j=q
  ·subst e
   rw[H.aT,eG]
   congr 2
   refine aX λa A=>?_
   by_cases e:a=k
   ·rw[aV e,aV om,e,cstA_succ,aV ⟨om,c1⟩,hu]
   ·rw[aZ e]
    by_cases p:a<k
    ·rw[aV p,aV om]
    ·rw[aZ p,aZ om]
  ·rw[H.aI _ (λee=>e (J.inj j q l P ee)),U.get _ (by have:=(Wb _ (a2 j l)).2;omega),s j l]
   congr 2
   refine aX λa A=>?_
   by_cases e1:a=k
   ·subst e1
    rw[aZ om,aV om,cstA_succ,aZ (λx=>e (x.2.symm.trans c1))];rfl
   ·by_cases p:a<k
    ·rw[aV p,aV om]
    ·rw[aZ p,aZ om]
 ·exact b1.trans (Fx.set (W:=W) _ (a2 q P) _) λ_ _ h=>h
theorem sm_count (n:Nat)(c:Int)(p:Nat->Prop)[DecidablePred p]:sm n (λa=>if p a then c else 0)=c*(((List.range n).filter λa=>decide (p a)).length:Nat):=by
 induction n with
 |zero=>simp [On]
 |succ n ih=>
  rw[nZ,ih,List.range_succ,List.filter_append,jD]
  by_cases h:p n
  ·simp [h,Int.mul_add]
  ·simp [h]
theorem sm_bound {n:Nat}{B:Nat}{f:Nat->Int}(h: ∀a,a<n-> -(B:Int)<=f a/\f a<=B): -((n*B:Nat):Int)<=sm n f/\sm n f<=((n*B:Nat):Int):=by
 induction n with
 |zero=>simp [On]
 |succ n ih=>
  have b:=ih λa e=>h a om
  have d:=h n om;rw[nZ,Nat.succ_mul];generalize n*B=c at*;omega
theorem mul_bound {x y:Int}{X Y:Nat}(b: -(X:Int)<=x/\x<=X)(a: -(Y:Int)<=y/\y<=Y): -((X*Y:Nat):Int)<=x*y/\x*y<=((X*Y:Nat):Int):=by
 have h:(x*y).natAbs<=X*Y:=by
  rw[Int.natAbs_mul];exact Nat.mul_le_mul om om
 omega
noncomputable def mlS (G:List Nat->Prop)(L:LN)(K:List Nat)(x y:List Int)(k i j:Nat):Int:=sm L.length λa=>if numC G L K a<i∨numC G L K a=i/\quK G L K a k<j then x.getD (numC G L K a) 0*y.getD (quK G L K a k) 0 else 0
noncomputable def mlF (G:List Nat->Prop)(L:LN)(K:List Nat)(x y:List Int)(k:Nat):Int:=sm L.length λa=>x.getD (numC G L K a) 0*y.getD (quK G L K a k) 0
section
variable {n:Nat} {G:List Nat->Prop} {L:LN} {K:List Nat} {x y:List Int}
theorem mlS_zero (k:Nat):mlS G L K x y k 0 0=0:=by
 unfold mlS;exact Wn λa _=>by rw[aZ om]
theorem mlS_step (k i j:Nat):mlS G L K x y k i (j+1)=mlS G L K x y k i j+x.getD i 0*y.getD j 0*(cstK G L K i j k:Nat):=by
 unfold mlS cstK cstA;rw[←sm_count L.length (x.getD i 0*y.getD j 0) λa=>numC G L K a=i/\quK G L K a k=j,←DP];refine pL λa _=>?_
 by_cases h:numC G L K a=i/\quK G L K a k=j
 ·obtain⟨c,b⟩:=h
  subst c;subst b;rw[aV om,aZ om,aV ⟨rfl,rfl⟩,Int.zero_add]
 ·rw[aZ h,Int.add_zero]
  by_cases b:numC G L K a<i∨numC G L K a=i/\quK G L K a k<j
  ·rw[aV b,aV om]
  ·rw[aZ b,aZ om]
theorem mlS_row {k r:Nat}(b: ∀a,a<L.length->quK G L K a k<r)(i:Nat):mlS G L K x y k i r=mlS G L K x y k (i+1) 0:=by
 unfold mlS;refine pL λa c=>?_
 have:=b a c
 by_cases h:numC G L K a<i∨numC G L K a=i
 ·rw[aV om,aV om]
 ·rw[aZ om,aZ om]
theorem mlS_skip {i:Nat}(b:x.getD i 0=0)(k:Nat):mlS G L K x y k i 0=mlS G L K x y k (i+1) 0:=by
 unfold mlS;refine pL λa _=>?_
 by_cases h:numC G L K a=i
 ·rw[aZ om,aV om,h,b,Int.zero_mul]
 ·by_cases c:numC G L K a<i
  ·rw[aV om,aV om]
  ·rw[aZ om,aZ om]
theorem mlS_end {r:Nat}(b: ∀a,a<L.length->numC G L K a<r)(k:Nat):mlS G L K x y k r 0=mlF G L K x y k:=by
 unfold mlS mlF;exact pL λa c=>by rw[aV (.inl (b a c))]
theorem at_bound {l:List Int}{B:Nat}(h: ∀v∈l, -(B:Int)<=v/\v<=B)(i:Nat): -(B:Int)<=l.getD i 0/\l.getD i 0<=B:=by
 by_cases hi:i<l.length
 ·exact h _ (getD_mem hi)
 ·rw[Cs,List.getElem?_eq_none om];simp
theorem mlS_bound {X Y:Nat}(c: ∀v∈x, -(X:Int)<=v/\v<=X)(b: ∀v∈y, -(Y:Int)<=v/\v<=Y)(k i j:Nat): -((L.length*(X*Y):Nat):Int)<=mlS G L K x y k i j/\mlS G L K x y k i j<=((L.length*(X*Y):Nat):Int):=by
 refine sm_bound λa _=>?_
 split
 ·exact mul_bound (at_bound c _) (at_bound b _)
 ·omega
theorem mlF_bound {X Y:Nat}(b: ∀v∈x, -(X:Int)<=v/\v<=X)(a: ∀v∈y, -(Y:Int)<=v/\v<=Y)(k:Nat): -((L.length*(X*Y):Nat):Int)<=mlF G L K x y k/\mlF G L K x y k<=((L.length*(X*Y):Nat):Int):=
 sm_bound λ_ _=>mul_bound (at_bound b _) (at_bound a _)
theorem quK_lt (b:mD n G)(E:eQ G L)(e:IsK n G L K){a k:Nat}(h:a<L.length)(g:k<K.length):quK G L K a k<K.length:=by
 unfold quK;have c:=e.lt (getD_mem (d:=0) g);have f:G (bD (dH (L.getD a [])) (L.getD (K.getD k 0) [])):=b.mul (b.inv (el_mem E h)) (el_mem E c);exact (numC_ok b E e (idx_el E f).1).1
end
set_option maxHeartbeats 32000000
theorem fold_gen (f:Nat)(j:List V)(e k:V)(l:List Int)(h:H)(q:l.length<1000000)(I:Nat->V->H->Prop)(o: ∀i v hh,I i v hh->SI hh e l)(m:I 0 k h)
  (step: ∀i v hh,i<l.length->I i v hh->Ev T f ([v,aB i,aB (l.getD i 0)]++j) hh (λv' h'=>I (i+1) v' h')):
  Ev T 64 [e,k,.fn f [] j] h (λv h'=>I l.length v h'):=by
 refine bH c_algebra_fold_int_int rfl rfl ?_
 have p:=(o _ _ _ m).lens
 simp(disch:=omega)only[go_sem,c_algebra_fold_int_int,aF,p]
 refine aH (λn a hh=> ∃(i:Nat) (v:V),(∃g:Nat->V,a= [g 0,v,.fn f [] j,g 3,g 4,g 5,e,aB (l.length:Int),aB i,g 9])/\i<=l.length/\I i v hh/\n=l.length-i) l.length
  ⟨0,k,aA rfl,eY _,m,rfl⟩ ?_
 rintro n a hh ⟨i,v,⟨g,rfl⟩,hi,inv,rfl⟩
 by_cases b:(i:Int)<(l.length:Int)
 ·have d:=bV b
  have a:i<l.length:=om
  obtain⟨id,g,g,n,p⟩:=(o _ _ _ inv).open
  have n:=p i a
  simp(disch:=omega)only[go_sem,d,g.ixa,n]
  refine (step i v hh a inv).mono ?_
  rintro v' a c
  simp(disch:=omega)only[go_sem]
  rw[dX i]
  exact⟨l.length-(i+1),om,i+1,v',aA rfl,om,c,rfl⟩
 have d:=bM b
 obtain rfl:i=l.length:=om
 simp(disch:=omega)only[go_sem,d]
 exact inv
theorem mul1_ok (D S Z t i:Nat)(B:V)(n:Nat)(G:List Nat->Prop)(L:LN)(K:List Nat)(x y:List Int)(X Y:Nat)(h:H)(n7:n<=7)(hG:mD n G)(E:eQ G L)(ik:IsK n G L K)(hl:L.length<=5040)(hr:K.length<=64)(d:DatO n G L K h D)
  (hx: ∀v∈x, -(X:Int)<=v/\v<=X) (hy: ∀v∈y, -(Y:Int)<=v/\v<=Y) (a2:X*Y*5040<=4000000000000000000) (ly:y.length=K.length) (sy:SI h B y) (a3: ∀id off m c,B= .sl id off m c->id≠S) (hi:i<K.length)
  (g1:h.get Z=some (.cells false [.ptr D 0])) (g2:h.get t=some (.cells false [B])) (h1:Z<h.next) (h2:t<h.next) (nS:S<h.next) (e1:Z≠S) (e2:t≠S) (gS:h.get S=some (.cells false (rc K.length λk=> aB (mlS G L K x y k i 0)))):
  Ev T 96 [.sl S 0 K.length (.kn K.length),aB i,aB (x.getD i 0),.ptr Z 0,.ptr t 0] h (λv h'=>v= .sl S 0 K.length (.kn K.length)/\h'.get S=some (.cells false (rc K.length λk=> aB (mlS G L K x y k (i+1) 0)))/\Fx (· =S) h h'):=by
 obtain⟨r,s⟩:=IP K.length
 refine bH c_algebra_data_mul_1 rfl rfl ?_
 by_cases f:x.getD i 0=0
 ·have d1:=bV f
  simp(disch:=omega)only[go_sem,c_algebra_data_mul_1,aF,d1]
  exact⟨by rw[gS];congr 2;exact aX λk _=>by rw[mlS_skip f],Fx.refl _ _⟩
 have d1:=bM f
 simp(disch:=omega)only[go_sem,c_algebra_data_mul_1,aF,d1,H.aG g1]
 refine (consts_ok D i n G L K h n7 hG E ik hl hr d).mono ?_
 rintro f o ⟨⟨Q,ρ,rfl,f,nQ,gQ,p⟩,R⟩
 rw[s] at gS hr ly hi gQ p
 have f:=R.next
 have a1:o.get S=some (.cells false (rc r λk=> aB (mlS G L K x y k i 0))):=by rw[R.get S nS];exact gS
 have f:L.length*(X*Y)<=4000000000000000000:=jC (Nat.mul_le_mul_right _ hl) (by rw[Nat.mul_comm];exact a2)
 have a0:=λl (f:Fx (· =S) o l)=>(show SI l B y from by
  have s2:=sy.mono R;refine SV.fx s2 ?_ f
  cases B with
  |sl q off m c=>exact λe=>a3 _ _ _ _ rfl e
  |_=>trivial)
 rw[s]
 simp(disch:=omega)only[go_sem]
 refine aH (λw b l=> ∃(j:Nat),(∃g:Nat->V,b= [.sl S 0 r (.kn r),g 1,aB (x.getD i 0),g 3,.ptr t 0,g 5,g 6,g 7,g 8,g 9,g 10,.sl Q 0 r (.kn r),aB r,aB j,g 14,g 15,g 16,g 17,g 18])/\j<=r/\l.get S=some (.cells false (rc r λk=> aB (mlS G L K x y k i j)))/\Fx (· =S) o l/\w=r-j) r
  ⟨0,aA rfl,eY _,a1,Fx.refl _ _,rfl⟩ ?_
 rintro w b hb ⟨j,⟨g,rfl⟩,f,P,U,rfl⟩
 have f:=U.next
 by_cases O:(j:Int)<(r:Int)
 case neg=>
  have d2:=bM O;obtain rfl:j=r:=om
  simp(disch:=omega)only[go_sem,d2];refine⟨?_,⟨om,λid h1 h2=>by rw[U.get id om h2,R.get id h1]⟩⟩;rw[P];congr 2;exact aX λk hk=>by rw[←s,mlS_row (λa o=>quK_lt hG E ik o om)]
 have d2:=bV O
 have u:j<r:=om
 obtain⟨f,rn,rg⟩:=p j u
 have f:hb.cell Q j=some (.sl (ρ j) 0 r (.kn r)):=by
  rw[U.cell nQ (by show Q≠S;omega),H.aG gQ,iP u]
 simp(disch:=omega)only[go_sem,d2,f]
 refine aH (λw b l=> ∃(k:Nat),(∃g:Nat->V,b= [.sl S 0 r (.kn r),g 1,aB (x.getD i 0),g 3,.ptr t 0,g 5,aB j,g 7,g 8,g 9,g 10,.sl Q 0 r (.kn r),aB r,aB j,g 14,.sl (ρ j) 0 r (.kn r),aB r,aB k,g 18])/\k<=r/\l.get S=some (.cells false (rc r λa=> aB (mlS G L K x y a i (if a<k then j+1 else j))))/\Fx (· =S) o l/\w=r-k) r
  ⟨0,aA rfl,eY _,P,U,rfl⟩ ?_
 rintro w b J ⟨k,⟨b,rfl⟩,hk,z,F,rfl⟩
 have b:=F.next
 by_cases N:(k:Int)<(r:Int)
 case neg=>
  have d3:=bM N;obtain rfl:k=r:=om
  simp(disch:=omega)only[go_sem,d3];rw[dX j];refine⟨k-(j+1),om,j+1,aA rfl,om,?_,F,rfl⟩;rw[z];congr 2;exact aX λa o=>by rw[aV o]
 have d3:=bV N
 have A:k<r:=om
 have cR:J.cell (ρ j) k=some (aB (cstK G L K i j k:Nat)):=by
  rw[F.cell rn (by show ρ j≠S;omega),H.aG rg,iP A]
 have cS:J.cell S k=some (aB (mlS G L K x y k i j)):=by
  rw[H.aG z,iP A,aZ om]
 have cB:J.cell t 0=some B:=by
  rw[F.cell om (by show t≠S;omega),R.cell h2,H.aG g2];rfl
 obtain⟨b,b,g,f,b⟩:=(a0 J F).open
 rw[ly] at g f b
 have O:=b j u
 have N:=mul_bound (at_bound hx i) (at_bound hy j)
 have p:=mlS_bound (G:=G) (L:=L) (K:=K) hx hy k i j
 have b:=mlS_bound (G:=G) (L:=L) (K:=K) hx hy k i (j+1)
 rw[mlS_step] at b
 have f:X*Y<=L.length*(X*Y):=Nat.le_mul_of_pos_left _ (by have:=ik.lt (getD_mem (d:=0) (show 0<K.length by omega));omega)
 obtain⟨u,hu⟩:=IP (x.getD i 0*y.getD j 0)
 obtain⟨w,hw⟩:=IP (u*((cstK G L K i j k:Nat):Int))
 obtain⟨s,hs⟩:=IP (mlS G L K x y k i j)
 rw[hu,hs] at b
 rw[hu] at N
 rw[hs] at p cS
 rw[hw] at b
 have b:=λl=>bE (vs:=rc r λa=> aB (mlS G L K x y a i (if a<k then j+1 else j))) (off:=k) (by rw[cK];exact A) l S (aB (s+w))
 simp(disch:=omega)only[go_sem,d3,cR,cS,cB,g.ixa,O,hu,hw,z,b]
 rw[dX k]
 refine⟨r-(k+1),om,k+1,aA rfl,om,?_,?_,rfl⟩
 ·rw[eG]
  congr 2
  refine aX λa o=>?_
  by_cases e:a=k
  ·rw[aV e,aV om,e,mlS_step,hu,hs,hw]
  ·rw[aZ e]
   by_cases e2:a<k
   ·rw[aV e2,aV om]
   ·rw[aZ e2,aZ om]
 ·refine (F.trans (Fx.of (W:=(· =S)) ((Fr.refl J).bL (n:=J.next+15) om)) λ_ _ h=>h).trans ?_ (λ_ _ h=>h)
  exact Fx.set _ (W:=(· =S)) rfl _
structure RowO (b r:Nat)(f:Nat->Int)(hh:H)(v:V):Prop where
 ex: ∃S,v= .sl S 0 r (.kn r)/\b<=S/\S<hh.next/\hh.get S=some (.cells false (rc r λk=> aB (f k)))
theorem RowO.si {b r:Nat}{f:Nat->Int}{hh:H}{v:V}(o:RowO b r f hh v):SI hh v ((List.range r).map f):=by
 obtain⟨S,rfl,_,c,a⟩:=o.ex
 have e:(rc r λk=>aB (f k))=ints ((List.range r).map f):=by
  simp [rc,ints,Function.comp_def]
 rw[e] at a;exact SV.all (by rw[aL,iK,zE,jY]) c a _
theorem mul_ok (D:Nat)(j b:V)(n:Nat)(G:List Nat->Prop)(L:LN)(K:List Nat)(x y:List Int)(X Y:Nat)(h:H)(n7:n<=7)(U:mD n G)(E:eQ G L)(P:IsK n G L K)(hl:L.length<=5040)(hr:K.length<=64)(d:DatO n G L K h D)
  (hx: ∀v∈x, -(X:Int)<=v/\v<=X) (hy: ∀v∈y, -(Y:Int)<=v/\v<=Y) (t:X*Y*5040<=4000000000000000000) (lx:x.length=K.length) (ly:y.length=K.length) (sx:SI h j x) (l:SI h b y):
  Ev T 60 [.ptr D 0,j,b] h (λv h'=>RowO h.next K.length (mlF G L K x y) h' v/\Fr h h'):=by
 refine bH c_algebra_data_mul rfl rfl ?_
 obtain⟨vL,vC,Mn,ln,ks,gD,hD,a0,sL,sC,al,a0,a0,a0⟩:=d.ex
 have s:=(cls_open om sC al).1
 obtain⟨B,W⟩:=IP h.next
 obtain⟨Z,e1,Q,g1,o1,f1⟩:=dL W [.ptr D 0]
 obtain⟨o,e2,n2,g2,o2,f2⟩:=dL Q [b]
 obtain⟨g,e3,n3,g3,o3,f3⟩:=dL n2 (rc K.length λ_=> aB 0)
 have R:=SV.dC l
 have F2:=f1.trans f2
 have z:=F2.trans f3
 have f:o.get B=some (.cells false [.ptr D 0]):=by rw[o2 B om];exact g1
 have A:o.get D=some (.cells false [vL,vC,.mp Mn]):=by rw[F2.get _ hD];exact gD
 have O:g.get B=some (.cells false [.ptr D 0]):=by rw[o3 B om];exact f
 have r:g.get (B+1)=some (.cells false [b]):=by rw[o3 (B+1) om];exact g2
 have b1:=kC (x:= .ptr D 0) rfl rfl h
 have b2:=kC R.1 R.2.1 Z
 simp(disch:=omega)only[go_sem,c_algebra_data_mul,aF,b1,W,e1,b2,Q,e2,H.aG f,H.aG A,s,mks_zeros o K.length om,n2,e3]
 have w:=SV.in sx
 have p:=SV.in l
 refine (fold_gen _ [.ptr B 0,.ptr (B+1) 0] j (.sl (B+1+1) 0 K.length (.kn K.length)) x g om (λi v a=>v= .sl (B+1+1) 0 K.length (.kn K.length)/\a.get (B+1+1)=some (.cells false (rc K.length λk=> aB (mlS G L K x y k i 0)))/\Fx (· =B+1+1) g a) ?_ ?_ ?_).mono ?_
 ·rintro i v a ⟨_,_,F⟩
  refine SV.fx (sx.mono z) ?_ F
  cases j with
  |sl q u m c=>exact λe=>by have:=w _ _ _ _ rfl;omega
  |_=>trivial
 ·exact⟨rfl,by rw[g3];congr 2;exact aX λk _=>by rw[mlS_zero],Fx.refl _ _⟩
 ·rintro i v a hi ⟨rfl,N,F⟩
  have nF:=F.next
  have f: ∀id,id<B+1+1->a.get id=g.get id:=λid Z=>F.get id om (by show id≠B+1+1;omega)
  have g:Fr h a:=⟨om,λq J=>by rw[f q om];exact z.get q J⟩
  refine (mul1_ok D (B+1+1) B (B+1) i b n G L K x y X Y a n7 U E P hl hr (d.mono g) hx hy t ly (l.mono g) (λid u m c e=>by have:=p _ _ _ _ e;omega) om (by rw[f _ om];exact O) (by rw[f _ om];exact r) om om om om om N).mono ?_
  rintro a h' ⟨rfl,g',f'⟩
  exact⟨rfl,g',F.trans f' λ_ _ h=>h⟩
 ·rintro v a ⟨rfl,N,F⟩
  have nF:=F.next
  simp(disch:=omega)only[go_sem]
  refine⟨⟨B+1+1,rfl,om,om,?_⟩,⟨om,λq J=>by rw[F.get q om (by show q≠B+1+1;omega)];exact z.get q J⟩⟩
  rw[N]
  congr 2
  exact aX λk _=>by rw[lx,mlS_end λa a=>(numC_ok U E P a).1]
set_option maxHeartbeats 64000000
set_option maxHeartbeats 32000000
theorem each_gen (D f:Nat)(o:List V)(g:Nat->Int)(n:Nat)(G:List Nat->Prop)(L:LN)(K:List Nat)(h:H)(J:K.length<=64)(d:DatO n G L K h D)
  (u: ∀i,i<K.length-> ∀hh,Fr h hh->Ev T f (o++ [aB i]) hh (λv h'=>v= aB (g i)/\Fr hh h')):
  Ev T 41 [.ptr D 0,.fn f o []] h (λv h'=>RowO h.next K.length g h' v/\Fr h h'):=by
 refine bH c_algebra_data_each rfl rfl ?_
 obtain⟨e,e,e,e,e,B,e,e,e,N,x,e,e,e⟩:=d.ex
 have e:=(cls_open om N x).1
 obtain⟨r,c⟩:=IP K.length
 rw[c] at e J u
 obtain⟨S,x⟩:=IP h.next
 obtain⟨N,N,P,A,P,O⟩:=dL x (rc r λ_=> aB 0)
 simp(disch:=omega)only[go_sem,c_algebra_data_each,aF,H.aG B,e,mks_zeros h r om,x,N]
 refine aH (λt b hh=> ∃(i:Nat),(∃j:Nat->V,b= [j 0,.fn f o [],j 2,.sl S 0 r (.kn r),j 4,aB r,aB i,j 7])/\i<=r/\hh.get S=some (.cells false (rc r λk=> aB (if k<i then g k else 0)))/\Fr h hh/\S<hh.next/\t=r-i) r
  ⟨0,aA rfl,eY _,A,O,om,rfl⟩ ?_
 rintro t b hh ⟨i,⟨j,rfl⟩,hi,y,F,w,rfl⟩
 by_cases m:(i:Int)<(r:Int)
 ·have p:=bV m
  have l:i<r:=om
  simp(disch:=omega)only[go_sem,p]
  refine (u i l hh F).mono ?_
  rintro _ s ⟨rfl,q⟩
  have b:s.get S=some (.cells false (rc r λk=> aB (if k<i then g k else 0))):=by rw[q.get S w];exact y
  have e:=λhh=>bE (vs:=rc r λk=> aB (if k<i then g k else 0)) (off:=i) (by rw[cK];exact l) hh S (aB (g i))
  simp(disch:=omega)only[go_sem,b,e]
  rw[dX i]
  have b:=q.next
  refine⟨r-(i+1),om,i+1,aA rfl,om,?_,(F.trans q).set om _,by show S<s.next;omega,rfl⟩
  rw[eG]
  congr 2
  refine aX λa z=>?_
  by_cases e:a=i
  ·rw[aV e,aV om,e]
  ·rw[aZ e]
   by_cases b:a<i
   ·rw[aV b,aV om]
   ·rw[aZ b,aZ om]
 have p:=bM m
 obtain rfl:i=r:=om
 simp(disch:=omega)only[go_sem,p]
 refine⟨⟨S,by rw[c],om,w,?_⟩,F⟩
 rw[y,c]
 congr 2
 exact aX λa z=>by rw[aV z]
noncomputable def rtA (n:Nat)(L:LN)(z:Int)(t:Nat)(y:List Nat):Nat:=((List.range t).filter λa=>decide (zp n (L.getD a []) z=y)).length
theorem filter_one {α:Type}(p:α->Bool)(a:α):([a].filter p).length=if p a=true then 1 else 0:=by
 cases h:p a<;>simp [h]
theorem rtA_succ (n:Nat)(L:LN)(z:Int)(t:Nat)(y:List Nat):rtA n L z (t+1) y=rtA n L z t y+if zp n (L.getD t []) z=y then 1 else 0:=by
 unfold rtA;rw[List.range_succ,List.filter_append,jD];rw[filter_one];simp only[Cr]
theorem rtA_le (n:Nat)(L:LN)(z:Int)(t:Nat)(y:List Nat):rtA n L z t y<=t:=by
 unfold rtA;exact jC (List.length_filter_le _ _) (by rw[zE];exact fH _)
noncomputable def rtK (n:Nat)(L:LN)(K:List Nat)(z:Int)(i:Nat):Nat:=rtA n L z L.length (L.getD (K.getD i 0) [])
theorem bld_rt (D M:Nat):kU [.nilp,.nilm] [(0,1,.ptr D 0),(1,1,.mp M)]=some (.agg [.ptr D 0,.mp M]):=rfl
theorem rootsOf_ok (D M i:Nat)(n:Nat)(G:List Nat->Prop)(L:LN)(K:List Nat)(h:H)(z:Int)(m:List (List Nat×V))(n7:n<=7)(hG:mD n G)(E:eQ G L)(F:IsK n G L K)(hr:K.length<=64)(d:DatO n G L K h D)(hi:i<K.length)
  (W:h.get M=some (.wmap (.arr 64 .u8) (gH kyV m))) (Z:M<h.next) (Y: ∀p∈m,bT n p.1) (J: ∀y,bT n y->(Cc m y).getD (aB 0)= aB (rtA n L z L.length y:Nat)):
  Ev T 42 [.agg [.ptr D 0,.mp M],aB i] h (λv h'=>v= aB (rtK n L K z i:Nat)/\Fr h h'):=by
 refine bH c_algebra_roots_of rfl rfl ?_
 obtain⟨O,U,N,b,b,B,w,b,b,R,P,b,b,b⟩:=d.ex
 obtain⟨b,b,f,b,g,q⟩:=cls_open om R P
 obtain⟨R,a,cr,_,P,sr⟩:=q i hi
 have q:K.getD i 0<L.length:=F.lt (getD_mem hi)
 obtain⟨x,o⟩:=IP (L.getD (K.getD i 0) [])
 rw[o] at sr
 have X:bT n x:=by rw[←o];exact el_isP hG E q
 obtain⟨A,t⟩:=IP h.next
 obtain⟨c,Q,q,r,q,e⟩:=dL t [.ptr D 0,.mp M]
 have j:c.get D=some (.cells false [O,U,.mp N]):=by rw[e.get _ w];exact B
 have k:c.cell f (b+i*3)=some a:=by rw[e.cell R];exact cr
 simp(disch:=omega)only[go_sem,c_algebra_roots_of,aF,Eh h (v:= .ptr D 0) (u:= .mp M) rfl rfl,t,Q,H.aG r,H.aG j,g.ixa,k]
 have l:=(Fr.refl c).bL (n:=c.next+14) om
 refine (keyOf_ok a n x _ om X (sr.mono (e.trans l))).mono ?_
 rintro _ s ⟨rfl,a⟩
 have F2:=e.trans (l.trans a)
 have e:s.get A=some (.cells false [.ptr D 0,.mp M]):=by rw[(l.trans a).get A om];exact r
 have b:s.get M=some (.wmap (.arr 64 .u8) (gH kyV m)):=by rw[F2.get _ Z];exact W
 have c:=oA (kyV_eq (n:=n) om) (λa A=>kyV_key (n:=n) om a A) Y X (aB 0)
 rw[J x X] at c
 simp(disch:=omega)only[go_sem,H.aG e,b,c]
 refine⟨by simp [dJ],by unfold rtK;rw[o],F2⟩
theorem roots_bad (j m:V)(d:Int)(O:List (List Int))(R:List (List (List Int)))(h:H)(l:ChI h j d O R)(q:d<=7∨64<d)(r:SmallO O)(sr:SmallR R)(k:chkE d O R≠0):
  Ev T 12 [j,m] h (λv h'=>v= .tup [.aD,aB (chkE d O R)]/\Fr h h'):=by
 have c:=l
 obtain⟨f,e,rfl,x,p⟩:=l
 refine bH c_algebra_Roots rfl rfl ?_
 have a:f.one=true:=tH x
 have b:e.one=true:=sT p
 obtain⟨B,i⟩:=IP h.next
 obtain⟨n,t,p,o,p,g⟩:=dL i [aB d,f,e]
 have s:=bF h (v:= aB d) (u:=f) (w:=e) rfl a b
 simp(disch:=omega)only[go_sem,c_algebra_Roots,aF,s,i,t,aS o]
 refine (load_bad _ d O R n (c.mono g) q r sr k).mono ?_
 rintro _ a ⟨rfl,b⟩
 have a:=bV k
 simp(disch:=omega)only[go_sem,a]
 exact g.trans b
theorem roots_ok {W0:Nat->Prop}(vc:V)(z:Int)(n:Nat)(O:LN)(R:jL)(G:List Nat->Prop)(h:H)(hz: -9223372036854775808<=z/\z<9223372036854775808)(o:GC W0 h vc n O R G)(L:LN)(hL:cI O R n 0 (cG n)=L):
  Ev T 12 [vc,aB z] h (λv h'=> ∃K,IsK n G L K/\Fr h h'/\(64<K.length/\v= .tup [.aD,aB 5]∨K.length<=64/\ ∃vl,v= .tup [vl,aB 0]/\SI h' vl (zi ((List.range K.length).map (rtK n L K z))))):=by
 have a0:=o
 obtain⟨vO,vR,rfl,B,sR⟩:=o.ch
 refine bH c_algebra_Roots rfl rfl ?_
 have q:vO.one=true:=tH B
 have k:vR.one=true:=sT sR
 have n7:=o.n7
 have n0:=o.n0
 have hG:=o.grp
 obtain⟨E,ll⟩:=eJ o.grp o.isc
 have B:=szF_fact o
 rw[hL] at E ll
 obtain⟨B,hB⟩:=IP h.next
 obtain⟨h1,e1,B,g1,B,f1⟩:=dL hB [aB n,vO,vR]
 have bx:=bF h (v:= aB n) (u:=vO) (w:=vR) rfl q k
 simp(disch:=omega)only[go_sem,c_algebra_Roots,aF,bx,hB,e1,aS g1]
 refine (load_ok _ n O R G h1 (a0.mono f1) L hL).mono ?_
 rintro _ l ⟨K,ik,f2,⟨j,rfl⟩|⟨j,D,rfl,x⟩⟩
 ·simp(disch:=omega)only[go_sem]
  refine bB (λ_=>?_) (λA=>(A (by decide)).elim)
  simp(disch:=omega)only[go_sem]
  exact⟨K,ik,f1.trans f2,.inl ⟨j,trivial⟩⟩
 simp(disch:=omega)only[go_sem]
 refine bB (λA=>(A rfl).elim) (λ_=>?_)
 have F2:=f1.trans f2
 obtain⟨vL,vC,Mn,k,k,gD,hD,k,q,k,k,k,k,k⟩:=x.ex
 obtain⟨P,k,a5,W,ws,U,cL⟩:=sp_open q
 obtain⟨r,c⟩: ∃m,L.length=m:=⟨_,rfl⟩
 rw[c] at P U cL
 obtain⟨M,hM⟩:=IP l.next
 obtain⟨q,B⟩:=IP (l.new (.wmap (.arr 64 .u8) []))
 have n3:q.next=M+1:=by rw[←B,H.aY,hM]
 have g3:q.get M=some (.wmap (.arr 64 .u8) []):=by rw[←B,←hM];exact H.aN l _
 have o3: ∀k,k≠M->q.get k=l.get k:=λk hk=>by rw[←B];exact H.bJ l om _
 obtain⟨h4,e4,k,g4,o4,k⟩:=dL n3 [.nilp,.nilm]
 obtain⟨h5,e5,k,g5,k⟩:=nP h4 (M+1) [.ptr D 0,.mp M]
 have b:Fr l h5:=⟨om,λq hq=>by rw[k q om,o4 q om,o3 q om]⟩
 have a3:h5.get M=some (.wmap (.arr 64 .u8) []):=by rw[k M om,o4 M om];exact g3
 have a4: ∀d,Fr l d->d.get D=some (.cells false [vL,vC,.mp Mn]):=λd f=>by rw[f.get _ hD];exact gD
 simp(disch:=omega)only[go_sem,hM,B,bld_rt,n3,e4,Wr h4 (M+1) 0 (v:= .ptr D 0) (u:= .mp M) rfl rfl,g4,Iy,e5,H.aG (a4 h5 b),P]
 refine bW (λk d=> ∃(m:List (List Nat×V)),(∃g:Nat->V,k= [g 0,g 1,g 2,g 3,g 4,.ptr D 0,g 6,.ptr (M+1) 0,g 8,g 9,g 10,g 11,g 12,g 13,g 14])/\d.get M=some (.wmap (.arr 64 .u8) (gH kyV m))/\d.get (M+1)=some (.cells false [.ptr D 0,.mp M])/\(∀p∈m,bT n p.1)/\(∀y,bT n y->(Cc m y).getD (aB 0)= aB (rtA n L z L.length y:Nat))/\M+1<d.next/\Fr l d) ?_ ?_
 ·refine aH (λk' i d=> ∃(t:Nat) (m:List (List Nat×V)),(∃g:Nat->V,i= [g 0,aB z,g 2,g 3,g 4,.ptr D 0,g 6,.ptr (M+1) 0,g 8,g 9,g 10,vL,aB r,aB t,g 14])/\t<=r/\d.get M=some (.wmap (.arr 64 .u8) (gH kyV m))/\d.get (M+1)=some (.cells false [.ptr D 0,.mp M])/\(∀p∈m,bT n p.1)/\(∀y,bT n y->(Cc m y).getD (aB 0)= aB (rtA n L z t y:Nat))/\M+1<d.next/\Fr l d/\k'=r-t) r
   ⟨0, [],aA rfl,eY _,a3,g5,λ_ h=>(by cases h),λy _=>rfl,om,b,rfl⟩ ?_
  rintro k' i h6 ⟨t,m,⟨g,rfl⟩,b,gM,gR,J,Q,nM,F,rfl⟩
  by_cases Z:(t:Int)<(r:Int)
  case neg=>
   have d1:=bM Z;obtain rfl:t=r:=om
   simp(disch:=omega)only[go_sem,d1];exact⟨m,aA rfl,gM,gR,J,by rw[c];exact Q,nM,F⟩
  have d1:=bV Z
  have b:t<r:=om
  obtain⟨b1,c1,s1⟩:=cL t b
  generalize ws.getD t V.undef=b at c1 s1
  have X:=el_isP hG E (show t<L.length by omega)
  have c:h6.cell a5 (W+t)=some b:=by rw[F.cell b1];exact c1
  simp(disch:=omega)only[go_sem,d1,U.ixa,c]
  refine (ppow_ok b z n (L.getD t []) h6 hz n0 n7 X (s1.mono F)).mono ?_
  rintro _ h7 ⟨w,rfl,c,b⟩
  have F7:=F.trans b
  have k:=b.next
  have a2:h7.get M=some (.wmap (.arr 64 .u8) (gH kyV m)):=by rw[b.get _ om];exact gM
  have a:h7.get (M+1)=some (.cells false [.ptr D 0,.mp M]):=by rw[b.get _ om];exact gR
  obtain⟨y,hy⟩:=IP (zp n (L.getD t []) z)
  have Y:bT n y:=by rw[←hy];exact iB X _
  rw[hy] at c
  simp(disch:=omega)only[go_sem,H.aG a]
  have fb:=(Fr.refl h7).bL (n:=h7.next+9) om
  refine (keyOf_ok w n y _ om Y (c.mono fb)).mono ?_
  rintro _ h8 ⟨rfl,b⟩
  have k:=fb.trans b
  have F8:=F7.trans k
  have q:h8.get M=some (.wmap (.arr 64 .u8) (gH kyV m)):=by rw[k.get _ om];exact a2
  have w:h8.get (M+1)=some (.cells false [.ptr D 0,.mp M]):=by rw[k.get _ om];exact a
  have U:=λa b=>kyV_eq (n:=n) om a b
  have hk:=λa=>kyV_key (n:=n) om a
  have B:=Q y Y
  obtain⟨c,A⟩:=IP (rtA n L z t y)
  rw[A] at B
  have a:c<=t:=by rw[←A];exact rtA_le ..
  have b:=oA U hk J Y (aB 0)
  rw[B] at b
  obtain⟨a,a,a,h9,ee,a,o9,N,F,P,en⟩:=Pg U hk J Y (aB 0) (aB (c+1:Nat)) h8 M q
  have a:=oA U hk F Y (aB 0)
  rw[P,B] at a
  have B:=k.next
  have ok:Zj h9 (.lkw (.arr 64 .u8) (aB 0) false (.c (.mp M)) (.c (kyV y))) (aB c)=true:=by
   simp only[Zj,Gz,xv,Gm,N,a,Option.map_some,FG];simp [dJ]
  have a1:h9.get (M+1)=some (.cells false [.ptr D 0,.mp M]):=by rw[o9 (M+1) om];exact w
  simp(disch:=omega)only[go_sem,H.aG w,q,b,show (c:Int)+1=((c+1:Nat):Int) from rfl,ee,N,ok,en]
  rw[dX t]
  have a:=F7.next
  refine⟨by simp [dJ],r-(t+1),om,t+1,_,aA rfl,om,rfl,a1,xB Y J,λy' Y'=>?_,by show M+1<h9.next;omega,⟨by show l.next<=h9.next;omega,λp a=>by rw[H.aI _ om,o9 p om];exact F8.get p a⟩,rfl⟩
  rw[yU,rtA_succ,hy]
  by_cases e:y'=y
  ·rw[aV e,aV e.symm,e,A];rfl
  ·rw[aZ e,aZ (λh=>e h.symm),Q y' Y'];rfl
 rintro i hA ⟨m,⟨g,rfl⟩,gM,gR,J,Q,nM,FA⟩
 have a:=Zv gR
 simp(disch:=omega)only[go_sem,a]
 refine (each_gen D 42 [.agg [.ptr D 0,.mp M]] (λi=>((rtK n L K z i:Nat):Int)) n G L K hA j (x.mono FA) (λi hi d f=>rootsOf_ok D M i n G L K d z m n7 hG E ik j (x.mono (FA.trans f)) hi (by rw[f.get M om];exact gM) (by have:=f.next;omega) J Q)).mono ?_
 rintro vl hB ⟨a,fB⟩
 have s:=a.si
 have e:(List.range K.length).map (λi=>((rtK n L K z i:Nat):Int))=zi ((List.range K.length).map (rtK n L K z)):=by
  unfold zi;rw[List.map_map];rfl
 rw[e] at s
 simp(disch:=omega)only[go_sem]
 exact⟨K,ik,(F2.trans FA).trans fB,.inr ⟨j,vl,rfl,s⟩⟩
set_option maxHeartbeats 32000000
noncomputable def ivK (G:List Nat->Prop)(L:LN)(K:List Nat)(i:Nat):Nat:=numC G L K (L.idxOf (dH (L.getD (K.getD i 0) [])))
noncomputable def comS (G:List Nat->Prop)(L:LN)(K:List Nat)(k:Nat):Nat->Nat
 |0=>0
 |i+1=>comS G L K k i+cstK G L K (ivK G L K i) i k*(L.length/(orbC G L (K.getD i 0)).length)
theorem cstK_le {G:List Nat->Prop}{L:LN}{K:List Nat}(i j k:Nat):cstK G L K i j k<=L.length:=cstA_le ..
theorem comS_le {G:List Nat->Prop}{L:LN}{K:List Nat}(k:Nat): ∀i,comS G L K k i<=i*(L.length*L.length)
 |0=>eY _
 |i+1=>by
  rw[comS,Nat.succ_mul];exact Nat.add_le_add (comS_le k i) (Nat.mul_le_mul (cstK_le ..) (Nat.div_le_self _ _))
theorem comm_ok {W0:Nat->Prop}(vc:V)(n:Nat)(O:LN)(R:jL)(G:List Nat->Prop)(h:H)(p:GC W0 h vc n O R G)(L:LN)(hL:cI O R n 0 (cG n)=L):
  Ev T 14 [vc] h (λv h'=> ∃K,IsK n G L K/\Fr h h'/\(64<K.length/\v= .tup [.aD,aB 5]∨K.length<=64/\ ∃vl,v= .tup [vl,aB 0]/\SI h' vl (zi ((List.range K.length).map λk=>comS G L K k K.length)))):=by
 have a9:=p
 obtain⟨vO,vR,rfl,B,sR⟩:=p.ch
 refine bH c_algebra_Commutators rfl rfl ?_
 have a8:vO.one=true:=tH B
 have a3:vR.one=true:=sT sR
 have n7:=p.n7
 have n0:=p.n0
 have hG:=p.grp
 obtain⟨E,ll⟩:=eJ p.grp p.isc
 have B:=szF_fact p
 rw[hL] at E ll
 obtain⟨B,hB⟩:=IP h.next
 obtain⟨h1,e1,B,g1,B,f1⟩:=dL hB [aB n,vO,vR]
 have bx:=bF h (v:= aB n) (u:=vO) (w:=vR) rfl a8 a3
 simp(disch:=omega)only[go_sem,c_algebra_Commutators,aF,bx,hB,e1,aS g1]
 refine (load_ok _ n O R G h1 (a9.mono f1) L hL).mono ?_
 rintro _ h2 ⟨K,ik,f2,⟨f,rfl⟩|⟨f,D,rfl,y⟩⟩
 ·simp(disch:=omega)only[go_sem]
  refine bB (λ_=>?_) (λY=>(Y (by decide)).elim)
  simp(disch:=omega)only[go_sem]
  exact⟨K,ik,f1.trans f2,.inl ⟨f,trivial⟩⟩
 simp(disch:=omega)only[go_sem]
 refine bB (λY=>(Y rfl).elim) (λ_=>?_)
 have F2:=f1.trans f2
 obtain⟨vL,vC,Mn,B,B,gD,hD,B,sL,sC,al,B,B,B⟩:=y.ex
 obtain⟨r,m⟩:=IP K.length
 obtain⟨B,eC,x,j,a4,cC⟩:=cls_open om sC al
 obtain⟨a2,eL,_⟩:=sp_open sL
 rw[m] at B a4 cC f
 have hl:L.length<=5040:=om
 obtain⟨S,hS⟩:=IP h2.next
 obtain⟨h3,e3,f,g3,f,f3⟩:=dL hS (rc r λ_=> aB 0)
 have a7: ∀d,Fr h2 d->d.get D=some (.cells false [vL,vC,.mp Mn]):=λd f=>by rw[f.get _ hD];exact gD
 simp(disch:=omega)only[go_sem,H.aG gD,B,mks_zeros h2 r om,hS,e3,H.aG (a7 h3 f3)]
 refine aH (λk' b d=> ∃(i:Nat),(∃g:Nat->V,b= [g 0,g 1,g 2,g 3,.ptr D 0,g 5,.sl S 0 r (.kn r),g 7,g 8,g 9,g 10,g 11,g 12,g 13,vC,aB r,aB i,g 17,g 18,g 19,g 20,g 21])/\i<=r/\d.get S=some (.cells false (rc r λk=> aB (comS G L K k i:Nat)))/\Fr h2 d/\S<d.next/\k'=r-i) r
  ⟨0,aA rfl,eY _,g3,f3,om,rfl⟩ ?_
 rintro k' b h4 ⟨i,⟨g,rfl⟩,hi,gS,F,nS,rfl⟩
 by_cases a5:(i:Int)<(r:Int)
 case neg=>
  have d1:=bM a5;obtain rfl:i=r:=om
  simp(disch:=omega)only[go_sem,d1];refine⟨K,ik,F2.trans F,.inr ⟨om,_,rfl,?_⟩⟩
  have e:(rc i λk=>aB (comS G L K k i:Nat))=ints (zi ((List.range i).map λk=>comS G L K k i)):=by
   simp [rc,ints,zi,Function.comp_def]
  rw[e] at gS;rw[m];exact SV.all (by rw[aL,aQ,iK,zE,jY]) nS gS _
 have d1:=bV a5
 have U:i<r:=om
 obtain⟨bC,l,f,f,B,sr⟩:=cC i U
 have f:K.getD i 0<L.length:=ik.lt (getD_mem om)
 obtain⟨z,hz⟩:=IP (L.getD (K.getD i 0) [])
 obtain⟨c,Y⟩:=IP ((orbC G L (K.getD i 0)).length)
 rw[hz] at sr B
 rw[Y] at B
 have c0:0<c:=by rw[←Y];exact Py (orbC_mem.2 ⟨f,cR_refl hG E f⟩)
 have Z:bT n z:=by rw[←hz];exact el_isP hG E f
 have b4:G z:=by rw[←hz];exact el_mem E f
 have w3:=sr.dC
 have r4:h4.row x (j+i*3) 3=some [l,aB (dW z n:Int),aB c]:=by
  have:h4.row x (j+i*3) 3=h2.row x (j+i*3) 3:=by unfold H.row;rw[F.get _ bC]
  rw[this];exact B
 obtain⟨A,j⟩:=IP h4.next
 obtain⟨f,e5,x,g5,x,B⟩:=dL j [.aD,aB 0,aB 0]
 obtain⟨h6,e6,B,g6,B⟩:=nP f A [l,aB (dW z n:Int),aB c]
 have N:Fr h4 h6:=⟨om,λq hq=>by rw[B q om,x q om]⟩
 have F6:=F.trans N
 simp(disch:=omega)only[go_sem,d1,a4.ixa,r4,j,e5,dO f A 0 (v:=l) (u:= aB (dW z n:Int)) (w:= aB c) w3.2.1 rfl rfl,g5,dD,e6,H.aG g6]
 refine (pinv_ok l n z h6 n0 om Z (sr.mono F6)).mono ?_
 rintro _ h7 ⟨w,rfl,sw,f7⟩
 have F7:=F6.trans f7
 have g7:h7.get A=some (.cells false [l,aB (dW z n:Int),aB c]):=by rw[f7.get _ om];exact g6
 have f:cV vL=some (aB (L.length:Int)):=a2
 have td:(L.length:Int).tdiv (c:Int)=((L.length/c:Nat):Int):=rfl
 have a6:L.length/c<=5040:=jC (Nat.div_le_self _ _) hl
 have f:L.length/c<=L.length:=Nat.div_le_self _ _
 obtain⟨t,o⟩:=IP (L.length/c)
 rw[o] at td a6 f
 have wr:IntKind.i64.wrap (t:Int)=(t:Int):=Gb om om
 simp(disch:=omega)only[go_sem,H.aG (a7 h7 F7),H.aG g7,a2,td,wr]
 have fb:=(Fr.refl h7).bL (n:=h7.next+9) om
 have c:G (dH z):=hG.inv b4
 refine (class_ok D w n G L K (dH z) _ om (y.mono (F7.trans fb)) Z.inv ((E.mem _).2 c) (sw.mono fb)).mono ?_
 rintro _ h8 ⟨rfl,f8⟩
 have F8:=F7.trans (fb.trans f8)
 have c:numC G L K (L.idxOf (dH z))=ivK G L K i:=by unfold ivK;rw[hz]
 rw[c]
 simp(disch:=omega)only[go_sem]
 refine (consts_ok D (ivK G L K i) n G L K h8 n7 hG E ik hl om (y.mono F8)).mono ?_
 rintro c h9 ⟨⟨Q,ρ,rfl,c,c,j,c⟩,f⟩
 rw[m] at j c
 obtain⟨l,rn,rg⟩:=c i U
 have F9:=F8.trans f
 have c:=N.next
 have c:=f7.next
 have c:=(fb.trans f8).next
 have c:=f.next
 have b3:h9.get S=some (.cells false (rc r λk=> aB (comS G L K k i:Nat))):=by
  rw[f.get S om,(fb.trans f8).get S om,f7.get S om,N.get S nS];exact gS
 have c:h9.cell Q i=some (.sl (ρ i) 0 r (.kn r)):=by rw[H.aG j,iP U]
 rw[m]
 simp(disch:=omega)only[go_sem,c]
 have b0:L.length*L.length<=5040*5040:=Nat.mul_le_mul hl hl
 refine aH (λk' b d=> ∃(k:Nat),(∃g:Nat->V,b= [g 0,g 1,g 2,g 3,.ptr D 0,g 5,.sl S 0 r (.kn r),g 7,g 8,g 9,aB t,g 11,g 12,g 13,vC,aB r,aB i,g 17,.sl (ρ i) 0 r (.kn r),aB r,aB k,g 21])/\k<=r/\d.get S=some (.cells false (rc r λa=> aB (comS G L K a (if a<k then i+1 else i):Nat)))/\Fx (· =S) h9 d/\k'=r-k) r
  ⟨0,aA rfl,eY _,b3,Fx.refl _ _,rfl⟩ ?_
 rintro k' b a0 ⟨k,⟨b,rfl⟩,b,J,Fc,rfl⟩
 have b:=Fc.next
 have b5:Fr h2 a0:=⟨by have:=F9.next;omega,λq hq=>by rw[Fc.get q (by have:=F9.next;omega) (by show q≠S;omega)];exact F9.get q hq⟩
 by_cases a1:(k:Int)<(r:Int)
 case neg=>
  have d3:=bM a1;obtain rfl:k=r:=om
  simp(disch:=omega)only[go_sem,d3];rw[dX i];refine⟨k-(i+1),om,i+1,aA rfl,om,?_,b5,om,rfl⟩;rw[J];congr 2;exact aX λa ha=>by rw[aV ha]
 have d3:=bV a1
 have P:k<r:=om
 have cR:a0.cell (ρ i) k=some (aB (cstK G L K (ivK G L K i) i k:Nat)):=by
  rw[Fc.cell rn (by show ρ i≠S;omega),H.aG rg,iP P]
 have cS:a0.cell S k=some (aB (comS G L K k i:Nat)):=by
  rw[H.aG J,iP P,aZ om]
 have c:=comS_le (G:=G) (L:=L) (K:=K) k i
 have b:i*(L.length*L.length)<=64*(5040*5040):=Nat.mul_le_mul om b0
 have b2:cstK G L K (ivK G L K i) i k*t<=5040*5040:=Nat.mul_le_mul (jC (cstK_le ..) hl) a6
 have cs:comS G L K k (i+1)=comS G L K k i+cstK G L K (ivK G L K i) i k*t:=by rw[comS,Y,o]
 obtain⟨u,b⟩:=IP (cstK G L K (ivK G L K i) i k)
 rw[b] at cR b2 cs
 obtain⟨s,b⟩:=IP (comS G L K k i)
 rw[b] at cS c cs
 have em:(u:Int)*(t:Int)=((u*t:Nat):Int):=rfl
 obtain⟨w2,hw⟩: ∃w,u*t=w:=⟨_,rfl⟩
 rw[hw] at b2 cs em
 have ea:(s:Int)+(w2:Int)=((s+w2:Nat):Int):=rfl
 have b:=λd=>bE (vs:=rc r λa=> aB (comS G L K a (if a<k then i+1 else i):Nat)) (off:=k) (by rw[cK];exact P) d S (aB (s+w2:Nat))
 simp(disch:=omega)only[go_sem,d3,cR,cS,em,ea,J,b]
 rw[dX k]
 refine⟨r-(k+1),om,k+1,aA rfl,om,?_,Fc.trans (Fx.set _ (W:=(· =S)) rfl _) (λ_ _ h=>h),rfl⟩
 rw[eG]
 congr 2
 refine aX λa ha=>?_
 by_cases e:a=k
 ·rw[aV e,aV om,e,cs]
 ·rw[aZ e]
  by_cases b:a<k
  ·rw[aV b,aV om]
  ·rw[aZ b,aZ om]
def gs:LN->(List Nat->Int)->Int
 | [],_=>0
 |x::l,f=>f x+gs l f
section
variable {n:Nat} {G:List Nat->Prop} {L:LN} {K:List Nat}
end
section
variable {n:Nat} {G:List Nat->Prop} {L:LN} {K:List Nat} (hG:mD n G) (E:eQ G L) (ik:IsK n G L K)
include hG E ik
end
set_option maxHeartbeats 32000000
theorem contains_gen (f:Nat)(r:List V)(o:V)(l:List Int)(h:H)(p:Int->Bool)(A:l.length<1000000)(sl:SI h o l)
  (y: ∀i,i<l.length-> ∀hh,Fr h hh->Ev T f ([aB (l.getD i 0)]++r) hh (λv h'=>v= .bool (p (l.getD i 0))/\Fr hh h')):
  Ev T 57 [o,.fn f [] r] h (λv h'=>v= .bool (l.any p)/\Fr h h'):=by
 refine bH c_slices_ContainsFunc_int_int rfl rfl ?_
 simp(disch:=omega)only[go_sem,c_slices_ContainsFunc_int_int,aF]
 refine Ev.mono (Q:=λv h'=> ∃z,v= aB z/\decide (0<=z)=l.any p/\Fr h h') ?_ ?_
 ·refine bH c_slices_IndexFunc_int_int rfl rfl ?_
  have w:=sl.lens
  obtain⟨id,q,t,e,x⟩:=sl.open
  simp(disch:=omega)only[go_sem,c_slices_IndexFunc_int_int,aF,w]
  refine aH (λs a hh=> ∃(i:Nat),(∃g:Nat->V,a= [o,.fn f [] r,g 2,g 3,aB (l.length:Int),aB i,g 6,g 7])/\i<=l.length/\(∀j,j<i->p (l.getD j 0)=false)/\Fr h hh/\s=l.length-i) l.length
   ⟨0,aA rfl,eY _,λj k=>om,Fr.refl _,rfl⟩ ?_
  rintro s a hh ⟨i,⟨g,rfl⟩,hi,c,F,rfl⟩
  by_cases d:(i:Int)<(l.length:Int)
  ·have n:=bV d
   have b:i<l.length:=om
   have a:hh.cell id (q+i)=some (aB (l.getD i 0)):=by rw[F.cell (e om),x i b]
   simp(disch:=omega)only[go_sem,n,t.ixa,a]
   refine (y i b hh F).mono ?_
   rintro _ u ⟨rfl,m⟩
   cases he:p (l.getD i 0) with
   |true=>
    simp(disch:=omega)only[go_sem];refine⟨_,rfl,?_,F.trans m⟩;rw[bV om];symm;exact List.any_eq_true.2 ⟨_,getD_mem b,he⟩
   |false=>
    simp(disch:=omega)only[go_sem];rw[dX i];refine⟨l.length-(i+1),om,i+1,aA rfl,om,λj k=>?_,F.trans m,rfl⟩
    by_cases e:j=i
    ·rw[e];exact he
    ·exact c j om
  have n:=bM d
  obtain rfl:i=l.length:=om
  simp(disch:=omega)only[go_sem,n]
  refine⟨_,rfl,?_,F⟩
  symm
  rw[bM om]
  refine List.any_eq_false.2 λx b=>?_
  obtain⟨j,k,a⟩:=vJ.1 b
  have:=c j k
  rw[Cs,eX k] at this
  rw[←a]
  simpa using this
 rintro _ u ⟨z,rfl,a,m⟩
 simp(disch:=omega)only[go_sem,a]
 exact m
def indL (r i:Nat):List Int:=(List.range r).map λk=>if k=i then 1 else 0
theorem indL_len (r i:Nat):(indL r i).length=r:=by simp [indL]
theorem indL_b (r i:Nat): ∀v∈indL r i, -((1:Nat):Int)<=v/\v<=(1:Nat):=λv a=>by
 obtain⟨k,_,rfl⟩:=pU.1 a;split<;>omega
noncomputable def cntL (G:List Nat->Prop)(L:LN)(K:List Nat)(l:List Nat):List Int:=l.foldl (λc i=>(List.range K.length).map (mlF G L K (indL K.length i) c)) (indL K.length 0)
theorem cntL_take (G:List Nat->Prop)(L:LN)(K:List Nat)(l:List Nat){k:Nat}(a:k<l.length):cntL G L K (l.take (k+1))=(List.range K.length).map (mlF G L K (indL K.length (l.getD k 0)) (cntL G L K (l.take k))):=by
 have e:l.take (k+1)=l.take k++ [l.getD k 0]:=by
  rw[List.take_add_one,eX a,Cs,eX a];rfl
 unfold cntL;rw[e,List.foldl_append];rfl
theorem cntL_len (G:List Nat->Prop)(L:LN)(K:List Nat)(l:List Nat): ∀k,k<=l.length->(cntL G L K (l.take k)).length=K.length
 |0,_=>by unfold cntL;exact indL_len _ _
 |k+1,h=>by rw[cntL_take G L K l om,iK,zE]
theorem cntL_b (G:List Nat->Prop)(L:LN)(K:List Nat)(l:List Nat)(a:L.length<=5040): ∀k,k<=l.length-> ∀v∈cntL G L K (l.take k), -((5040^k:Nat):Int)<=v/\v<=(5040^k:Nat)
 |0,_=>by unfold cntL;exact indL_b _ _
 |k+1,h=>by
  rw[cntL_take G L K l om];intro v c;obtain⟨q,_,rfl⟩:=pU.1 c;have b:=mlF_bound (G:=G) (L:=L) (K:=K) (indL_b K.length (l.getD k 0)) (cntL_b G L K l a k om) q;have:L.length*(1*5040^k)<=5040^(k+1):=by rw[Nat.one_mul,Nat.pow_succ,Nat.mul_comm];exact Nat.mul_le_mul_left _ a
  omega
structure CntE (n:Nat)(G:List Nat->Prop)(L:LN)(K:List Nat)(D E:Nat)(hh:H):Prop where
 d:DatO n G L K hh D
 g:hh.get E=some (.cells false [.ptr D 0])
 nx:E<hh.next
theorem CntE.mono {n:Nat}{G:List Nat->Prop}{L:LN}{K:List Nat}{D E:Nat}{h h':H}(c:CntE n G L K D E h)(f:Fr h h'):CntE n G L K D E h':=⟨c.d.mono f,by rw[f.get _ c.nx];exact c.g,iO c.nx f.next⟩
theorem count1_ok (D E:Nat)(x:Int)(n:Nat)(G:List Nat->Prop)(L:LN)(K:List Nat)(h:H)(j:K.length<=64)(c:CntE n G L K D E h):
  Ev T 62 [aB x,.ptr E 0] h (λv h'=>v= .bool (decide (x<0∨(K.length:Int)<=x))/\Fr h h'):=by
 refine bH c_algebra_Count_1 rfl rfl ?_
 obtain⟨a,a,a,a,a,f,a,a,a,b,i,a,a,a⟩:=c.d.ex
 have e:=(cls_open om b i).1
 by_cases a:x<0
 ·have b:=bV a
  simp(disch:=omega)only[go_sem,c_algebra_Count_1,aF,b,lW]
  exact⟨by rw[bV (.inl a)],Fr.refl _⟩
 have b:=bM a
 simp(disch:=omega)only[go_sem,c_algebra_Count_1,aF,b,H.aG c.g,H.aG f,e]
 refine⟨?_,Fr.refl _⟩
 congr 1
 rw[decide_eq_decide]
 omega
theorem count2_ok (D E i:Nat)(n:Nat)(G:List Nat->Prop)(L:LN)(K:List Nat)(h:H)(q:K.length<=64)(c:CntE n G L K D E h)(hi:i<K.length):
  Ev T 63 [aB i,.ptr E 0] h (λv h'=>RowO h.next K.length (λk=>if k=i then 1 else 0) h' v/\Fr h h'):=by
 refine bH c_algebra_Count_2 rfl rfl ?_
 obtain⟨a,a,a,a,a,j,a,a,a,b,e,a,a,a⟩:=c.d.ex
 have a:=(cls_open om b e).1
 obtain⟨S,b⟩:=IP h.next
 obtain⟨f,o,e,e,m,l⟩:=dL b (rc K.length λ_=> aB 0)
 have p:=λm=>bE (vs:=rc K.length λ_=> aB 0) (off:=i) (by rw[cK];exact hi) m S (aB 1)
 simp(disch:=omega)only[go_sem,c_algebra_Count_2,aF,H.aG c.g,H.aG j,a,mks_zeros h K.length om,b,o,e,p]
 refine⟨⟨S,rfl,om,by show S<f.next;omega,?_⟩,l.set om _⟩
 rw[H.aT,eG]
 congr 2
 refine aX λa _=>?_
 by_cases e:a=i
 ·rw[aV e,aV e]
 ·rw[aZ e,aZ e]
theorem count3_ok (D E Z i:Nat)(b B:V)(n:Nat)(G:List Nat->Prop)(L:LN)(K:List Nat)(y:List Int)(Y:Nat)(h:H)(N:n<=7)(J:mD n G)(s:eQ G L)(m:IsK n G L K)(o:L.length<=5040)(j:K.length<=64)(c:CntE n G L K D E h)(hi:i<K.length)
  (A:h.get Z=some (.cells false [.fn 63 [] [.ptr E 0]])) (P:Z<h.next) (F: ∀v∈y, -(Y:Int)<=v/\v<=Y) (p:Y*5040<=4000000000000000000) (O:y.length=K.length) (e:SI h b y):
  Ev T 65 [b,B,aB i,.ptr E 0,.ptr Z 0] h (λv h'=>RowO h.next K.length (mlF G L K (indL K.length i) y) h' v/\Fr h h'):=by
 refine bH c_algebra_Count_3 rfl rfl ?_
 have f:=e.dJ
 simp(disch:=omega)only[go_sem,c_algebra_Count_3,aF,H.aG c.g,H.aG A]
 have k:=(Fr.refl h).bL (n:=h.next+7) om
 refine (count2_ok D E i n G L K _ j (c.mono k) hi).mono ?_
 rintro q t ⟨f,u⟩
 have F1:=k.trans u
 have l:=c.mono F1
 have k:=f.si.dJ
 simp(disch:=omega)only[go_sem,H.aG l.g]
 have a:=f.si
 have x:(List.range K.length).map (λk=>if k=i then (1:Int) else 0)=indL K.length i:=rfl
 rw[x] at a
 refine (mul_ok D q b n G L K (indL K.length i) y 1 Y t N J s m o j l.d (indL_b _ _) F (by rw[Nat.one_mul];exact p) (indL_len _ _) O a (e.mono F1)).mono ?_
 rintro a a ⟨⟨S,rfl,a,r,z⟩,w⟩
 have a:=F1.next
 simp(disch:=omega)only[go_sem]
 exact⟨⟨S,rfl,om,r,z⟩,F1.trans w⟩
theorem cnt_ok {W0:Nat->Prop}(vc z:V)(l:List Int)(n:Nat)(O:LN)(R:jL)(G:List Nat->Prop)(h:H)(ll:l.length<1000000)(sl:SI h z l)(g:GC W0 h vc n O R G)(L:LN)(hL:cI O R n 0 (cG n)=L):
  Ev T 30 [vc,z] h (λv h'=> ∃K,IsK n G L K/\Fr h h'/\(64<K.length/\v= .tup [aB 0,aB 5]∨K.length<=64/\(5<l.length/\v= .tup [aB 0,aB 4]∨l.length<=5/\((∃x∈l,x<0∨(K.length:Int)<=x)/\v= .tup [aB 0,aB 2]∨ ∃l':List Nat,l=zi l'/\(∀i∈l',i<K.length)/\v= .tup [aB ((cntL G L K l').getD 0 0),aB 0])))):=by
 have F:=g
 obtain⟨Q,vR,rfl,sO,B⟩:=g.ch
 refine bH c_algebra_Count rfl rfl ?_
 have y:Q.one=true:=tH sO
 have e:vR.one=true:=sT B
 have n7:=g.n7
 have hG:=g.grp
 obtain⟨Ee,B⟩:=eJ g.grp g.isc
 have a0:=szF_fact g
 rw[hL] at Ee B
 have o:=sl.lens
 obtain⟨B,hB⟩:=IP h.next
 obtain⟨h1,e1,B,g1,B,f1⟩:=dL hB [aB n,Q,vR]
 have bx:=bF h (v:= aB n) (u:=Q) (w:=vR) rfl y e
 simp(disch:=omega)only[go_sem,c_algebra_Count,aF,bx,hB,e1,aS g1]
 refine (load_ok _ n O R G h1 (F.mono f1) L hL).mono ?_
 rintro _ J ⟨K,j,f2,⟨a,rfl⟩|⟨a,D,rfl,W⟩⟩
 ·obtain⟨E,t⟩:=IP J.next
  obtain⟨h3,e3,n3,U,o3,f3⟩:=dL t [.nilp]
  have P:=λc=>bE (vs:= [V.nilp]) (off:=0) (by simp) c E .nilp
  simp(disch:=omega)only[go_sem,t,e3,fZ (show V.nilp.cells= [V.nilp] from rfl) rfl,U,P]
  refine bB (λ_=>?_) (λm=>(m (by decide)).elim)
  simp(disch:=omega)only[go_sem]
  exact⟨K,j,((f1.trans f2).trans f3).set (by have:=f2.next;omega) _,.inl ⟨a,trivial⟩⟩
 obtain⟨E,t⟩:=IP J.next
 obtain⟨h3,e3,n3,U,o3,f3⟩:=dL t [.nilp]
 obtain⟨A,e,y,g4,o4⟩:=nP h3 E [.ptr D 0]
 have P:dS (some (.cells false [V.nilp])) h3 E 0 [.ptr D 0]=some A:=by rw[bE (by simp),←e];rfl
 have e:Fr J A:=⟨om,λq hq=>by rw[o4 q om,o3 q om]⟩
 have F4:=(f1.trans f2).trans e
 have s:CntE n G L K D E A:=⟨W.mono e,g4,om⟩
 simp(disch:=omega)only[go_sem,t,e3,fZ (show (V.ptr D 0).cells= [V.ptr D 0] from rfl) rfl,U,P]
 refine bB (λm=>(m rfl).elim) (λ_=>?_)
 by_cases t:(5:Int)<(l.length:Int)
 ·have e:=bV t
  simp(disch:=omega)only[go_sem,o,e]
  exact⟨K,j,F4,.inr ⟨a,.inl ⟨om,trivial⟩⟩⟩
 have e:=bM t
 simp(disch:=omega)only[go_sem,o,e]
 refine (contains_gen 62 [.ptr E 0] z l A (λx=>decide (x<0∨(K.length:Int)<=x)) ll (sl.mono F4) (λi hi c f=>count1_ok D E _ n G L K c a (s.mono f))).mono ?_
 rintro _ p ⟨rfl,f5⟩
 have F5:=F4.trans f5
 cases hany:l.any (λx=>decide (x<0∨(K.length:Int)<=x)) with
 |true=>
  simp(disch:=omega)only[go_sem];obtain⟨x,o,e⟩:=List.any_eq_true.1 hany;exact⟨K,j,F5,.inr ⟨a,.inr ⟨om,.inl ⟨⟨x,o,by simpa using e⟩,trivial⟩⟩⟩⟩
 |false=>
  have e: ∀x∈l,0<=x/\x<(K.length:Int):=λx o=>by
   have:=List.any_eq_false.1 hany x o;simp only[Cr] at this;omega
  obtain⟨l',b⟩: ∃l':List Nat,l=zi l':=⟨l.map Int.toNat,by
   unfold zi;rw[List.map_map];refine (List.map_id' l).symm.trans (zD λx o=>?_);have:=e x o
   show x=((x.toNat:Nat):Int)
   omega⟩
  have r: ∀i∈l',i<K.length:=λi hi=>by
   have:=e (i:Int) (by rw[b];exact pU.2 ⟨i,hi,rfl⟩);omega
  have Y:=s.mono f5;obtain⟨Z,hZ⟩:=IP p.next;obtain⟨e,e6,o,g6,o6,o⟩:=dL hZ [.nilf];obtain⟨h7,o,s,g7,o7⟩:=nP e Z [.fn 63 [] [.ptr E 0]];have N:dS (some (.cells false [V.nilf])) e Z 0 [.fn 63 [] [.ptr E 0]]=some h7:=by rw[bE (by simp),←o];rfl
  have e:Fr p h7:=⟨om,λq hq=>by rw[o7 q om,o6 q om]⟩
  have k:=Y.mono e;have F7:=F5.trans e;have Kpos:0<K.length:=(K_first hG Ee j).1;simp(disch:=omega)only[go_sem,hZ,e6,fZ (show (V.fn 63 [] [.ptr E 0]).cells= [V.fn 63 [] [.ptr E 0]] from rfl) rfl,g6,N,H.aG g7];refine (count2_ok D E 0 n G L K h7 a k Kpos).mono ?_;rintro s e ⟨y,o⟩;have p:=k.mono o;have t:e.get Z=some (.cells false [.fn 63 [] [.ptr E 0]]):=by rw[o.get Z om];exact g7
  have q:=F7.trans o;simp(disch:=omega)only[go_sem];refine (fold_gen 65 [.ptr E 0,.ptr Z 0] z s l e ll (λi v c=>SI c v (cntL G L K (l'.take i))/\Fr e c) (λi v c s=>sl.mono (q.trans s.2)) ⟨?_,Fr.refl _⟩ ?_).mono ?_
  ·exact y.si
  ·rintro i v c hi ⟨sv,f⟩
   have e:i<l'.length:=by rw[b,aQ] at hi;exact hi
   have s:l.getD i 0=((l'.getD i 0:Nat):Int):=by rw[b];exact gd_map (λk:Nat=>(k:Int)) (d:=0) e
   rw[s]
   have k:5040^i*5040<=4000000000000000000:=by
    have:i<=4:=om
    exact jC (Nat.mul_le_mul_right _ (Nat.pow_le_pow_right (by decide) this)) (by decide)
   refine (count3_ok D E Z (l'.getD i 0) v _ n G L K (cntL G L K (l'.take i)) (5040^i) c n7 hG Ee j om a (p.mono f) (r _ (getD_mem e)) (by rw[f.get Z (by have:=o.next;omega)];exact t) (by have:=o.next;have:=f.next;omega) (cntL_b G L K l' om i om) k (cntL_len G L K l' i om) sv).mono ?_;rintro c h' ⟨c,k⟩;refine⟨?_,f.trans k⟩;rw[cntL_take G L K l' e];exact c.si
  ·rintro v f ⟨sv,k⟩
   have el:l.length=l'.length:=by rw[b,aQ]
   rw[el,List.take_length] at sv;obtain⟨id,off,e,c,m⟩:=sv.open;have o:(cntL G L K l').length=K.length:=by have:=cntL_len G L K l' l'.length (fH _);rwa [List.take_length] at this
   rw[o] at e c m;have c:f.cell id off=some (aB ((cntL G L K l').getD 0 0)):=m 0 Kpos;simp(disch:=omega)only[go_sem,e.ixa,c];exact⟨K,j,q.trans k,.inr ⟨a,.inr ⟨om,.inr ⟨l',b,r,rfl⟩⟩⟩⟩
theorem zp_neg {n:Nat}{x:List Nat}(X:bT n x):zp n x (-1)=dH x:=by
 have a:=nI X
 have e:zp n x (-1)=pw n x (dW x n- 1):=zp_eq X (by
  rw[show ((dW x n- 1:Nat):Int)= -1+(dW x n:Nat)*1 by omega,Int.add_mul_emod_self_left])
 rw[e];refine uX (iB X _) X.inv X ?_;rw[gI X];have:bD (pw n x (dW x n- 1)) x=pw n x (dW x n- 1+1):=rfl;rw[this,Nat.sub_add_cancel a,(kL X _).1 (Nat.dvd_refl _)]
section
variable {n:Nat} {G:List Nat->Prop} {L:LN} {K:List Nat} (hG:mD n G) (E:eQ G L) (ik:IsK n G L K)
include hG E ik
end
set_option maxHeartbeats 64000000
theorem rroots_bad (j m:V)(d:Int)(O:List (List Int))(R:List (List (List Int)))(h:H)(l:ChI h j d O R)(r:d<=7∨64<d)(s:SmallO O)(sr:SmallR R)(g:chkE d O R≠0):
  Ev T 13 [j,m] h (λv h'=>v= .tup [.aD,aB (chkE d O R)]/\Fr h h'):=by
 have f:=l
 obtain⟨e,c,rfl,B,p⟩:=l
 refine bH c_ref27_Roots rfl rfl ?_
 have b:e.one=true:=tH B
 have a:c.one=true:=sT p
 obtain⟨B,i⟩:=IP h.next
 obtain⟨x,q,p,n,p,k⟩:=dL i [aB d,e,c]
 have A:=bF h (v:= aB d) (u:=e) (w:=c) rfl b a
 simp(disch:=omega)only[go_sem,c_ref27_Roots,aF,A,i,q,aS n]
 refine (rof27_bad _ d O R x (f.mono k) r s sr g).mono ?_
 rintro _ o ⟨rfl,f⟩
 obtain⟨P,a⟩:=IP o.next
 obtain⟨b,e,c,z,n,c⟩:=dL a [.aD,.aD,.aD]
 obtain⟨c,t,i,i,i⟩:=nP b P [.aD,.aD,.aD]
 have F:Fr h c:=(k.trans f).trans ⟨om,λq c=>by rw[i q om,n q om]⟩
 have y:=bV g
 simp(disch:=omega)only[go_sem,a,e,dO b P 0 (v:= .aD) (u:= .aD) (w:= .aD) rfl rfl rfl,z,dD,t,y]
 exact F
theorem rroots_ok {W0:Nat->Prop}(vc:V)(z:Int)(n:Nat)(O:LN)(R:jL)(G:List Nat->Prop)(h:H)(hz: -9223372036854775808<=z/\z<9223372036854775808)(o:GC W0 h vc n O R G)(L:LN)(hL:cI O R n 0 (cG n)=L):
  Ev T 13 [vc,aB z] h (λv h'=> ∃K,IsK n G L K/\Fr h h'/\(64<K.length/\v= .tup [.aD,aB 5]∨K.length<=64/\(∃vl,v= .tup [vl,aB 0]/\SI h' vl (zi ((List.range K.length).map (rtK n L K z)))))):=by
 have b4:=o
 obtain⟨vO,vR,rfl,B,sR⟩:=o.ch
 refine bH c_ref27_Roots rfl rfl ?_
 have b3:vO.one=true:=tH B
 have a6:vR.one=true:=sT sR
 have B:=o.n7
 have n0:=o.n0
 have hG:=o.grp
 obtain⟨E,ll⟩:=eJ o.grp o.isc
 have B:=szF_fact o
 rw[hL] at E ll
 have B:L.length<=5040:=om
 obtain⟨B,hB⟩:=IP h.next
 obtain⟨h1,e1,B,g1,B,f1⟩:=dL hB [aB n,vO,vR]
 have bx:=bF h (v:= aB n) (u:=vO) (w:=vR) rfl b3 a6
 simp(disch:=omega)only[go_sem,c_ref27_Roots,aF,bx,hB,e1,aS g1]
 refine (rof27_ok _ n O R G h1 (b4.mono f1) L hL).mono ?_
 rintro _ h2 ⟨K,ik,f2,⟨i,rfl⟩|⟨i,vL,vC,vM,rfl,rg⟩⟩
 ·obtain⟨P,hP⟩:=IP h2.next
  obtain⟨h3,e3,n3,g3,o3,f3⟩:=dL hP [.aD,.aD,.aD]
  obtain⟨N,e4,n4,g4,o4⟩:=nP h3 P [.aD,.aD,.aD]
  have F:Fr h N:=(f1.trans f2).trans ⟨om,λq hq=>by rw[o4 q om,o3 q om]⟩
  simp(disch:=omega)only[go_sem,hP,e3,dO h3 P 0 (v:= .aD) (u:= .aD) (w:= .aD) rfl rfl rfl,g3,dD,e4]
  refine bB (λ_=>?_) (λB=>(B (by decide)).elim)
  simp(disch:=omega)only[go_sem]
  exact⟨K,ik,F,.inl ⟨i,trivial⟩⟩
 obtain⟨oL,F,oM⟩:=rg.one
 obtain⟨P,hP⟩:=IP h2.next
 obtain⟨h3,e3,n3,g3,o3,f3⟩:=dL hP [.aD,.aD,.aD]
 obtain⟨N,e4,n4,g4,o4⟩:=nP h3 P [vL,vC,vM]
 have a1:Fr h2 N:=⟨om,λq hq=>by rw[o4 q om,o3 q om]⟩
 have F4:=(f1.trans f2).trans a1
 simp(disch:=omega)only[go_sem,hP,e3,dO h3 P 0 (v:=vL) (u:=vC) (w:=vM) oL F oM,g3,dD,e4]
 refine bB (λB=>(B rfl).elim) (λ_=>?_)
 have rg:=rg.fr a1
 obtain⟨a7,B,b5,a3,a8,cC⟩:=rg.cls om
 obtain⟨k0,_⟩:=K_first hG E ik
 have gP: ∀d,Fr N d->d.get P=some (.cells false [vL,vC,vM]):=λd f=>by rw[f.get P om];exact g4
 obtain⟨A,B,b9,a9,ws,a5,cL⟩:=sp_open rg.sL
 obtain⟨r,a2⟩:=IP K.length
 obtain⟨J,a4⟩: ∃m,L.length=m:=⟨_,rfl⟩
 rw[a2] at a7 a8 cC k0 i
 rw[a4] at A a5 cL
 obtain⟨S,i⟩:=IP N.next
 obtain⟨h6,B,F,g6,F,F⟩:=dL i (rc r λ_=> aB 0)
 have FH: ∀d,Fx (· =S) h6 d->Fr N d:=λd f=>⟨by have:=f.next;omega,λq hq=>by rw[f.get q om (by show q≠S;omega)];exact F.get q hq⟩
 simp(disch:=omega)only[go_sem,H.aG g4,a7,mks_zeros N r om,i,B]
 refine aH (λZ b d=> ∃(t:Nat),(∃g:Nat->V,b= [g 0,aB z,g 2,g 3,g 4,.ptr P 0,g 6,.sl S 0 r (.kn r),aB t,g 9,g 10,g 11,g 12,g 13,g 14])/\t<=J/\d.get S=some (.cells false (rc r λk=> aB ((rtA n L z t (L.getD (K.getD k 0) []):Nat):Int)))/\Fx (· =S) h6 d/\Z=J-t) J
  ⟨0,aA rfl,eY _,g6,Fx.refl _ _,rfl⟩ ?_
 rintro Z b l ⟨t,⟨g,rfl⟩,f,gS,Fa,rfl⟩
 have f:=Fa.next
 have j:=FH l Fa
 by_cases b0:(t:Int)<(J:Int)
 case neg=>
  have d1:=bM b0;obtain rfl:t=J:=om
  simp(disch:=omega)only[go_sem,H.aG (gP l j),A,d1];refine⟨K,ik,F4.trans j,.inr ⟨om,_,rfl,?_⟩⟩
  have ro:RowO 0 r (λk=>((rtK n L K z k:Nat):Int)) l (.sl S 0 r (.kn r)):=⟨S,rfl,eY _,om,by
   rw[gS];congr 2
   exact aX λk _=>by unfold rtK;rw[a4]⟩
  have s:=ro.si;rw[a2]
  have e:(List.range r).map (λi=>((rtK n L K z i:Nat):Int))=zi ((List.range r).map (rtK n L K z)):=by
   unfold zi;rw[List.map_map];rfl
  rwa [e] at s
 have d1:=bV b0
 have f:t<J:=om
 obtain⟨bl,cx,sx⟩:=cL t f
 have f:t<L.length:=om
 have X:=el_isP hG E f
 generalize ws.getD t V.undef=i at cx sx
 have f:l.cell b9 (a9+t)=some i:=by rw[j.cell bl];exact cx
 simp(disch:=omega)only[go_sem,H.aG (gP l j),A,d1,a5.ixa,f]
 refine (rpow_ok i z n _ l n0 om X (sx.mono j)).mono ?_
 rintro _ h7 ⟨w,rfl,⟨sw,ow⟩,f⟩
 have i:=f.next
 have Y:=iB X (z%(dW (L.getD t []) n:Nat)).toNat
 have Y:bT n (zp n (L.getD t []) z):=iB X _
 have b8:h7.get S=some (.cells false (rc r λk=> aB ((rtA n L z t (L.getD (K.getD k 0) []):Nat):Int))):=by rw[f.get S om];exact gS
 have b6:Fx (· =S) h6 h7:=Fa.trans (Fx.of (W:=(· =S)) f) λ_ _ h=>h
 have b7:Ho (· =S) w:=by
  cases w with
  |sl id off m c=>exact λe=>by have:=ow _ _ _ _ rfl;omega
  |_=>trivial
 obtain⟨y,hy⟩:=IP (zp n (L.getD t []) z)
 rw[hy] at sw Y
 simp(disch:=omega)only[go_sem]
 refine aH (λZ b d=> ∃(k:Nat),(∃g:Nat->V,b= [g 0,aB z,g 2,g 3,g 4,.ptr P 0,g 6,.sl S 0 r (.kn r),aB t,w,aB k,g 11,g 12,g 13,g 14])/\k<=r/\d.get S=some (.cells false (rc r λa=> aB ((rtA n L z (if a<k then t+1 else t) (L.getD (K.getD a 0) []):Nat):Int)))/\Fx (· =S) h7 d/\Z=r-k) r
  ⟨0,aA rfl,eY _,b8,Fx.refl _ _,rfl⟩ ?_
 rintro Z b hb ⟨k,⟨g,rfl⟩,b,b1,Fb,rfl⟩
 have b:=Fb.next
 have b2:Fx (· =S) h6 hb:=b6.trans Fb λ_ _ h=>h
 have p:=FH hb b2
 by_cases a0:(k:Int)<(r:Int)
 case neg=>
  have d2:=bM a0;obtain rfl:k=r:=om
  simp(disch:=omega)only[go_sem,d2];rw[dX t];refine⟨J-(t+1),om,t+1,aA rfl,om,?_,b2,rfl⟩;rw[b1];congr 2;exact aX λa l=>by rw[aV l]
 have d2:=bV a0
 have x:k<r:=om
 obtain⟨g,b,i,_,f,sr⟩:=cC k x
 have f:K.getD k 0<L.length:=ik.lt (getD_mem om)
 have Z:=el_isP hG E f
 have f:hb.cell b5 (a3+k*3)=some b:=by rw[p.cell g];exact i
 simp(disch:=omega)only[go_sem,d2,H.aG (gP hb p),a8.ixa,f]
 refine (same_ok w b _ _ hb (SV.fx sw b7 Fb) (sr.mono p) (by rw[aQ,Y.len];omega) (by rw[aQ,Z.len];omega)).mono ?_
 rintro _ h8 ⟨rfl,b⟩
 have f:=b.next
 have Q:h8.get S=some (.cells false (rc r λa=> aB ((rtA n L z (if a<k then t+1 else t) (L.getD (K.getD a 0) []):Nat):Int))):=by rw[b.get S om];exact b1
 have U:Fx (· =S) h7 h8:=Fb.trans (Fx.of (W:=(· =S)) b) λ_ _ h=>h
 obtain⟨u,hu⟩:=IP (rtA n L z t (L.getD (K.getD k 0) []))
 have b:u<=t:=by rw[←hu];exact rtA_le ..
 have b:h8.cell S k=some (aB u):=by rw[H.aG Q,iP x,aZ om,hu]
 by_cases he:y=L.getD (K.getD k 0) []
 ·rw[bV (show zi y=zi (L.getD (K.getD k 0) []) by rw[he])]
  have pS:=λd=>bE (vs:=rc r λa=> aB ((rtA n L z (if a<k then t+1 else t) (L.getD (K.getD a 0) []):Nat):Int)) (off:=k) (by rw[cK];exact x) d S (aB (u+1:Nat))
  simp(disch:=omega)only[go_sem,b,show (u:Int)+1=((u+1:Nat):Int) from rfl,Q,pS]
  rw[dX k]
  refine⟨r-(k+1),om,k+1,aA rfl,om,?_,U.trans (Fx.set _ (W:=(· =S)) rfl _) (λ_ _ h=>h),rfl⟩
  rw[eG]
  congr 2
  refine aX λa l=>?_
  by_cases e:a=k
  ·rw[aV e,aV om,e,rtA_succ,hy,aV he,hu]
  ·rw[aZ e]
   by_cases e2:a<k
   ·rw[aV e2,aV om]
   ·rw[aZ e2,aZ om]
 ·rw[bM (show ¬zi y=zi (L.getD (K.getD k 0) []) from λe=>he (zi_inj e))]
  simp(disch:=omega)only[go_sem]
  rw[dX k]
  refine⟨r-(k+1),om,k+1,aA rfl,om,?_,U,rfl⟩
  rw[Q]
  congr 2
  refine aX λa l=>?_
  by_cases e:a=k
  ·rw[aZ om,aV om,e,rtA_succ,hy,aZ he];rfl
  ·by_cases e2:a<k
   ·rw[aV e2,aV om]
   ·rw[aZ e2,aZ om]
theorem rcomm_bad (j:V)(d:Int)(O:List (List Int))(R:List (List (List Int)))(h:H)(l:ChI h j d O R)(p:d<=7∨64<d)(r:SmallO O)(sr:SmallR R)(g:chkE d O R≠0):
  Ev T 15 [j] h (λv h'=>v= .tup [.aD,aB (chkE d O R)]/\Fr h h'):=by
 have f:=l
 obtain⟨e,c,rfl,A,o⟩:=l
 refine bH c_ref27_Commutators rfl rfl ?_
 have b:e.one=true:=tH A
 have a:c.one=true:=sT o
 obtain⟨B,i⟩:=IP h.next
 obtain⟨t,q,o,m,o,k⟩:=dL i [aB d,e,c]
 have z:=bF h (v:= aB d) (u:=e) (w:=c) rfl b a
 simp(disch:=omega)only[go_sem,c_ref27_Commutators,aF,z,i,q,aS m]
 refine (rof27_bad _ d O R t (f.mono k) p r sr g).mono ?_
 rintro _ n ⟨rfl,f⟩
 obtain⟨P,a⟩:=IP n.next
 obtain⟨b,e,c,y,m,c⟩:=dL a [.aD,.aD,.aD]
 obtain⟨c,s,i,i,i⟩:=nP b P [.aD,.aD,.aD]
 have F:Fr h c:=(k.trans f).trans ⟨om,λq c=>by rw[i q om,m q om]⟩
 have x:=bV g
 simp(disch:=omega)only[go_sem,a,e,dO b P 0 (v:= .aD) (u:= .aD) (w:= .aD) rfl rfl rfl,y,dD,s,x]
 exact F
theorem rcomm_ok {W0:Nat->Prop}(vc:V)(n:Nat)(O:LN)(R:jL)(G:List Nat->Prop)(h:H)(z:GC W0 h vc n O R G)(L:LN)(hL:cI O R n 0 (cG n)=L):
  Ev T 15 [vc] h (λv h'=> ∃K,IsK n G L K/\Fr h h'/\(64<K.length/\v= .tup [.aD,aB 5]∨K.length<=64/\(∃vl,v= .tup [vl,aB 0]/\SI h' vl (zi ((List.range K.length).map λk=>comS G L K k K.length))))):=by
 have b7:=z
 obtain⟨vO,vR,rfl,B,sR⟩:=z.ch
 refine bH c_ref27_Commutators rfl rfl ?_
 have b6:vO.one=true:=tH B
 have a9:vR.one=true:=sT sR
 have n7:=z.n7
 have n0:=z.n0
 have hG:=z.grp
 obtain⟨E,ll⟩:=eJ z.grp z.isc
 have B:=szF_fact z
 rw[hL] at E ll
 have hl:L.length<=5040:=om
 obtain⟨B,hB⟩:=IP h.next
 obtain⟨h1,e1,B,g1,B,f1⟩:=dL hB [aB n,vO,vR]
 have bx:=bF h (v:= aB n) (u:=vO) (w:=vR) rfl b6 a9
 simp(disch:=omega)only[go_sem,c_ref27_Commutators,aF,bx,hB,e1,aS g1]
 refine (rof27_ok _ n O R G h1 (b7.mono f1) L hL).mono ?_
 rintro _ h2 ⟨K,ik,f2,⟨N,rfl⟩|⟨N,vL,vC,vM,rfl,A⟩⟩
 ·obtain⟨P,hP⟩:=IP h2.next
  obtain⟨h3,e3,n3,g3,o3,f3⟩:=dL hP [.aD,.aD,.aD]
  obtain⟨J,e4,n4,g4,o4⟩:=nP h3 P [.aD,.aD,.aD]
  have F:Fr h J:=(f1.trans f2).trans ⟨om,λq hq=>by rw[o4 q om,o3 q om]⟩
  simp(disch:=omega)only[go_sem,hP,e3,dO h3 P 0 (v:= .aD) (u:= .aD) (w:= .aD) rfl rfl rfl,g3,dD,e4]
  refine bB (λ_=>?_) (λhc=>(hc (by decide)).elim)
  simp(disch:=omega)only[go_sem]
  exact⟨K,ik,F,.inl ⟨N,trivial⟩⟩
 obtain⟨oL,B,F⟩:=A.one
 obtain⟨P,hP⟩:=IP h2.next
 obtain⟨h3,e3,n3,g3,o3,f3⟩:=dL hP [.aD,.aD,.aD]
 obtain⟨J,e4,n4,g4,o4⟩:=nP h3 P [vL,vC,vM]
 have Z:Fr h2 J:=⟨om,λq hq=>by rw[o4 q om,o3 q om]⟩
 have F4:=(f1.trans f2).trans Z
 simp(disch:=omega)only[go_sem,hP,e3,dO h3 P 0 (v:=vL) (u:=vC) (w:=vM) oL B F,g3,dD,e4]
 refine bB (λhc=>(hc rfl).elim) (λ_=>?_)
 have A:=A.fr Z
 obtain⟨t,eC,c1,a7,b0,cC⟩:=A.cls om
 obtain⟨k0,_⟩:=K_first hG E ik
 have gP: ∀b,Fr J b->b.get P=some (.cells false [vL,vC,vM]):=λb f=>by rw[f.get P om];exact g4
 obtain⟨a8,eL,B,B,B,c5,cL⟩:=sp_open A.sL
 obtain⟨r,U⟩:=IP K.length
 obtain⟨m0,Y⟩: ∃m,L.length=m:=⟨_,rfl⟩
 rw[U] at t b0 cC k0 N
 rw[Y] at a8 c5 cL
 obtain⟨S,B⟩:=IP J.next
 obtain⟨h6,F,N,g6,N,N⟩:=dL B (rc r λ_=> aB 0)
 have FH: ∀b,Fx (· =S) h6 b->Fr J b:=λb f=>⟨by have:=f.next;omega,λq hq=>by rw[f.get q om (by show q≠S;omega)];exact N.get q hq⟩
 have q:=eC
 simp(disch:=omega)only[go_sem,H.aG g4,t,mks_zeros J r om,B,F]
 refine aH (λk' d b=> ∃(i:Nat),(∃g:Nat->V,d= [g 0,g 1,g 2,g 3,.ptr P 0,g 5,.sl S 0 r (.kn r),aB i,g 8,g 9,g 10,g 11,g 12])/\i<=r/\b.get S=some (.cells false (rc r λk=> aB (comS G L K k i:Nat)))/\Fx (· =S) h6 b/\k'=r-i) r
  ⟨0,aA rfl,eY _,g6,Fx.refl _ _,rfl⟩ ?_
 rintro k' d l ⟨i,⟨g,rfl⟩,hi,gS,Fa,rfl⟩
 have q:=Fa.next
 have j:=FH l Fa
 by_cases b3:(i:Int)<(r:Int)
 case neg=>
  have d1:=bM b3;obtain rfl:i=r:=om
  simp(disch:=omega)only[go_sem,H.aG (gP l j),t,d1];refine⟨K,ik,F4.trans j,.inr ⟨om,_,rfl,?_⟩⟩
  have e:(rc i λk=>aB (comS G L K k i:Nat))=ints (zi ((List.range i).map λk=>comS G L K k i)):=by
   simp [rc,ints,zi,Function.comp_def]
  rw[e] at gS;rw[U];exact SV.all (by rw[aL,aQ,iK,zE,jY]) om gS _
 have d1:=bV b3
 have o:i<r:=om
 have Fab:Fr l (H.mk l.tr (l.next+6)):=(Fr.refl l).bL om
 have eM:=SV.dJ (show SV J vM 1 _ from A.sM)
 simp(disch:=omega)only[go_sem,H.aG (gP l j),t,d1,aS (gP l j)]
 refine (rgpower_ok vL vC vM i (-1) n G L K _ n0 n7 hG E ik hl om (A.fr (j.trans Fab)) om).mono ?_
 rintro _ h7 ⟨rfl,t⟩
 have q:=Fab.trans t
 have Q:K.getD i 0<L.length:=ik.lt (getD_mem om)
 have Z:=el_isP hG E Q
 have t:numC G L K (L.idxOf (zp n (L.getD (K.getD i 0) []) (-1)))=ivK G L K i:=by unfold ivK;rw[zp_neg Z]
 rw[t]
 simp(disch:=omega)only[go_sem,aS (gP h7 (j.trans q)),eL,eC,eM]
 refine (rconsts_ok vL vC vM (ivK G L K i) n G L K h7 n7 hG E ik hl om (A.fr (j.trans q))).mono ?_
 rintro vm hb ⟨⟨ρ,sm,c3,x⟩,j⟩
 rw[U] at sm x
 have t:=q.next
 have t:=j.next
 have c6:hb.get S=some (.cells false (rc r λk=> aB (comS G L K k i:Nat))):=by rw[j.get S om,q.get S om];exact gS
 have c7:Fx (· =S) h6 hb:=Fa.trans (Fx.of (W:=(· =S)) (q.trans j)) λ_ _ h=>h
 obtain⟨c8,a4,a6,j,j⟩:=sm.shape r (by rw[cK,jY]) om
 have b8:Ho (· =S) vm:=by
  cases vm with
  |sl id off m c=>exact λe=>by have:=c3 _ _ _ _ rfl;omega
  |_=>trivial
 have cQ: ∀b,Fx (· =S) hb b->b.cell c8 (a4+i)=some (.sl (ρ i) 0 r (.kn r)):=λb f=>by
  obtain⟨j,j,j,_,m⟩:=(sm.fx b8 f).shape r (by rw[cK,jY]) om;have e1:=a6.ixa .i64 (i:Int) om om;have e2:=j.ixa .i64 (i:Int) om om;rw[e1] at e2;simp only[Option.some.injEq,V.ptr.injEq,Cd,jY] at e2;obtain⟨f,j⟩:=e2;rw[f,j,m i (by rw[cK];exact o),iP o]
 have em:=sm.dJ
 obtain⟨f,rn,c4⟩:=x i o
 obtain⟨bC,f,f,cz,f,sr⟩:=cC i o
 obtain⟨c,hc⟩:=IP ((orbC G L (K.getD i 0)).length)
 rw[hc] at cz
 have f:0<c:=by rw[←hc];exact Py (orbC_mem.2 ⟨Q,cR_refl hG E Q⟩)
 have td:(m0:Int).tdiv (c:Int)=((m0/c:Nat):Int):=rfl
 have b4:m0/c<=5040:=jC (Nat.div_le_self _ _) om
 have f:m0/c<=L.length:=by rw[Y];exact Nat.div_le_self _ _
 obtain⟨dv,y⟩:=IP (m0/c)
 rw[y] at td b4 f
 have wr:IntKind.i64.wrap (dv:Int)=(dv:Int):=Gb om om
 have b9:L.length*L.length<=5040*5040:=Nat.mul_le_mul hl hl
 simp(disch:=omega)only[go_sem]
 refine aH (λk' d b=> ∃(k:Nat),(∃g:Nat->V,d= [g 0,g 1,g 2,g 3,.ptr P 0,g 5,.sl S 0 r (.kn r),aB i,vm,aB k,g 10,g 11,g 12])/\k<=r/\b.get S=some (.cells false (rc r λa=> aB (comS G L K a (if a<k then i+1 else i):Nat)))/\Fx (· =S) hb b/\k'=r-k) r
  ⟨0,aA rfl,eY _,c6,Fx.refl _ _,rfl⟩ ?_
 rintro k' d p ⟨k,⟨d,rfl⟩,d,a1,Fd,rfl⟩
 have nd:=Fd.next
 have b5:Fx (· =S) h6 p:=c7.trans Fd λ_ _ h=>h
 have a2:=FH p b5
 by_cases a3:(k:Int)<(r:Int)
 case neg=>
  have d3:=bM a3;obtain rfl:k=r:=om
  simp(disch:=omega)only[go_sem,d3];rw[dX i];refine⟨k-(i+1),om,i+1,aA rfl,om,?_,b5,rfl⟩;rw[a1];congr 2;exact aX λa l=>by rw[aV l]
 have d3:=bV a3
 have a0:k<r:=om
 have cR:p.cell (ρ i) k=some (aB (cstK G L K (ivK G L K i) i k:Nat)):=by
  rw[Fd.cell rn (by show ρ i≠S;omega),H.aG c4,iP a0]
 have cS:p.cell S k=some (aB (comS G L K k i:Nat)):=by
  rw[H.aG a1,iP a0,aZ om]
 have c9:p.cell c1 (a7+i*3+2)=some (aB c):=by rw[a2.cell bC];exact cz
 have d:=comS_le (G:=G) (L:=L) (K:=K) k i
 have c:i*(L.length*L.length)<=64*(5040*5040):=Nat.mul_le_mul om b9
 have b2:cstK G L K (ivK G L K i) i k*dv<=5040*5040:=Nat.mul_le_mul (jC (cstK_le ..) hl) b4
 have cs:comS G L K k (i+1)=comS G L K k i+cstK G L K (ivK G L K i) i k*dv:=by rw[comS,hc,Y,y]
 obtain⟨u,c⟩:=IP (cstK G L K (ivK G L K i) i k)
 rw[c] at cR b2 cs
 obtain⟨s,c⟩:=IP (comS G L K k i)
 rw[c] at cS d cs
 have a5:(u:Int)*(dv:Int)=((u*dv:Nat):Int):=rfl
 obtain⟨w2,hw⟩: ∃w,u*dv=w:=⟨_,rfl⟩
 rw[hw] at b2 cs a5
 have ea:(s:Int)+(w2:Int)=((s+w2:Nat):Int):=rfl
 have c:=λb=>bE (vs:=rc r λa=> aB (comS G L K a (if a<k then i+1 else i):Nat)) (off:=k) (by rw[cK];exact a0) b S (aB (s+w2:Nat))
 simp(disch:=omega)only[go_sem,d3,cS,a6.ixa,cQ p Fd,cR,H.aG (gP p a2),a8,b0.ixa,c9,td,wr,a5,ea,a1,c,em]
 rw[dX k]
 refine⟨r-(k+1),om,k+1,aA rfl,om,?_,?_,rfl⟩
 ·rw[eG]
  congr 2
  refine aX λa l=>?_
  by_cases e:a=k
  ·rw[aV e,aV om,e,cs]
  ·rw[aZ e]
   by_cases e2:a<k
   ·rw[aV e2,aV om]
   ·rw[aZ e2,aZ om]
 ·refine (Fd.trans (Fx.of (W:=(· =S)) ((Fr.refl p).bL (n:=p.next+27) om)) λ_ _ h=>h).trans ?_ (λ_ _ h=>h)
  exact Fx.set _ (W:=(· =S)) rfl _
set_option maxHeartbeats 64000000
section
variable {n i p:Nat} {G:List Nat->Prop} {o:List Nat} {r:LN}
structure ChP (n:Nat)(G:List Nat->Prop)(i p:Nat)(o:List Nat)(r:LN):Prop where
 asc:o.Pairwise (· < ·)
 mem: ∀q,q∈o↔q<p/\ ∃x,G x/\Fix i x/\x.getD i 0=q
 len:r.length=o.length
 rep: ∀t,t<o.length->yM n G i (o.getD t 0) (r.getD t [])
theorem ChP.start (n:Nat)(G:List Nat->Prop)(i:Nat):ChP n G i 0 [] []:=⟨.nil,λq=>by simp,rfl,λt h=>by cases h⟩
theorem ChP.skip (c:ChP n G i p o r)(h: ∀x,G x->Fix i x->x.getD i 0≠p):ChP n G i (p+1) o r:=
 ⟨c.asc,λq=>by
  rw[c.mem];constructor
  ·rintro⟨h1,a⟩;exact⟨om,a⟩
  ·rintro⟨h1,x,gx,fx,ex⟩
   refine⟨?_,x,gx,fx,ex⟩;rcases Nat.lt_or_ge q p with a|a
   ·exact a
   ·exact absurd om (h x gx fx),c.len,c.rep⟩
theorem ChP.step (c:ChP n G i p o r){x:List Nat}(d:yM n G i p x):ChP n G i (p+1) (o++ [p]) (r++ [x]):=by
 refine⟨List.pairwise_append.2 ⟨c.asc,List.pairwise_singleton _ _,λa k b j=>?_⟩,λq=>?_,by rw[jD,jD,c.len];rfl,λt g=>?_⟩
 ·rw[List.mem_singleton.1 j];exact ((c.mem a).1 k).1
 ·rw[sP,c.mem,List.mem_singleton]
  constructor
  ·rintro (⟨h,f⟩|rfl)
   ·exact⟨om,f⟩
   ·exact⟨om,x,d.mem,d.fix,d.maps⟩
  ·rintro⟨h,f⟩
   rcases Nat.lt_or_ge q p with a|a
   ·exact .inl ⟨a,f⟩
   ·exact .inr om
 ·by_cases e:t=o.length
  ·subst e
   have b:(o++ [p]).getD o.length 0=p:=by simp [List.getD]
   have a:(r++ [x]).getD o.length []=x:=by rw[←c.len];exact getD_app_new
   rw[b,a];exact d
  ·have a:t<o.length:=by rw[jD] at g;simp at g;omega
   have b:(o++ [p]).getD t 0=o.getD t 0:=by simp [List.getD,vY a]
   rw[b,getD_app_old (by rw[c.len];exact a)];exact c.rep t a
theorem ChP.le (c:ChP n G i p o r):o.length<=p:=by
 have nd:o.Nodup:=c.asc.imp λh=>om
 have:=List.Nodup.length_le_of_subset nd (l₂:=List.range p) λq a=>Ae.2 ((c.mem q).1 a).1
 rwa [zE] at this
theorem first_rep {A:LN}(E:eQ G A){k:Nat}(c:k<A.length)(d:Fix i (A.getD k []))(h2:(A.getD k []).getD i 0=p)(h3: ∀k',k'<k-> ¬((A.getD k' []).getD i 0=p/\Fix i (A.getD k' []))):yM n G i p (A.getD k []):=by
 refine⟨el_mem E c,d,h2,λy e f g=>?_⟩;obtain⟨m,b,j⟩:=vJ.1 ((E.mem y).2 e);have a:A.getD m []=y:=by rw[Cs,eX b];exact j
 rcases Nat.lt_trichotomy m k with h|h|h
 ·exact absurd ⟨by rw[a];exact g,by rw[a];exact f⟩ (h3 m h)
 ·subst h;rw[a];exact .inl rfl
 ·rw[←a]
  have:=Po.1 E.asc k m c b h;rw[Cs,eX c,Cs,eX b];exact .inr this
end
set_option maxHeartbeats 64000000
def Two (b:Nat)(vo vr:V)(q:Nat):Prop:=q<b∨BlkS vo q∨BlkS vr q
theorem chainOf_ok (vA:V)(n:Nat)(G:List Nat->Prop)(A:LN)(h:H)(h0:0<n)(hn:n<=7)(hG:mD n G)(E:eQ G A)(hA:A.length<=5040)(sA:SP h vA A):
  Ev T 19 [aB n,vA] h (λv h'=> ∃O R',ChW (λid=>id<h.next) h' v n O R'/\dU n G O R'/\Fr h h'):=by
 refine bH c_kit_ChainOf rfl rfl ?_
 obtain⟨c3,eA,d7,b4,wA,b1,cA⟩:=sp_open sA
 obtain⟨m,hm⟩:=IP A.length
 rw[hm] at c3 b1 cA
 obtain⟨B,hB⟩:=IP h.next
 have bl:kU [aB 0,.aD,.aD] [(0,1,aB n)]=some (.agg [aB n,.aD,.aD]):=by
  have e1:putAt [aB 0,.aD,.aD] 0 [aB n]=some [aB n,.aD,.aD]:=by simp [putAt]
  simp [kU,gG,e1,V.cells,V.one]
 obtain⟨ha,ea,na,ga,oa,fa⟩:=dL hB [aB 0,.aD,.aD]
 obtain⟨h1,e1,n1,g1,o1,i4⟩:=dL na [aB 0,.aD,.aD]
 obtain⟨l,e2,n2,g2,o2⟩:=nP h1 (B+1) [aB n,.aD,.aD]
 have f2:Fr h l:=⟨om,λq hq=>by rw[o2 q om,o1 q om,oa q om]⟩
 have f9:l.next=B+2:=om
 have c6:l.get B=some (.cells false [aB 0,.aD,.aD]):=by rw[o2 B om,o1 B om];exact ga
 simp(disch:=omega)only[go_sem,c_kit_ChainOf,aF,hB,ea,na,e1,bl,dO h1 (B+1) 0 (v:= aB n) (u:= .aD) (w:= .aD) rfl rfl rfl,g1,dD,e2]
 refine aH (λQ y f=> ∃(i:Nat) (W:Nat->Prop) (O:LN) (R':jL) (vO R:V) (d0 c5:List V),(∃g:Nat->V,y= [aB n,vA,.ptr B 0,.ptr (B+1) 0,aB i,g 5,g 6,g 7,g 8,g 9,g 10,g 11,g 12,g 13,g 14,g 15])/\i<=n/\CAcc h f (B+1) B W n O R' vO R d0 c5/\
   f.get B=some (.cells false [aB 0,.aD,.aD])/\O.length=i/\R'.length=i/\(∀j,j<i->ChP n G j n (O.getD j []) (R'.getD j []))/\Q=n-i) n
  ⟨0,_, [], [],_,_,_,_,aA rfl,eY _,CAcc.start om om om om om f2 g2,c6,rfl,rfl,λj U=>om,rfl⟩ ?_
 clear f2 g2 c6 n2 f9 o2 e2 g1 o1 e1 n1 i4 ga oa ea na fa
 rintro Q y l ⟨i,W,O,R',vO,R,d0,c5,⟨g,rfl⟩,hi,AC,gB,lO,lR,hC,rfl⟩
 by_cases d9:(i:Int)<(n:Int)
 case neg=>
  have e1:=bM d9;obtain rfl:i=n:=om
  have hr:=aS AC.get;have nB:=AC.fr.next;simp(disch:=omega)only[go_sem,e1,hr,dO l B 0 (v:= aB i) (u:=vO) (w:=R) rfl (SV.dC AC.oO.sv).2.1 (SV.dC AC.oR.sv).2.1,gB,dD];have f3:=aS (h:=l.set B (some (.cells false [aB i,vO,R]))) (H.aT ..);have fB:Fx (· =B) l (l.set B (some (.cells false [aB i,vO,R]))):=Fx.set l (W:=(· =B)) rfl _;simp(disch:=omega)only[go_sem,f3]
  obtain⟨h3,d1⟩: ∃h3,h3=l.set B (some (.cells false [aB i,vO,R])):=⟨_,rfl⟩
  rw[←d1] at fB ⊢;have A3:=AC.box d1;refine⟨O,R',by rw[←hB];exact A3.chw,⟨lO,lR,λj U=>(hC j U).asc,λj U p=>?_,λj U=>(hC j U).len,λj U=>(hC j U).rep⟩,A3.fr⟩;rw[(hC j U).mem];constructor
  ·exact λh=>h.2
  ·rintro⟨x,gx,fx,ex⟩
   exact⟨by rw[←ex];exact (hG.isP gx).dZ U,x,gx,fx,ex⟩
 have e1:=bV d9
 have i6:i<n:=om
 have c6:=sA.mono AC.fr
 simp(disch:=omega)only[go_sem,e1]
 obtain⟨h4,i3⟩:=IP l
 subst i3
 refine bW (λvs f=> ∃(F t:V) (q:List Nat) (r:LN),(∃g:Nat->V,vs= [aB n,vA,.ptr B 0,.ptr (B+1) 0,aB i,F,t,g 7,g 8,g 9,g 10,g 11,g 12,g 13,g 14,g 15])/\PV W f F q/\PL W f t r/\ChP n G i n q r/\Fr l f) ?_ ?_
 ·refine aH (λQ vs f=> ∃(p:Nat) (F t:V) (ws:List V) (q:List Nat) (r:LN),(∃g:Nat->V,vs= [aB n,vA,.ptr B 0,.ptr (B+1) 0,aB i,F,t,aB p,g 8,g 9,g 10,g 11,g 12,g 13,g 14,g 15])/\p<=n/\Own f F 1 (ints (zi q)) l.next/\Own f t 1 ws l.next/\PVs (Two l.next F t) f ws r/\(∀x,BlkS F x-> ¬BlkS t x)/\ChP n G i p q r/\Fr l f/\Q=n-p) n
   ⟨0,.aD,.aD, [], [], [],aA rfl,eY _,Own.aD _ _ _,Own.aD _ _ _,trivial,(λ_ ⟨_,_,_,e⟩=>by cases e),ChP.start n G i,Fr.refl _,rfl⟩ ?_
  rintro Q y J ⟨p,F,t,ws,q,r,⟨g,rfl⟩,hp,oo,ow,Y,dis,cp,f5,rfl⟩
  by_cases b6:(p:Int)<(n:Int)
  case neg=>
   have d2:=bM b6;obtain rfl:p=n:=om
   simp(disch:=omega)only[go_sem,d2];refine⟨F,t,q,r,aA rfl,⟨oo.sv,?_⟩,⟨ws,ow.sv,?_,Y.weak (λid _ h=> .inl (AC.wb id h)),Own.capOk ow⟩,cp,f5⟩
   ·cases F with
    |sl id s m c=>exact λh=>by have:=(oo.in _ _ _ _ rfl).2.1;have:=AC.wb id h;omega
    |_=>trivial
   ·cases t with
    |sl id s m c=>exact λh=>by have:=(ow.in _ _ _ _ rfl).2.1;have:=AC.wb id h;omega
    |_=>trivial
  have d2:=bV b6
  have b6:p<n:=om
  simp(disch:=omega)only[go_sem,d2]
  refine loop_end (λvs f=> ∃(F t:V) (ws:List V) (q:List Nat) (r:LN),(∃g:Nat->V,vs= [aB n,vA,.ptr B 0,.ptr (B+1) 0,aB i,F,t,aB p,g 8,g 9,g 10,g 11,g 12,g 13,g 14,g 15])/\Own f F 1 (ints (zi q)) l.next/\Own f t 1 ws l.next/\PVs (Two l.next F t) f ws r/\(∀x,BlkS F x-> ¬BlkS t x)/\ChP n G i (p+1) q r/\Fr l f) ?_ ?_
  ·refine aH (λQ vs f=> ∃(k:Nat),(∃g:Nat->V,vs= [aB n,vA,.ptr B 0,.ptr (B+1) 0,aB i,F,t,aB p,aB k,g 9,g 10,g 11,g 12,g 13,g 14,g 15])/\k<=m/\(∀Q,Q<k-> ¬((A.getD Q []).getD i 0=p/\Fix i (A.getD Q [])))/\Own f F 1 (ints (zi q)) l.next/\Own f t 1 ws l.next/\PVs (Two l.next F t) f ws r/\Fr l f/\Q=m-k) m
    ⟨0,aA rfl,eY _,λQ h=>om,oo,ow,Y,f5,rfl⟩ ?_
   clear oo ow Y f5
   rintro Q y h6 ⟨k,⟨g',rfl⟩,K,c4,oo,ow,Y,f6,rfl⟩
   by_cases c8:(k:Int)<(m:Int)
   case neg=>
    have d3:=bM c8;obtain rfl:k=m:=om
    simp(disch:=omega)only[go_sem,c3,d3];refine⟨F,t,ws,q,r,aA rfl,oo,ow,Y,dis,cp.skip λx gx fx ex=>?_,f6⟩;obtain⟨j,U,ej⟩:=vJ.1 ((E.mem x).2 gx);have b6:A.getD j []=x:=by rw[Cs,eX U];exact ej
    exact c4 j om ⟨by rw[b6];exact ex,by rw[b6];exact fx⟩
   have d3:=bV c8
   have b6:k<m:=om
   obtain⟨bA,c0,sx⟩:=cA k b6
   have F6:=AC.fr.trans f6
   generalize wA.getD k V.undef=vx at c0 sx
   have X:=el_isP hG E (show k<A.length by omega)
   obtain⟨x,hx⟩:=IP (A.getD k [])
   rw[hx] at sx X
   have cx:h6.cell d7 (b4+k)=some vx:=by rw[F6.cell bA];exact c0
   obtain⟨idx,c8,b9,b6,c6⟩:=(sx.mono F6).open
   have d8:(zi x).length=n:=by rw[aQ,X.len]
   rw[d8] at b9 b6 c6
   have c9: ∀j,j<n->h6.cell idx (c8+j)=some (aB (x.getD j 0:Nat)):=λj U=>by
    rw[c6 j U];congr 2;simp [zi,X.len,U]
   simp(disch:=omega)only[go_sem,c3,d3,b1.ixa,cx,b9.ixa,c9 i i6]
   refine bW (λvs f=>f=h6/\ ∃b:Bool,(∃g:Nat->V,vs= [aB n,vA,.ptr B 0,.ptr (B+1) 0,aB i,F,t,aB p,aB k,.bool b,g 10,g 11,g 12,g 13,g 14,g 15])/\(b=true↔x.getD i 0=p/\Fix i x)) ?_ ?_
   ·refine aH (λQ vs f=>f=h6/\ ∃(j:Nat) (b:Bool),(∃g:Nat->V,vs= [aB n,vA,.ptr B 0,.ptr (B+1) 0,aB i,F,t,aB p,aB k,.bool b,aB j,g 11,g 12,g 13,g 14,g 15])/\j<=i/\(b=true↔x.getD i 0=p/\Fix j x)/\Q=i-j) i
     ⟨rfl,0,_,aA rfl,eY _,by rw[Cr];exact⟨λh=>⟨om,λj U=>om⟩,λh=>by rw[h.1]⟩,rfl⟩ ?_
    rintro Q y f ⟨rfl,j,b,⟨g,rfl⟩,U,hb,rfl⟩
    cases b with
    |false=>
     simp(disch:=omega)only[go_sem,lW];refine⟨false,aA rfl,⟨λh=>(by cases h),λh=>?_⟩⟩;exact hb.2 ⟨h.1,λj' f7=>h.2 j' om⟩
    |true=>
     have a6:=hb.1 rfl
     by_cases e0:(j:Int)<(i:Int)
     ·have d4:=bV e0
      simp(disch:=omega)only[go_sem,d4,b1.ixa,cx,b9.ixa,c9 j om];rw[dX j];refine⟨i-(j+1),om,j+1,_,aA rfl,om,?_,rfl⟩;rw[Cr];constructor
      ·intro h
       refine⟨a6.1,λj' f7=>?_⟩
       by_cases e:j'=j
       ·subst e;omega
       ·exact a6.2 j' om
      ·intro h
       rw[h.2 j om]
     ·have d4:=bM e0
      obtain rfl:j=i:=om
      simp(disch:=omega)only[go_sem,d4];exact⟨true,aA rfl,hb⟩
   rintro y f ⟨rfl,b,⟨g,rfl⟩,hb⟩
   cases b with
   |false=>
    simp(disch:=omega)only[go_sem];rw[dX k];refine⟨m-(k+1),om,k+1,aA rfl,om,λQ b6 h=>?_,oo,ow,Y,f6,rfl⟩
    by_cases e:Q=k
    ·rw[e,hx] at h
     have:=hb.2 h;cases this
    ·exact c4 Q om h
   |true=>
    have a6:=hb.1 rfl;have e4:=first_rep (n:=n) E (show k<A.length by omega) (by rw[hx];exact a6.2) (by rw[hx];exact a6.1) c4;rw[hx] at e4;simp(disch:=omega)only[go_sem,b1.ixa,cx,bls_i1]
    obtain⟨hd,a5⟩: ∃hd:H,hd=H.mk ((H.mk f.tr (f.next+2)).new (Ob.cells false (ints [(p:Int)]))).tr (f.next+14):=⟨_,rfl⟩
    rw[←a5];obtain⟨Q,hQ⟩:=IP (f.next+2);rw[hQ] at a5 ⊢;have gd:hd.get Q=some (.cells false (ints [(p:Int)])):=by rw[a5];exact H.aN (H.mk f.tr Q) _
    have od: ∀k,k≠Q->hd.get k=f.get k:=λk K=>by rw[a5];exact H.bJ (H.mk f.tr Q) K _
    have nd:hd.next=f.next+14:=by rw[a5]
    have fd:Fr f hd:=⟨om,λk K=>od k om⟩
    have n6:=f6.next;have a5:=cp.le;have a5:=oo.fr fd;have g4:=ow.fr fd;have d6:=λid s m c (e:F=V.sl id s m c)=>oo.in id s m c e
    have a0:=λid s m c (e:t=V.sl id s m c)=>ow.in id s m c e
    obtain⟨h7,a7,p7⟩:=a5.push (bytes:=8) (SV.one (v:= aB p) (id:=Q) om gd (.kn 1)) (n:=q.length) (m:=1) (by rw[aL,aQ,jY]) rfl om om om;have n7:=p7.next;have b8: ∀k,k<f.next->dF F k->h7.get k=f.get k:=λk h1 l=>by rw[p7.old k om l,od k om]
    have e6: ∀k,k<l.next->dF F k:=λk K id s m c e e2=>by have:=d6 _ _ _ _ e;omega
    have F7:Fr l h7:=⟨om,λk K=>by rw[b8 k om (e6 k K)];exact f6.get k K⟩
    have Q:=AC.fr.trans F7;have a5:h7.cell d7 (b4+k)=some vx:=by rw[Q.cell bA];exact c0
    have a6:=sx.dJ;have f1:Own h7 t 1 ws l.next:=g4.mono om λid s m c e _ a8=>p7.old id om λg5 b7 m' c' e' e2=>dis id ⟨b7,m',c',by rw[e2];exact e'⟩ ⟨s,m,c,e⟩
    simp(disch:=omega)only[go_sem,a7,a5,a6];refine (own_ok vx (zi x) h7 (sx.mono Q) (by rw[d8];omega)).mono ?_;rintro N Z ⟨b0,f8,_⟩;have Q:=cell_one (show SI Z N (zi x) from b0.sv);have n8:=f8.next;simp(disch:=omega)only[go_sem,cJ _ (z:= .aD) Q.1 Q.2]
    obtain⟨he,a4⟩: ∃he:H,he=H.mk ((H.mk Z.tr (f.next+10)).new (Ob.cells false [N])).tr Z.next:=⟨_,rfl⟩
    rw[←a4];obtain⟨S,Q⟩:=IP (f.next+10);rw[Q] at a4 ⊢;have ge:he.get S=some (.cells false [N]):=by rw[a4];exact H.aN (H.mk Z.tr S) _
    have oe: ∀k,k≠S->he.get k=Z.get k:=λk K=>by rw[a4];exact H.bJ (H.mk Z.tr S) K _
    have ne:he.next=Z.next:=by rw[a4]
    have b5:=λid s m c (e:N=V.sl id s m c)=>b0.in id s m c e
    have Q:Own he t 1 ws l.next:=f1.mono om λid s m c e h1 a8=>by
     have:=(a0 _ _ _ _ e).1;rw[oe id om,f8.get id a8]
    have d5:=All2.length Y;obtain⟨h9,a9,p9⟩:=Q.push (bytes:=24) (SV.one (v:=N) (id:=S) om ge (.kn 1)) (n:=q.length) (m:=1) (by rw[d5,cp.len,jY]) rfl om om om;have n9:=p9.next;simp(disch:=omega)only[go_sem,a9];have c1: ∀{v:V} {k:Nat},¬BlkS v k->dF v k:=λK id s m c e e2=>K ⟨s,m,c,by rw[e2];exact e⟩
    have P: ∀k,k<f.next->dF F k->dF t k->h9.get k=f.get k:=λk h1 l h3=>by rw[p9.old k om h3,oe k om,f8.get k om,b8 k h1 l]
    have g0: ∀k,k<l.next->dF t k:=λk K id s m c e e2=>by have:=a0 _ _ _ _ e;omega
    have fx:Fx (Two l.next F t) f h9:=⟨om,λk h1 l=>P k h1 (c1 λh=>l (.inr (.inl h))) (c1 λh=>l (.inr (.inr h)))⟩
    have hw: ∀k,k<f.next->Two l.next (.sl hd.next 0 (q.length+1) (.un 1)) (.sl he.next 0 (q.length+1) (.un 1)) k->Two l.next F t k:=λk h1 l=>by
     rcases l with h|⟨_,_,_,e⟩|⟨_,_,_,e⟩
     ·exact .inl h
     ·cases e;omega
     ·cases e;omega
    have e9:PV (Two l.next (.sl hd.next 0 (q.length+1) (.un 1)) (.sl he.next 0 (q.length+1) (.un 1))) h9 N x:=by
     have Q:SI Z N (zi x):=b0.sv;refine⟨SV.fx (W:=λk=>k=S∨BlkS t k) Q ?_ ⟨om,λk h1 l=>by rw[p9.old k om (c1 λh=>l (.inr h)),oe k λe=>l (.inl e)]⟩,?_⟩
     ·cases N with
      |sl id s m c=>
       have h3:=b5 _ _ _ _ rfl;rintro (e|⟨_,_,_,e⟩)
       ·omega
       ·have:=a0 _ _ _ _ e;omega
      |_=>trivial
     ·cases N with
      |sl id s m c=>
       have h3:=b5 _ _ _ _ rfl;rintro (e|⟨_,_,_,e⟩|⟨_,_,_,e⟩)
       ·omega
       ·cases e;omega
       ·cases e;omega
      |_=>trivial
    have o7:=p7.own (b:=l.next) (by rw[aL,aQ,jY]) rfl om;have e7:ints (zi q)++ [aB p]=ints (zi (q++ [p])):=by rw[zi_snoc,jZ];rfl
    rw[e7] at o7;refine⟨_,_,ws++ [N],q++ [p],r++ [x],aA rfl,o7.mono om λid s m c e _ h1=>by cases e;rw[p9.old _ om (λid s m c e e2=>by have:=a0 _ _ _ _ e;omega),oe _ om,f8.get _ om],p9.own (by rw[d5,cp.len,jY]) rfl om,(PVs.go Y fx hw).append (PVs.one e9),λk ⟨_,_,_,e1⟩ ⟨_,_,_,e2⟩=>by have a:=(V.sl.inj e1).1;have b:=(V.sl.inj e2).1;omega,cp.step e4,⟨om,λk K=>by rw[P k om (e6 k K) (g0 k K)];exact f6.get k K⟩⟩
  rintro y h6 ⟨f0,g9,i1,q',r',⟨g',rfl⟩,g7,i7,e5,e3,g3,f6⟩
  simp(disch:=omega)only[go_sem]
  rw[dX p]
  exact⟨n-(p+1),om,p+1,f0,g9,i1,q',r',aA rfl,om,g7,i7,e5,e3,g3,f6,rfl⟩
 rintro y J ⟨F,t,q,r,⟨g,rfl⟩,e8,pl,f4,f5⟩
 have L:=AC.mono f5
 have wo:F.cells= [F]/\F.one=true:=e8.dQ
 have i5:J.get B=some (.cells false [aB 0,.aD,.aD]):=by rw[f5.get B (AC.wb B AC.d)];exact gB
 have cO:J.cell (B+1) 1=some vO:=by rw[H.aG L.get];rfl
 have cR:J.cell (B+1) 2=some R:=by rw[H.aG L.get];rfl
 obtain⟨ws,c2,p,g,y⟩:=pl
 have pl:PL W J t r:=⟨ws,c2,p,g,y⟩
 have g:=L.fr.next
 have c7:=L.wb _ L.c
 simp(disch:=omega)only[go_sem,cO,cR,cJ _ (z:= .aD) (v:=F) wo.1 wo.2]
 obtain⟨h6,b2⟩: ∃h6:H,h6=H.mk ((H.mk J.tr (J.next+3)).new (Ob.cells false [F])).tr (J.next+14):=⟨_,rfl⟩
 rw[←b2]
 have p:h6.get (J.next+3)=some (.cells false [F]):=by rw[b2];exact H.aN (H.mk J.tr (J.next+3)) _
 have n6:h6.next=J.next+14:=by rw[b2]
 have o6: ∀k,k≠J.next+3->h6.get k=J.get k:=λk K=>by rw[b2];exact H.bJ (H.mk J.tr (J.next+3)) (by simpa using K) _
 have f6:Fr J h6:=⟨om,λid a8=>o6 id om⟩
 have g:=All2.length L.aO
 have g:=All2.length L.aR
 obtain⟨h7,a7,p7⟩:=(L.oO.fr f6).push (bytes:=24) (SV.one om p (.kn 1)) (n:=i) (m:=1) om rfl om om om
 have n7:=p7.next
 have a2: ∀k,k<J.next->dF vO k->h7.get k=J.get k:=λk h1 l=>by rw[p7.old k om l,o6 k om]
 have i8:h7.cell (B+1) 2=some R:=by unfold H.cell;rw[a2 (B+1) c7 L.pO,L.get];rfl
 have eR:dJ R R=true:=L.oR.sv.dJ
 have g:t.cells= [t]/\t.one=true:=⟨(SV.dC c2).1,(SV.dC c2).2.1⟩
 simp(disch:=omega)only[go_sem,a7,i8,eR,cJ _ (z:= .aD) g.1 g.2]
 obtain⟨Z,b3⟩: ∃Z:H,Z=H.mk ((H.mk h7.tr (J.next+8)).new (Ob.cells false [t])).tr h7.next:=⟨_,rfl⟩
 rw[←b3]
 have p:Z.get (J.next+8)=some (.cells false [t]):=by rw[b3];exact H.aN (H.mk h7.tr (J.next+8)) _
 have n8:Z.next=h7.next:=by rw[b3]
 have o8: ∀k,k≠J.next+8->Z.get k=h7.get k:=λk K=>by rw[b3];exact H.bJ (H.mk h7.tr (J.next+8)) (by simpa using K) _
 have g:Own Z R 1 c5 h.next:=L.oR.mono om λid s m c e _ a8=>by
  rw[o8 id om,a2 id a8 (λg5 b7 y c' e' e2=>L.dis _ _ _ _ e' _ _ _ _ e e2.symm)]
 obtain⟨h9,a9,p9⟩:=g.push (bytes:=24) (SV.one om p (.kn 1)) (n:=i) (m:=1) om rfl om om om
 have n9:=p9.next
 have i0: ∀k,J.next<=k->dF R k:=λk K id s m c e e2=>by have:=(L.oR.in _ _ _ _ e).1;omega
 have P: ∀k,k<J.next->dF vO k->dF R k->h9.get k=J.get k:=λk h1 l h3=>by rw[p9.old k om h3,o8 k om,a2 k h1 l]
 have m:h9.get (B+1)=some (.cells false [aB n,vO,R]):=by rw[P _ c7 L.pO L.pR];exact L.get
 have g: ∀(f:H) (x:V),dS (some (.cells false [aB n,vO,R])) f (B+1) 1 [x]=some (f.set (B+1) (some (.cells false [aB n,x,R]))):=λf x=>bE (by simp) f _ x
 have c: ∀(f:H) (x y:V),dS (some (.cells false [aB n,x,R])) f (B+1) 2 [y]=some (f.set (B+1) (some (.cells false [aB n,x,y]))):=λf x y=>bE (by simp) f _ y
 simp(disch:=omega)only[go_sem,a9,m,g,c]
 rw[dX i]
 obtain⟨ha,hb⟩:h6.next=J.next+14/\Z.next=J.next+15:=⟨n6,om⟩
 rw[ha,hb]
 obtain⟨a3,a1⟩: ∃a3,a3=(h9.set (B+1) (some (.cells false [aB n,.sl (J.next+14) 0 (i+1) (.un 1),R]))).set (B+1) (some (.cells false [aB n,.sl (J.next+14) 0 (i+1) (.un 1),.sl (J.next+15) 0 (i+1) (.un 1)])):=⟨_,rfl⟩
 rw[←a1]
 have c: ∀k,k≠B+1->a3.get k=h9.get k:=λk K=>by rw[a1,H.aI _ K,H.aI _ K]
 have f:a3.next=J.next+16:=by rw[a1];show h9.next=_;omega
 have i2:=L.step (v4:=F) (v5:=t) (o:=q) (r:=r) (h6:=a3) (a:=J.next+14) (b:=J.next+15) (k1:=i+1) (k2:=i+1) e8 pl om om om om om om om (by rw[a1,H.aT])
  (by rw[c _ om,p9.old _ om (i0 _ om),o8 _ om,←ha];exact p7.get) (by rw[c _ om,←hb];exact p9.get) (λk h1 l h3 h4=>by rw[c k l];exact P k h1 h3 h4)
 refine⟨n-(i+1),om,i+1,_,_,_,_,_,_,_,aA rfl,om,i2,?_,by rw[jD,lO];rfl,by rw[jD,lR];rfl,λj U=>?_,rfl⟩
 ·rw[P B (L.wb B L.d) L.qO L.qR];exact i5
 ·by_cases e:j=i
  ·subst e
   have e1:(O++ [q]).getD j []=q:=by rw[←lO];exact getD_app_new
   have e2:(R'++ [r]).getD j []=r:=by rw[←lR];exact getD_app_new
   rw[e1,e2]
   exact f4
  ·rw[getD_app_old om,getD_app_old om]
   exact hC j om
def quB (L:LN)(K:List Nat)(a k:Nat):Nat:=numB L K (L.idxOf (bD (dH (L.getD a [])) (L.getD (K.getD k 0) [])))
def cstB (L:LN)(K:List Nat)(i j k:Nat):Nat:=((List.range L.length).filter λa=>decide (numB L K a=i/\quB L K a k=j)).length
def mlB (L:LN)(K:List Nat)(x y:List Int)(k:Nat):Int:=sm L.length λa=>x.getD (numB L K a) 0*y.getD (quB L K a k) 0
def cntC (L:LN)(K:List Nat)(l:List Nat):List Int:=l.foldl (λc i=>(List.range K.length).map (mlB L K (indL K.length i) c)) (indL K.length 0)
def zpB (n:Nat)(x:List Nat)(z:Int):List Nat:=pw n x (z%(ordB n x:Nat)).toNat
def rtB (n:Nat)(L:LN)(K:List Nat)(z:Int)(i:Nat):Nat:=((List.range L.length).filter λa=>decide (zpB n (L.getD a []) z=L.getD (K.getD i 0) [])).length
section
variable {n:Nat} {G:List Nat->Prop} {L:LN} {K:List Nat}
theorem quK_eqB (E:eQ G L)(a k:Nat):quK G L K a k=quB L K a k:=numC_eq E _
theorem cstK_eqB (E:eQ G L)(i j k:Nat):cstK G L K i j k=cstB L K i j k:=by
 unfold cstK cstA cstB;congr 2;funext a;rw[numC_eq E,quK_eqB E]
theorem mlF_eqB (E:eQ G L)(x y:List Int)(k:Nat):mlF G L K x y k=mlB L K x y k:=by
 unfold mlF mlB;exact pL λa _=>by rw[numC_eq E,quK_eqB E]
theorem cntL_eqB (E:eQ G L)(l:List Nat):cntL G L K l=cntC L K l:=by
 unfold cntL cntC;congr 1;funext c i;exact zD λk _=>mlF_eqB E _ _ k
theorem rtK_eqB (b:mD n G)(E:eQ G L)(c:n<=7)(z:Int)(i:Nat):rtK n L K z i=rtB n L K z i:=by
 unfold rtK rtA rtB;congr 1;refine List.filter_congr λa a=>?_
 unfold zp zpB;rw[ord_at b E c (Ae.1 a)]
end
def T3:LN:= [[1,2,0], [1,0,2]]
theorem T3_el:eQ (fA 3 (· ∈T3)) L3:=ElOk.isEl (ws:= [[], [0,1], [1], [0], [0,0], [1,0]]) (by decide+kernel)
theorem T3_P: ∀g∈T3,bT 3 g:=λg a=>permB_ok ((show ∀g∈T3,permB 3 g=true by decide+kernel) g a)
theorem el_most {G:List Nat->Prop}{L:LN}(E:eQ G L){A:LN}(nd:A.Nodup)(h: ∀x∈A,G x):A.length<=L.length:=List.Nodup.length_le_of_subset nd λx a=>(E.mem x).2 (h x a)
theorem three_ok (h:H):Ev T 34 [] h (λv h'=> ∃O R,GC (λid=>id<h.next) h' v 3 O R (fA 3 (· ∈T3))/\Fr h h'):=by
 refine bH c_law27_three rfl rfl ?_;obtain⟨B,l⟩:=IP h.next;obtain⟨q,P,k,F,Y,i⟩:=dL l [aB 0,.aD,.aD];obtain⟨g,Q,t,s2,i⟩:=mkI k [1,2,0];obtain⟨h3,U,s,Z,y⟩:=mkI t [1,0,2];obtain⟨m,A,o,z,o,o⟩:=dL s [.sl (B+1) 0 3 (.kn 3),.sl (B+1+1) 0 3 (.kn 3)];have e:=(i.trans y).trans o;have i:SP m (.sl (B+1+1+1) 0 2 (.kn 2)) T3:=SP.two (a:= [1,2,0]) (b:= [1,0,2]) (h:=h3) (s2.mono y) Z om o z _;simp(disch:=omega)only[go_sem,c_law27_three,aF,l,P,k,bls_i3,Q,t,U,s,bls_s2 _ (sl_cells ..) (sl_cells ..),A];refine (kelemN_ok 10 3 _ T3 m om om T3_P (by decide) (λA nd k=>jC (el_most T3_el nd k) (by decide)) i).mono ?_;rintro i c ⟨A,l,k,k,p⟩;simp(disch:=omega)only[go_sem];refine (chainOf_ok i 3 _ A c om om (fA.grp T3_P) l om k).mono ?_;rintro l f ⟨O,R,k,i,x⟩
 have j:GC (λid=>id<c.next) f l 3 O R (fA 3 (· ∈T3)):=⟨k,i,fA.grp T3_P,om,om⟩
 obtain⟨u,w,rfl,a,b,_,_⟩:=j.sl;have d:=(e.trans p).trans x;have i:=(e.trans p).next
 have e:=x.next;have g6:f.get B=some (.cells false [aB 0,.aD,.aD]):=by rw[d.get B om];exact F
 obtain⟨N,W,e,J,r⟩:=nP f B [aB (3:Nat),u,w];simp(disch:=omega)only[go_sem,dO f B 0 (v:= aB (3:Nat)) (u:=u) (w:=w) rfl a b,g6,dD,W,aS J];exact⟨O,R,j.go (⟨om,λid q g=>r id (by show id≠B;have: ¬id<c.next:=g;omega)⟩:Fx (λid=>id<c.next) f N) (λid q g=>by show id<c.next;omega),⟨om,λq a=>by rw[r q om,d.get q om,Y q om]⟩⟩
theorem four_ok (h:H):Ev T 35 [] h (λv h'=> ∃O R,GC (λid=>id<h.next) h' v 4 O R (fA 4 (· ∈C4))/\Fr h h'):=by
 refine bH c_law27_four rfl rfl ?_;obtain⟨B,l⟩:=IP h.next;obtain⟨q,N,k,y,W,o⟩:=dL l [aB 0,.aD,.aD];obtain⟨g,P,s,Z,Q⟩:=mkI k [1,2,3,0];obtain⟨m,A,o,x,o,o⟩:=dL s [.sl (B+1) 0 4 (.kn 4)];have e:=Q.trans o;have i:SP m (.sl (B+1+1) 0 1 (.kn 1)) C4:=SP.one' (a:= [1,2,3,0]) (h:=g) Z om o x _;simp(disch:=omega)only[go_sem,c_law27_four,aF,l,N,k,bls_i4,P,s,cJ _ (z:= .aD) (v:= .sl (B+1) 0 4 (.kn 4)) rfl rfl,A];refine (kelemN_ok 10 4 _ C4 m om om C4_P (by decide) (λA nd k=>jC (el_most L4_ok nd k) (by decide)) i).mono ?_;rintro i c ⟨A,l,k,k,p⟩;simp(disch:=omega)only[go_sem];refine (chainOf_ok i 4 _ A c om om (fA.grp C4_P) l om k).mono ?_;rintro l f ⟨O,R,k,i,t⟩
 have j:GC (λid=>id<c.next) f l 4 O R (fA 4 (· ∈C4)):=⟨k,i,fA.grp C4_P,om,om⟩
 obtain⟨u,w,rfl,a,b,_,_⟩:=j.sl;have d:=(e.trans p).trans t;have i:=(e.trans p).next
 have e:=t.next;have Y:f.get B=some (.cells false [aB 0,.aD,.aD]):=by rw[d.get B om];exact y
 obtain⟨J,U,e,F,r⟩:=nP f B [aB (4:Nat),u,w];simp(disch:=omega)only[go_sem,dO f B 0 (v:= aB (4:Nat)) (u:=u) (w:=w) rfl a b,Y,dD,U,aS F];exact⟨O,R,j.go (⟨om,λid q g=>r id (by show id≠B;have: ¬id<c.next:=g;omega)⟩:Fx (λid=>id<c.next) f J) (λid q g=>by show id<c.next;omega),⟨om,λq a=>by rw[r q om,d.get q om,W q om]⟩⟩
set_option maxHeartbeats 16000000
theorem is_ok (v w:V)(a b:List Int)(h:H)(c:SI h v a)(d:SI h w b)(f:a.length<1000000)(lb:b.length<1000000):
  Ev T 36 [v,aB 0,w] h (λv h'=>v= .bool (decide (a=b))/\Fr h h'):=by
 refine bH c_law27_is rfl rfl ?_
 simp(disch:=omega)only[go_sem,c_law27_is,aF,decide_true]
 refine (same_ok v w a b h c d f lb).mono ?_
 rintro _ e ⟨rfl,e⟩
 simp(disch:=omega)only[go_sem]
 exact e
theorem bls_r3 (h:H){v u w:V}(a:v.cells= [v]/\v.one=true)(b:u.cells= [u]/\u.one=true)(c:w.cells= [w]/\w.one=true):pF h 1 [.aD] 3 [(0,1,v),(1,1,u),(2,1,w)]=some (.sl h.next 0 3 (.kn 3),h.new (.cells false [v,u,w])):=by
 have e:dN [V.aD] 3= [.aD,.aD,.aD]:=rfl;simp [pF,gG,e,putAt,a.1,a.2,b.1,b.2,c.1,c.2]
theorem cst_val:(List.range 3).map (λj=>zi ((List.range 3).map (cstB L3 [0,1,3] 1 j)))= [[0,1,0], [3,0,3], [0,2,0]]:=by decide+kernel
theorem cnt_val:(cntC L3 [0,1,3] [1,1,2]).getD 0 0=6:=by decide+kernel
theorem rt_val:zi ((List.range 4).map (rtB 4 L4 [0,2,1,3] 2))= [2,2,0,0]:=by decide+kernel
theorem lives_ok (h:H):Ev T 10 [] h (λv h'=>v= .bool true/\Fr h h'):=by
 refine bH c_law27_lives rfl rfl ?_;simp(disch:=omega)only[go_sem,c_law27_lives,aF];refine (three_ok h).mono ?_;rintro vc a ⟨O,R,j,f1⟩;simp(disch:=omega)only[go_sem];refine (const_ok vc 1 3 O R _ a j L3 (j.el T3_el)).mono ?_;rintro w1 x ⟨K,k,W,d⟩;obtain rfl:K= [0,1,3]:=KOk.eq j.grp T3_el om K3_ok k
 obtain⟨b,rfl,sl⟩: ∃b,w1=V.tup [b,aB 0]/\SR x b (cstM (fA 3 (· ∈T3)) L3 [0,1,3] 1):=by
  rcases d with ⟨a,_⟩|⟨_,⟨a,_⟩|⟨i,b,e,_,rfl,s⟩⟩
  ·simp at a
  ·simp at a
  ·obtain rfl:i=1:=om
   exact⟨b,rfl,s⟩
 clear d
 have O:cstM (fA 3 (· ∈T3)) L3 [0,1,3] 1= [[0,1,0], [3,0,3], [0,2,0]]:=by
  rw[←cst_val];unfold cstM;exact zD λj _=>by congr 1;exact zD λk _=>cstK_eqB T3_el _ _ _
 rw[O] at sl;simp(disch:=omega)only[go_sem];refine (three_ok x).mono ?_;rintro u j ⟨O2,R2,g,U⟩;obtain⟨h4,e4,k,Z,m⟩:=mkI (h:=j) rfl [1,1,2];simp(disch:=omega)only[go_sem,bls_i3,e4];refine (cnt_ok u _ [1,1,2] 3 O2 R2 _ h4 (by decide) Z (g.mono m) L3 (g.el T3_el)).mono ?_;rintro w2 A ⟨K,p,B,d⟩;obtain rfl:K= [0,1,3]:=KOk.eq g.grp T3_el om K3_ok p
 obtain rfl:w2=V.tup [aB 6,aB 0]:=by
  rcases d with ⟨a,_⟩|⟨_,⟨a,_⟩|⟨_,⟨⟨x,hx,a⟩,_⟩|⟨l',e,_,rfl⟩⟩⟩
  ·simp at a
  ·simp at a
  ·simp only[List.length_cons,List.length_nil] at a
   simp only[Dk,List.not_mem_nil,or_false] at hx;omega
  ·have el:l'= [1,1,2]:=zi_inj (e.symm.trans (by decide))
   rw[el,cntL_eqB T3_el,cnt_val]
 clear d;simp(disch:=omega)only[go_sem];refine (four_ok A).mono ?_;rintro g p ⟨j,k,c,L⟩;simp(disch:=omega)only[go_sem];refine (roots_ok g 2 4 j k _ p om c L4 (c.el L4_ok)).mono ?_;rintro w3 r ⟨K,t,P,d⟩;obtain rfl:K= [0,2,1,3]:=KOk.eq c.grp L4_ok om K4_ok t
 obtain⟨vr,rfl,sr⟩: ∃b,w3=V.tup [b,aB 0]/\SI r b [2,2,0,0]:=by
  rcases d with ⟨a,_⟩|⟨_,b,rfl,s⟩
  ·simp at a
  ·refine⟨b,rfl,?_⟩
   have e:zi ((List.range [0,2,1,3].length).map (rtK 4 L4 [0,2,1,3] 2))= [2,2,0,0]:=by
    rw[←rt_val];congr 1;exact zD λi _=>rtK_eqB c.grp L4_ok om _ _
   rw[e] at s;exact s
 clear d;obtain⟨a,Y,n,z,fa⟩:=mkI (h:=r) rfl [0,1,0];obtain⟨a,d,c,J,N⟩:=mkI n [3,0,3];obtain⟨a,a,q,Q,w⟩:=mkI c [0,2,0];have o:=(((((f1.trans W).trans U).trans m).trans B).trans L).trans P;simp(disch:=omega)only[go_sem,decide_true,bls_i3,Y,n,d,c,a];obtain⟨A,a⟩:=IP r.next;rw[a] at n c q z J Q ⊢;obtain⟨y,ed,nd,gd,a,l⟩:=dL q [.sl A 0 3 (.kn 3),.sl (A+1) 0 3 (.kn 3),.sl (A+1+1) 0 3 (.kn 3)];have f:=((fa.trans N).trans w).trans l
 have sw:SR y (.sl (A+1+1+1) 0 3 (.kn 3)) [[0,1,0], [3,0,3], [0,2,0]]:=⟨_,SV.all (by rfl) om gd _,z.mono ((N.trans w).trans l),J.mono (w.trans l),Q.mono l,trivial⟩
 simp(disch:=omega)only[go_sem,bls_r3 _ (sl_cells ..) (sl_cells ..) (sl_cells ..),q,ed];refine (sameLists_ok b _ _ _ y (sl.mono ((((U.trans m).trans B).trans L).trans (P.trans f))) sw (by decide) (by decide) (by decide) (by decide)).mono ?_;rintro _ h8 ⟨rfl,F⟩;rw[bV rfl];obtain⟨he,ee,ne,se,G⟩:=mkI (h:=h8) rfl [2,2,0,0];simp(disch:=omega)only[go_sem,decide_true,bls_i4,ee];refine (is_ok vr _ _ _ he (sr.mono ((f.trans F).trans G)) se (by decide) (by decide)).mono ?_;rintro _ a ⟨rfl,f9⟩;rw[bV rfl];simp(disch:=omega)only[go_sem];exact (((o.trans f).trans F).trans G).trans f9
set_option maxRecDepth 100000
end Go.Proofs.YtapfcpkecmmagaaGreat
namespace Go.Proofs.YtapfcpkecmmagaaGreat
open Go Go.Ay
set_option maxRecDepth 100000
set_option maxRecDepth 100000
end Go.Proofs.YtapfcpkecmmagaaGreat
namespace Go.Proofs.YtapfcpkecmmagaaGreat
open Go Go.Ay Go.Pm
set_option maxRecDepth 100000
set_option maxRecDepth 100000
set_option maxHeartbeats 64000000
end Go.Proofs.YtapfcpkecmmagaaGreat
