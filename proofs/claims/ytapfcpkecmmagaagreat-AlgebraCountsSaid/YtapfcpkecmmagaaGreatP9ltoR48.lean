/- Texts of the claim. -/
import Derived.Test.YtapfcpkecmmagaaGreatP9atoR43
set_option maxHeartbeats 64000000
namespace Go.Proofs.YtapfcpkecmmagaaGreat
open Go Go.Ay Go.Pm
set_option maxRecDepth 100000
theorem gc_of {h:H}{k:V}{d:Int}{O:List (List Int)}{R:List (List (List Int))}(y:ChI h k d O R)(G:d<=7∨64<d)(e:chkE d O R=0):
  ∃(n:Nat) (O':LN) (R':jL),d=(n:Int)/\O=O'.map zi/\R=R'.map (List.map zi)/\GC (λ_=>False) h k n O' R' (Co n R'):=by
 unfold chkE at e
 split at e
 ·cases e
 ·split at e
  ·rename_i J u
   obtain⟨n,O',R',rfl,o,F,rfl,rfl,v⟩:=u
   obtain⟨A,z,rfl,B,p⟩:=y
   obtain⟨r,t,x⟩:=B
   obtain⟨m,q,j,w⟩:=p
   have b: ∀v:V,Ho (λ_=>False) v:=λv=>by cases v<;>first|exact id|trivial
   have all: ∀{f:List V} {l:LN},All2 (SI h) f (l.map zi)->PVs (λ_=>False) h f l:=λ{f l} a=>by
    have c:=All2.length a;rw[iK] at c
    refine All2.iC c λi hi g=>⟨?_,b _⟩
    have:=All2.get a i hi (by rw[iK];exact g);rwa [List.getElem_map] at this
   refine⟨n,O',R',rfl,rfl,rfl,⟨A,z,r,m,rfl,t,b _,all x,q,b _,?_⟩,v.2,v.grp,o,om⟩
   have c:=All2.length j
   rw[iK] at c
   refine All2.iC c λi hi g=>?_
   have:=All2.get j i hi (by rw[iK];exact g)
   rw[List.getElem_map] at this
   obtain⟨f,s,a⟩:=this
   exact⟨f,s,b _,all a,w _ (wT _)⟩
  ·cases e
structure Sml (d:Int)(O:List (List Int))(R:List (List (List Int))):Prop where
 deg:d<=6∨64<d
 lo:O.length<=12
 lr:R.length<=12
 ro: ∀i,i<O.length->(O.getD i []).length<=12
 rr: ∀i,i<R.length->(R.getD i []).length<=12/\ ∀k,k<(R.getD i []).length->((R.getD i []).getD k []).length<=12
theorem Sml.small {d:Int}{O:List (List Int)}{R:List (List (List Int))}(s:Sml d O R):SmallO O/\SmallR R:=
 ⟨⟨by have:=s.lo;omega,λi hi=>by have:=s.ro i hi;omega⟩,⟨by have:=s.lr;omega,λi hi=>by have:=(s.rr i hi).1;omega⟩⟩
structure Lrg (d:Int)(O:List (List Int))(R:List (List (List Int))):Prop where
 deg:d<=6
 so:SmallO O
 sr:SmallR R
theorem large_ok (vc:V)(d:Int)(O:List (List Int))(R:List (List (List Int)))(h:H)(hc:ChI h vc d O R):
  Ev T 11 [vc] h (λv h'=>(v= .bool true∨v= .bool false/\Lrg d O R)/\Fr h h'):=by
 obtain⟨vO,vR,rfl,sO,sR⟩:=hc
 refine bH c_law27_large rfl rfl ?_
 obtain⟨q,a2,_,W,a1,Q,J,x,cO⟩:=sr_open sO
 obtain⟨N,a2,_,y,a0,r,G,P,cR⟩:=srr_open sR
 obtain⟨B,L⟩:=IP h.next
 obtain⟨b,e1,n1,g1,o1,l⟩:=dL L [aB d,vO,vR]
 have c0: ∀c,Fr b c->c.cell B 0=some (aB d):=λc f=>by rw[f.cell om,H.aG g1];rfl
 have p: ∀c,Fr b c->c.cell B 1=some vO:=λc f=>by rw[f.cell om,H.aG g1];rfl
 have U: ∀c,Fr b c->c.cell B 2=some vR:=λc f=>by rw[f.cell om,H.aG g1];rfl
 have Z:=bF h (v:= aB d) (u:=vO) (w:=vR) rfl W y
 have f:=Fr.refl b
 by_cases W:6<d
 ·have y:=bV W
  simp(disch:=omega)only[go_sem,c_law27_large,aF,Z,L,e1,c0 b f,y,lW]
  exact⟨.inl trivial,l⟩
 have y:=bM W
 by_cases q1:(6:Int)<(O.length:Int)
 ·have W:=bV q1
  simp(disch:=omega)only[go_sem,c_law27_large,aF,Z,L,e1,c0 b f,p b f,q,y,W,lW]
  exact⟨.inl trivial,l⟩
 have W:=bM q1
 by_cases q4:(6:Int)<(R.length:Int)
 ·have y4:=bV q4
  simp(disch:=omega)only[go_sem,c_law27_large,aF,Z,L,e1,c0 b f,p b f,q,U b f,N,y,W,y4]
  exact⟨.inl trivial,l⟩
 have y4:=bM q4
 have a2:O.length<=6:=om
 have a2:R.length<=6:=om
 simp(disch:=omega)only[go_sem,c_law27_large,aF,Z,L,e1,c0 b f,p b f,q,U b f,N,y,W,y4]
 refine aH (λs a c=> ∃(i:Nat),(∃g:Nat->V,a= [g 0,.ptr B 0,g 2,aB i,g 4,g 5,g 6,g 7,g 8,g 9])/\i<=O.length/\(∀j,j<i->(O.getD j []).length<=6)/\Fr b c/\s=O.length-i) O.length
  ⟨0,aA rfl,eY _,λj A=>om,Fr.refl _,rfl⟩ ?_
 rintro s a Y ⟨i,⟨g,rfl⟩,hi,ho,F,rfl⟩
 by_cases K:(i:Int)<(O.length:Int)
 case pos=>
  have k:=bV K;obtain⟨i1,ci,si⟩:=cO i om;have n:Y.cell a1 (Q+i)=some (J.getD i V.undef):=by rw[(l.trans F).cell i1];exact ci
  have lo:=si.lens;generalize J.getD i V.undef=f at n lo
  by_cases z:(6:Int)<((O.getD i []).length:Int)
  ·have m:=bV z
   simp(disch:=omega)only[go_sem,p Y F,q,k,x.ixa,n,lo,m];exact⟨.inl trivial,l.trans F⟩
  ·have m:=bM z
   simp(disch:=omega)only[go_sem,p Y F,q,k,x.ixa,n,lo,m];rw[dX i]
   exact⟨O.length-(i+1),om,i+1,aA rfl,om,λj A=>by
    by_cases e:j=i
    ·subst e;omega
    ·exact ho j om,F,rfl⟩
 have k:=bM K
 simp(disch:=omega)only[go_sem,p Y F,q,k]
 refine aH (λs a c=> ∃(i:Nat),(∃g:Nat->V,a= [g 0,.ptr B 0,g 2,g 3,aB i,g 5,g 6,g 7,g 8,g 9])/\i<=R.length/\(∀j,j<i->(R.getD j []).length<=6)/\Fr b c/\s=R.length-i) R.length
  ⟨0,aA rfl,eY _,λj A=>om,F,rfl⟩ ?_
 clear F k
 rintro s a h3 ⟨t,⟨g,rfl⟩,a,hr,F,rfl⟩
 by_cases a:(t:Int)<(R.length:Int)
 case neg=>
  have k:=bM a;simp(disch:=omega)only[go_sem,U h3 F,N,k];exact⟨.inr ⟨om,⟨om,λj A=>by have:=ho j om;omega⟩,⟨om,λj A=>by have:=hr j om;omega⟩⟩,l.trans F⟩
 have k:=bV a
 obtain⟨i1,ci,si⟩:=cR t om
 have o:h3.cell a0 (r+t)=some (G.getD t V.undef):=by rw[(l.trans F).cell i1];exact ci
 generalize G.getD t V.undef=a at o si
 obtain⟨a,_⟩:=sr_open si
 by_cases z:(6:Int)<((R.getD t []).length:Int)
 ·have m:=bV z
  simp(disch:=omega)only[go_sem,U h3 F,N,k,P.ixa,o,a,m]
  exact⟨.inl trivial,l.trans F⟩
 have m:=bM z
 simp(disch:=omega)only[go_sem,U h3 F,N,k,P.ixa,o,a,m]
 rw[dX t]
 exact⟨R.length-(t+1),om,t+1,aA rfl,om,λj A=>by
  by_cases e:j=t
  ·subst e;omega
  ·exact hr j om,F,rfl⟩
theorem comm_bad (j:V)(d:Int)(O:List (List Int))(R:List (List (List Int)))(h:H)(l:ChI h j d O R)(p:d<=7∨64<d)(q:SmallO O)(sr:SmallR R)(k:chkE d O R≠0):
  Ev T 14 [j] h (λv h'=>v= .tup [.aD,aB (chkE d O R)]/\Fr h h'):=by
 have c:=l
 obtain⟨f,e,rfl,t,o⟩:=l
 refine bH c_algebra_Commutators rfl rfl ?_
 have a:f.one=true:=tH t
 have b:e.one=true:=sT o
 obtain⟨B,i⟩:=IP h.next
 obtain⟨m,s,o,n,o,g⟩:=dL i [aB d,f,e]
 have r:=bF h (v:= aB d) (u:=f) (w:=e) rfl a b
 simp(disch:=omega)only[go_sem,c_algebra_Commutators,aF,r,i,s,aS n]
 refine (load_bad _ d O R m (c.mono g) p q sr k).mono ?_
 rintro _ a ⟨rfl,b⟩
 have a:=bV k
 simp(disch:=omega)only[go_sem,a]
 exact g.trans b
section
variable {W0:Nat->Prop} {h:H} {vc:V} {O:LN} {R:jL}
end
def ovM (K:List Nat)(l:List Int):List Int:=if 64<K.length then [] else l
def ovE (K:List Nat):Int:=if 64<K.length then 5 else 0
theorem ov_see {K:List Nat}{l:List Int}{h':H}{v:V}(p:64<K.length/\v= .tup [.aD,aB 5]∨K.length<=64/\ ∃vl,v= .tup [vl,aB 0]/\SI h' vl l):
  ∃va,v= .tup [va,aB (ovE K)]/\SI h' va (ovM K l):=by
 unfold ovE ovM
 rcases p with ⟨a,rfl⟩|⟨a,vl,rfl,s⟩
 ·exact⟨_,by rw[aV a],by rw[aV a];exact SI.aD _⟩
 ·exact⟨_,by rw[aZ om],by rw[aZ om];exact s⟩
theorem ovM_len {K:List Nat}{l:List Int}(a:l.length=K.length):(ovM K l).length<=64:=by
 unfold ovM;split
 ·exact eY _
 ·omega
theorem counts_ok (vc:V)(z d:Int)(O:List (List Int))(R:List (List (List Int)))(h:H)(hz: -9223372036854775808<=z/\z<9223372036854775808)(hc:ChI h vc d O R):
  Ev T 3 [vc,aB z] h (λv h'=>v= .bool true/\Fr h h'):=by
 have a:=hc
 obtain⟨U,vR,rfl,sO,sR⟩:=hc
 refine bH c_law27_AlgebraCounts rfl rfl ?_
 have J:U.one=true:=tH sO
 have f:vR.one=true:=sT sR
 obtain⟨B,hB⟩:=IP h.next
 obtain⟨h1,e1,n1,g1,o1,b⟩:=dL hB [aB d,U,vR]
 have bx:=bF h (v:= aB d) (u:=U) (w:=vR) rfl J f
 have g: ∀f,Fr h1 f->f.row B 0 3=some [aB d,U,vR]:=λf f=>aS (by rw[f.get B om];exact g1)
 simp(disch:=omega)only[go_sem,c_law27_AlgebraCounts,aF,bx,hB,e1]
 refine (lives_ok h1).mono ?_
 rintro _ F ⟨rfl,f⟩
 simp(disch:=omega)only[go_sem,g F f]
 refine (large_ok _ d O R F (a.mono (b.trans f))).mono ?_
 rintro _ P ⟨F,B⟩
 have j:=f.trans B
 rcases F with rfl|⟨rfl,sm⟩
 ·simp(disch:=omega)only[go_sem]
  exact b.trans j
 have r:d<=7∨64<d:=by have:=sm.deg;omega
 have Y:=sm.so
 have sr:=sm.sr
 have yc: ∀c:Int,decide (c=c)=true:=λc=>bV rfl
 by_cases y:chkE d O R=0
 case neg=>
  simp(disch:=omega)only[go_sem,g P j];refine (roots_bad _ _ d O R P (a.mono (b.trans j)) r Y sr y).mono ?_;rintro _ N ⟨rfl,f3⟩;have o:=j.trans f3;simp(disch:=omega)only[go_sem,g N o];refine (rroots_bad _ _ d O R N (a.mono (b.trans o)) r Y sr y).mono ?_;rintro _ A ⟨rfl,Q⟩;have m:=o.trans Q;simp(disch:=omega)only[go_sem,g A m];refine (comm_bad _ d O R A (a.mono (b.trans m)) r Y sr y).mono ?_;rintro _ s ⟨rfl,t⟩;have l:=m.trans t;simp(disch:=omega)only[go_sem,g s l];refine (rcomm_bad _ d O R s (a.mono (b.trans l)) r Y sr y).mono ?_;rintro _ h6 ⟨rfl,q⟩;have F6:=l.trans q;simp(disch:=omega)only[go_sem];refine (same_ok .aD .aD [] [] h6 (SI.aD _) (SI.aD _) (by decide) (by decide)).mono ?_;rintro _ h7 ⟨rfl,G⟩;have F7:=F6.trans G;rw[bV (rfl:([]:List Int)= [])]
  obtain⟨ce,p⟩: ∃c,chkE d O R=c:=⟨_,rfl⟩
  rw[p];simp(disch:=omega)only[go_sem,yc,decide_true,eq_self];refine (same_ok .aD .aD [] [] h7 (SI.aD _) (SI.aD _) (by decide) (by decide)).mono ?_;rintro _ h8 ⟨rfl,f8⟩;rw[bV (rfl:([]:List Int)= [])];simp(disch:=omega)only[go_sem,yc,decide_true,eq_self];exact b.trans (F7.trans f8)
 obtain⟨n,x,i,rfl,rfl,rfl,W⟩:=gc_of a r y
 obtain⟨L,Z⟩:=IP (cI x i n 0 (cG n))
 simp(disch:=omega)only[go_sem,g P j]
 refine (roots_ok _ z n x i _ P hz (W.mono (b.trans j)) L Z).mono ?_
 rintro _ N ⟨K,ik,f3,p3⟩
 obtain⟨va,rfl,s3⟩:=ov_see p3
 have o:=j.trans f3
 simp(disch:=omega)only[go_sem,g N o]
 refine (rroots_ok _ z n x i _ N hz (W.mono (b.trans o)) L Z).mono ?_
 rintro _ A ⟨K',e,Q,p4⟩
 obtain rfl:=ik.uniq e
 obtain⟨vb,rfl,s4⟩:=ov_see p4
 have m:=o.trans Q
 simp(disch:=omega)only[go_sem,g A m]
 refine (comm_ok _ n x i _ A (W.mono (b.trans m)) L Z).mono ?_
 rintro _ s ⟨K',e,t,p5⟩
 obtain rfl:=ik.uniq e
 obtain⟨vu,rfl,s5⟩:=ov_see p5
 have l:=m.trans t
 simp(disch:=omega)only[go_sem,g s l]
 refine (rcomm_ok _ n x i _ s (W.mono (b.trans l)) L Z).mono ?_
 rintro _ h6 ⟨K',e,q,p6⟩
 obtain rfl:=ik.uniq e
 obtain⟨vv,rfl,s6⟩:=ov_see p6
 have F6:=l.trans q
 have l1:(ovM K (zi ((List.range K.length).map (rtK n L K z)))).length<=64:=ovM_len (by rw[aQ,iK,zE])
 have l2:(ovM K (zi ((List.range K.length).map λk=>comS (Co n i) L K k K.length))).length<=64:=ovM_len (by rw[aQ,iK,zE])
 generalize ovM K (zi ((List.range K.length).map (rtK n L K z)))=M1 at s3 s4 l1
 generalize ovM K (zi ((List.range K.length).map λk=>comS (Co n i) L K k K.length))=M2 at s5 s6 l2
 simp(disch:=omega)only[go_sem]
 refine (same_ok va vb _ _ h6 (s3.mono (Q.trans (t.trans q))) (s4.mono (t.trans q)) om om).mono ?_
 rintro _ h7 ⟨rfl,G⟩
 have F7:=F6.trans G
 rw[bV (rfl:M1=M1)]
 obtain⟨ce,p⟩: ∃c,ovE K=c:=⟨_,rfl⟩
 rw[p]
 simp(disch:=omega)only[go_sem,yc,decide_true,eq_self]
 refine (same_ok vu vv _ _ h7 (s5.mono (q.trans G)) (s6.mono G) om om).mono ?_
 rintro _ h8 ⟨rfl,f8⟩
 rw[bV (rfl:M2=M2)]
 simp(disch:=omega)only[go_sem,yc,decide_true,eq_self]
 exact b.trans (F7.trans f8)
end Go.Proofs.YtapfcpkecmmagaaGreat
