/- Texts of the claim. -/
import Derived.Test.YtapfcpkecmmagaaGreatP9atoP9l
import Derived.Test.YtapfcpkecmmagaaGreatP6ktoP8r
set_option maxHeartbeats 64000000
namespace Go.Proofs.YtapfcpkecmmagaaGreat
open Go Go.Ay Go.Pm
set_option maxRecDepth 100000
theorem amul_bad (j t y:V)(d:Int)(O:List (List Int))(R:List (List (List Int)))(h:H)(g:ChI h j d O R)(n:d<=7∨64<d)(o:SmallO O)(sr:SmallR R)(k:chkE d O R≠0):
  Ev T 28 [j,t,y] h (λv h'=>v= .tup [.aD,aB (chkE d O R)]/\Fr h h'):=by
 have e:=g
 obtain⟨f,c,rfl,r,s⟩:=g
 refine bH c_algebra_Mul rfl rfl ?_
 have a:f.one=true:=rL r
 have b:c.one=true:=qZ s
 obtain⟨B,l⟩:=JR h.next
 obtain⟨x,q,r,m,r,i⟩:=dN l [aB d,f,c]
 have p:=bD h (v:= aB d) (u:=f) (w:=c) rfl a b
 simp(disch:=omega)only[go_sem,c_algebra_Mul,aF,p,l,q,aS m]
 refine (load_bad _ d O R x (e.mono i) n o sr k).mono ?_
 rintro _ a ⟨rfl,a⟩
 have b:=bM k
 simp(disch:=omega)only[go_sem,b]
 exact i.trans a
structure Lrg (d:Int)(O:List (List Int))(R:List (List (List Int))):Prop where
 deg:d<=6
 so:SmallO O
 sr:SmallR R
theorem large_ok (vc:V)(d:Int)(O:List (List Int))(R:List (List (List Int)))(h:H)(hc:ChI h vc d O R):
  Ev T 11 [vc] h (λv h'=>(v= .bool true∨v= .bool false/\Lrg d O R)/\Fr h h'):=by
 obtain⟨vO,vR,rfl,sO,sR⟩:=hc
 refine bH c_law27_large rfl rfl ?_
 obtain⟨q,a2,_,N,a1,K,W,L,cO⟩:=sr_open sO
 obtain⟨Q,a2,_,x,a0,s,r,P,cR⟩:=srr_open sR
 obtain⟨B,y⟩:=JR h.next
 obtain⟨b,e1,n1,g1,o1,l⟩:=dN y [aB d,vO,vR]
 have Y: ∀c,Fr b c->c.cell B 0=some (aB d):=λc f=>by rw[f.cell om,H.aG g1];rfl
 have p: ∀c,Fr b c->c.cell B 1=some vO:=λc f=>by rw[f.cell om,H.aG g1];rfl
 have U: ∀c,Fr b c->c.cell B 2=some vR:=λc f=>by rw[f.cell om,H.aG g1];rfl
 have bx:=bD h (v:= aB d) (u:=vO) (w:=vR) rfl N x
 have f:=Fr.refl b
 by_cases N:6<d
 ·have x:=bM N
  simp(disch:=omega)only[go_sem,c_law27_large,aF,bx,y,e1,Y b f,x,fG]
  exact⟨.inl trivial,l⟩
 have x:=bJ N
 by_cases q1:(6:Int)<(O.length:Int)
 ·have N:=bM q1
  simp(disch:=omega)only[go_sem,c_law27_large,aF,bx,y,e1,Y b f,p b f,q,x,N,fG]
  exact⟨.inl trivial,l⟩
 have N:=bJ q1
 by_cases q4:(6:Int)<(R.length:Int)
 ·have y4:=bM q4
  simp(disch:=omega)only[go_sem,c_law27_large,aF,bx,y,e1,Y b f,p b f,q,U b f,Q,x,N,y4]
  exact⟨.inl trivial,l⟩
 have y4:=bJ q4
 have a2:O.length<=6:=om
 have a2:R.length<=6:=om
 simp(disch:=omega)only[go_sem,c_law27_large,aF,bx,y,e1,Y b f,p b f,q,U b f,Q,x,N,y4]
 refine aH (λz a c=> ∃(i:Nat),(∃g:Nat->V,a= [g 0,.ptr B 0,g 2,aB i,g 4,g 5,g 6,g 7,g 8,g 9])/\i<=O.length/\(∀j,j<i->(O.getD j []).length<=6)/\Fr b c/\z=O.length-i) O.length
  ⟨0,aA rfl,fF _,λj J=>om,Fr.refl _,rfl⟩ ?_
 rintro z a h2 ⟨i,⟨g,rfl⟩,hi,ho,F,rfl⟩
 by_cases G:(i:Int)<(O.length:Int)
 case pos=>
  have k:=bM G;obtain⟨i1,ci,si⟩:=cO i om;have m:h2.cell a1 (K+i)=some (W.getD i V.undef):=by rw[(l.trans F).cell i1];exact ci
  have lo:=si.lens;generalize W.getD i V.undef=f at m lo
  by_cases A:(6:Int)<((O.getD i []).length:Int)
  ·have o:=bM A
   simp(disch:=omega)only[go_sem,p h2 F,q,k,L.ixa,m,lo,o];exact⟨.inl trivial,l.trans F⟩
  ·have o:=bJ A
   simp(disch:=omega)only[go_sem,p h2 F,q,k,L.ixa,m,lo,o];rw[dY i]
   exact⟨O.length-(i+1),om,i+1,aA rfl,om,λj J=>by
    by_cases e:j=i
    ·subst e;omega
    ·exact ho j om,F,rfl⟩
 have k:=bJ G
 simp(disch:=omega)only[go_sem,p h2 F,q,k]
 refine aH (λz a c=> ∃(i:Nat),(∃g:Nat->V,a= [g 0,.ptr B 0,g 2,g 3,aB i,g 5,g 6,g 7,g 8,g 9])/\i<=R.length/\(∀j,j<i->(R.getD j []).length<=6)/\Fr b c/\z=R.length-i) R.length
  ⟨0,aA rfl,fF _,λj J=>om,F,rfl⟩ ?_
 clear F k
 rintro z a Z ⟨t,⟨g,rfl⟩,a,hr,F,rfl⟩
 by_cases a:(t:Int)<(R.length:Int)
 case neg=>
  have k:=bJ a;simp(disch:=omega)only[go_sem,U Z F,Q,k];exact⟨.inr ⟨om,⟨om,λj J=>by have:=ho j om;omega⟩,⟨om,λj J=>by have:=hr j om;omega⟩⟩,l.trans F⟩
 have k:=bM a
 obtain⟨i1,ci,si⟩:=cR t om
 have n:Z.cell a0 (s+t)=some (r.getD t V.undef):=by rw[(l.trans F).cell i1];exact ci
 generalize r.getD t V.undef=a at n si
 obtain⟨a,_⟩:=sr_open si
 by_cases A:(6:Int)<((R.getD t []).length:Int)
 ·have o:=bM A
  simp(disch:=omega)only[go_sem,U Z F,Q,k,P.ixa,n,a,o]
  exact⟨.inl trivial,l.trans F⟩
 have o:=bJ A
 simp(disch:=omega)only[go_sem,U Z F,Q,k,P.ixa,n,a,o]
 rw[dY t]
 exact⟨R.length-(t+1),om,t+1,aA rfl,om,λj J=>by
  by_cases e:j=t
  ·subst e;omega
  ·exact hr j om,F,rfl⟩
section
variable {n:Nat} {G:List Nat->Prop} {L:LN} {K:List Nat}
noncomputable def uC (G:List Nat->Prop)(L:LN)(K:List Nat)(z:Int):List (List Int):=if 64<K.length∨z<0∨(K.length:Int)<=z then [] else cstM G L K z.toNat
def Mu (K:List Nat)(z:Int):Int:=if 64<K.length then 5 else if z<0∨(K.length:Int)<=z then 2 else 0
theorem Fo {z:Int}{h':H}{v:V}(p:64<K.length/\v= .tup [.aD,aB 5]∨K.length<=64/\((z<0∨(K.length:Int)<=z)/\v= .tup [.aD,aB 2]∨ ∃(i:Nat) (vl:V),z=(i:Int)/\i<K.length/\v= .tup [vl,aB 0]/\SR h' vl (cstM G L K i))):
  ∃va,v= .tup [va,aB (Mu K z)]/\SR h' va (uC G L K z):=by
 unfold Mu uC
 rcases p with ⟨a,rfl⟩|⟨a,⟨b,rfl⟩|⟨i,vl,rfl,b,rfl,s⟩⟩
 ·exact⟨_,by rw[aV a],by rw[aV (.inl a)];exact⟨[],SV.aD _ _,trivial⟩⟩
 ·exact⟨_,by rw[aZ om,aV b],by rw[aV (.inr b)];exact⟨[],SV.aD _ _,trivial⟩⟩
 ·exact⟨_,by rw[aZ om,aZ om],by rw[aZ om];exact s⟩
theorem Ma (z:Int):(uC G L K z).length<=64/\ ∀x∈uC G L K z,x.length<=64:=by
 unfold uC;split
 ·exact⟨fF _,λx a=>by cases a⟩
 ·rename_i h
  unfold cstM;refine⟨by rw[iR,zU];omega,λx a=>?_⟩;obtain⟨j,_,rfl⟩:=pU.1 a;rw[aQ,iR,zU];omega
noncomputable def mulM (G:List Nat->Prop)(L:LN)(K:List Nat)(x y:List Int):List Int:=if 64<K.length∨ ¬(x.length=K.length/\y.length=K.length)∨(x++y).any big27=true then [] else (List.range K.length).map (mlF G L K x y)
def FW (K:List Nat)(x y:List Int):Int:=if 64<K.length then 5 else if ¬(x.length=K.length/\y.length=K.length) then 10 else if (x++y).any big27=true then 2 else 0
theorem Ow {x y:List Int}{h':H}{v:V}(p:64<K.length/\v= .tup [.aD,aB 5]∨K.length<=64/\(¬(x.length=K.length/\y.length=K.length)/\v= .tup [.aD,aB 10]∨x.length=K.length/\y.length=K.length/\((x++y).any big27=true/\v= .tup [.aD,aB 2]∨(x++y).any big27=false/\ ∃w,v= .tup [w,aB 0]/\SI h' w ((List.range K.length).map (mlF G L K x y))))):
  ∃va,v= .tup [va,aB (FW K x y)]/\SI h' va (mulM G L K x y):=by
 unfold FW mulM
 rcases p with ⟨a,rfl⟩|⟨a,⟨b,rfl⟩|⟨b,c,⟨e,rfl⟩|⟨e,w,rfl,s⟩⟩⟩
 ·exact⟨_,by rw[aV a],by rw[aV (.inl a)];exact SI.aD _⟩
 ·exact⟨_,by rw[aZ om,aV b],by rw[aV (.inr (.inl b))];exact SI.aD _⟩
 ·exact⟨_,by rw[aZ om,aZ (λh=>h ⟨b,c⟩),aV e],by rw[aV (.inr (.inr e))];exact SI.aD _⟩
 ·refine⟨_,by rw[aZ om,aZ (λh=>h ⟨b,c⟩),aZ (by rw[e];decide)],?_⟩
  rw[aZ]
  ·exact s
  ·rintro (h|h|h)
   ·omega
   ·exact h ⟨b,c⟩
   ·rw[e] at h;cases h
theorem Us (x y:List Int):(mulM G L K x y).length<=64:=by
 unfold mulM;split
 ·exact fF _
 ·rw[iR,zU];omega
theorem Ov {l:List Int}{v w:V}(p:64<K.length/\v= .tup [aB 0,aB 5]∨K.length<=64/\(5<l.length/\v= .tup [aB 0,aB 4]∨l.length<=5/\((∃x∈l,x<0∨(K.length:Int)<=x)/\v= .tup [aB 0,aB 2]∨ ∃l':List Nat,l=zi l'/\(∀i∈l',i<K.length)/\v= .tup [aB ((cntL G L K l').getD 0 0),aB 0])))
  (q:64<K.length/\w= .tup [aB 0,aB 5]∨K.length<=64/\(5<l.length/\w= .tup [aB 0,aB 4]∨l.length<=5/\((∃x∈l,x<0∨(K.length:Int)<=x)/\w= .tup [aB 0,aB 2]∨ ∃l':List Nat,l=zi l'/\(∀i∈l',i<K.length)/\w= .tup [aB ((cntL G L K l').getD 0 0),aB 0]))):
  ∃a e,v= .tup [aB a,aB e]/\w= .tup [aB a,aB e]:=by
 have f:(∃x∈l,x<0∨(K.length:Int)<=x)-> ∀l':List Nat,l=zi l'->(∀i∈l',i<K.length)->False:=λ⟨x,hx,hb⟩ l' e hl=>by
  subst e;obtain⟨i,hi,rfl⟩:=pU.1 hx;have:=hl i hi;omega
 rcases p with ⟨a,rfl⟩|⟨a,⟨b,rfl⟩|⟨b,⟨c,rfl⟩|⟨l',e,c,rfl⟩⟩⟩<;>rcases q with ⟨k,rfl⟩|⟨k,⟨h,rfl⟩|⟨h,⟨d,rfl⟩|⟨j,g,d,rfl⟩⟩⟩
 all_goals first
  |exact⟨_,_,rfl,rfl⟩
  |(exfalso;omega)
  |exact (f c j g d).elim
  |exact (f d l' e c).elim
  |skip
 obtain rfl:=zi_inj (e.symm.trans g)
 exact⟨_,_,rfl,rfl⟩
end
theorem DW {h:H}{a:V}{d:Int}{O:List (List Int)}{R:List (List (List Int))}(c:ChI h a d O R)(e:d<=7∨64<d)(i:chkE d O R=0):
  ∃(n:Nat) (O':LN) (R':jL),d=(n:Int)/\O=O'.map zi/\R=R'.map (List.map zi)/\ ∃G,GC (λ_=>False) h a n O' R' G:=by
 obtain⟨n,O',R',g,b,f,j⟩:=gc_of c e i
 exact⟨n,O',R',g,b,f,_,j⟩
theorem Lg (vc vx vy vl:V)(z d:Int)(O:List (List Int))(R:List (List (List Int)))(x y l:List Int)(h:H)(hc:ChI h vc d O R)(Q:SI h vx x)(hy:SI h vy y)(hl:SI h vl l):
  Ev T 6 [vc,aB z,vx,vy,vl] h (λv h'=>v= .bool true/\Fr h h'):=by
 have i:=hc
 obtain⟨vO,vR,rfl,sO,sR⟩:=hc
 refine bH c_law27_AlgebraMatches rfl rfl ?_
 have f:vO.one=true:=rL sO
 have a1:vR.one=true:=qZ sR
 have lx:=Q.lens
 have ly:=hy.lens
 have ll:=hl.lens
 obtain⟨B,hB⟩:=JR h.next
 obtain⟨h1,e1,n1,g1,o1,b⟩:=dN hB [aB d,vO,vR]
 have bx:=bD h (v:= aB d) (u:=vO) (w:=vR) rfl f a1
 have j: ∀f,Fr h1 f->f.row B 0 3=some [aB d,vO,vR]:=λf f=>aS (by rw[f.get B om];exact g1)
 simp(disch:=omega)only[go_sem,c_law27_AlgebraMatches,aF,bx,hB,e1]
 refine (lives_ok h1).mono ?_
 rintro _ a0 ⟨rfl,f⟩
 simp(disch:=omega)only[go_sem,j a0 f]
 refine (large_ok _ d O R a0 (i.mono (b.trans f))).mono ?_
 rintro _ h2 ⟨hv,B⟩
 have k:=f.trans B
 rcases hv with rfl|⟨rfl,sm⟩
 ·simp(disch:=omega)only[go_sem,fG]
  exact b.trans k
 by_cases f:(40:Int)<(x.length:Int)
 ·have y1:=bM f
  simp(disch:=omega)only[go_sem,lx,y1,fG]
  exact b.trans k
 have y1:=bJ f
 by_cases f:(40:Int)<(y.length:Int)
 ·have y2:=bM f
  simp(disch:=omega)only[go_sem,lx,ly,y1,y2,fG]
  exact b.trans k
 have y2:=bJ f
 by_cases f:(40:Int)<(l.length:Int)
 ·have y3:=bM f
  simp(disch:=omega)only[go_sem,lx,ly,ll,y1,y2,y3]
  exact b.trans k
 have y3:=bJ f
 have F:d<=7∨64<d:=by have:=sm.deg;omega
 have W:=sm.so
 have sr:=sm.sr
 by_cases s:chkE d O R=0
 case neg=>
  simp(disch:=omega)only[go_sem,lx,ly,ll,y1,y2,y3,j h2 k];refine (const_bad _ _ d O R h2 (i.mono (b.trans k)) F W sr s).mono ?_;rintro _ h3 ⟨rfl,f3⟩;have A:=k.trans f3;simp(disch:=omega)only[go_sem,j h3 A];refine (rconst_bad _ _ d O R h3 (i.mono (b.trans A)) F W sr s).mono ?_;rintro _ h4 ⟨rfl,f4⟩;have m:=A.trans f4;simp(disch:=omega)only[go_sem,j h4 m];refine (amul_bad _ _ _ d O R h4 (i.mono (b.trans m)) F W sr s).mono ?_;rintro _ h5 ⟨rfl,f5⟩;have o:=m.trans f5;simp(disch:=omega)only[go_sem,j h5 o];refine (rmul_bad _ _ _ d O R h5 (i.mono (b.trans o)) F W sr s).mono ?_;rintro _ h6 ⟨rfl,Y⟩;have q:=o.trans Y;simp(disch:=omega)only[go_sem,j h6 q];refine (cnt_bad _ _ d O R h6 (i.mono (b.trans q)) F W sr s).mono ?_;rintro _ h7 ⟨rfl,U⟩;have p:=q.trans U;simp(disch:=omega)only[go_sem,j h7 p];refine (rcnt_bad _ _ d O R h7 (i.mono (b.trans p)) F W sr s).mono ?_;rintro _ h8 ⟨rfl,J⟩;have F8:=p.trans J;simp(disch:=omega)only[go_sem];refine (sameLists_ok .aD .aD [] [] h8 ⟨[],SV.aD _ _,trivial⟩ ⟨[],SV.aD _ _,trivial⟩ (by decide) (by decide) (λ_ h=>by cases h) (λ_ h=>by cases h)).mono ?_;rintro _ h9 ⟨rfl,f9⟩;have F9:=F8.trans f9;rw[bM (rfl:([]:List (List Int))= [])]
  obtain⟨ce,P⟩: ∃c,chkE d O R=c:=⟨_,rfl⟩
  rw[P];have yc:decide (ce=ce)=true:=bM rfl;simp(disch:=omega)only[go_sem,yc,decide_true,eq_self];refine (same_ok .aD .aD [] [] h9 (SI.aD _) (SI.aD _) (by decide) (by decide)).mono ?_;rintro _ a3 ⟨rfl,N⟩;rw[bM (rfl:([]:List Int)= [])];simp(disch:=omega)only[go_sem,yc,decide_true,eq_self];exact b.trans (F9.trans N)
 obtain⟨n,r,t,rfl,rfl,rfl,G,Z⟩:=DW i F s
 obtain⟨L,hL⟩:=JR (cF r t n 0 (cH n))
 simp(disch:=omega)only[go_sem,lx,ly,ll,y1,y2,y3,j h2 k]
 refine (const_ok _ z n r t _ h2 (Z.mono (b.trans k)) L hL).mono ?_
 rintro _ h3 ⟨K,ik,f3,p3⟩
 obtain⟨va,rfl,s3⟩:=Fo p3
 have A:=k.trans f3
 simp(disch:=omega)only[go_sem,j h3 A]
 refine (rconst_ok _ z n r t _ h3 (Z.mono (b.trans A)) L hL).mono ?_
 rintro _ h4 ⟨K',g,f4,p4⟩
 obtain rfl:=ik.uniq g
 obtain⟨vb,rfl,s4⟩:=Fo p4
 have m:=A.trans f4
 simp(disch:=omega)only[go_sem,j h4 m]
 refine (amul_ok _ vx vy x y n r t _ h4 om om (Q.mono (b.trans m)) (hy.mono (b.trans m)) (Z.mono (b.trans m)) L hL).mono ?_
 rintro _ h5 ⟨K',g,f5,p5⟩
 obtain rfl:=ik.uniq g
 obtain⟨vu,rfl,s5⟩:=Ow p5
 have o:=m.trans f5
 simp(disch:=omega)only[go_sem,j h5 o]
 refine (rmul_ok _ vx vy x y n r t _ h5 om om (Q.mono (b.trans o)) (hy.mono (b.trans o)) (Z.mono (b.trans o)) L hL).mono ?_
 rintro _ h6 ⟨K',g,Y,p6⟩
 obtain rfl:=ik.uniq g
 obtain⟨vv,rfl,s6⟩:=Ow p6
 have q:=o.trans Y
 simp(disch:=omega)only[go_sem,j h6 q]
 refine (cnt_ok _ vl l n r t _ h6 om (hl.mono (b.trans q)) (Z.mono (b.trans q)) L hL).mono ?_
 rintro w7 h7 ⟨K',g,U,p7⟩
 obtain rfl:=ik.uniq g
 have p:=q.trans U
 have shape: ∃a e,w7= .tup [aB a,aB e]:=by obtain⟨a,e,h,_⟩:=Ov p7 p7;exact⟨a,e,h⟩
 obtain⟨f,f,rfl⟩:=shape
 simp(disch:=omega)only[go_sem,j h7 p]
 refine (rcnt_ok _ vl l n r t _ h7 om (hl.mono (b.trans p)) (Z.mono (b.trans p)) L hL).mono ?_
 rintro f h8 ⟨K',g,J,p8⟩
 obtain rfl:=ik.uniq g
 have F8:=p.trans J
 obtain⟨a,e,ee,rfl⟩:=Ov p7 p8
 cases ee
 have e:=Ma (G:=G) (L:=L) (K:=K) z
 have a:=Us (G:=G) (L:=L) (K:=K) x y
 have a:=f4.trans (f5.trans (Y.trans (U.trans J)))
 simp(disch:=omega)only[go_sem]
 refine (sameLists_ok va vb _ _ h8 (s3.mono a) (s4.mono (f5.trans (Y.trans (U.trans J)))) om om (λx Q=>by have:=e.2 x Q;omega) (λx Q=>by have:=e.2 x Q;omega)).mono ?_
 rintro _ h9 ⟨rfl,f9⟩
 have F9:=F8.trans f9
 rw[bM (rfl:uC G L K z=uC G L K z)]
 obtain⟨ce,P⟩: ∃c,Mu K z=c:=⟨_,rfl⟩
 obtain⟨a,a2⟩: ∃c,FW K x y=c:=⟨_,rfl⟩
 rw[P,a2]
 have yc: ∀c:Int,decide (c=c)=true:=λc=>bM rfl
 simp(disch:=omega)only[go_sem,yc,decide_true,eq_self]
 refine (same_ok vu vv _ _ h9 (s5.mono (Y.trans (U.trans (J.trans f9)))) (s6.mono (U.trans (J.trans f9))) om om).mono ?_
 rintro _ a3 ⟨rfl,N⟩
 rw[bM (rfl:mulM G L K x y=mulM G L K x y)]
 simp(disch:=omega)only[go_sem,yc,decide_true,eq_self]
 exact b.trans (F9.trans N)
end Go.Proofs.YtapfcpkecmmagaaGreat
