/- Texts of the claim. -/
import Derived.Test.YtcdbmkidaecdiaaGreatDp2toDp8
import Derived.Test.YtcdbmkidaecdiaaGreatAy39
import Derived.Test.YtcdbmkidaecdiaaGreatC16code
import Derived.Sort.AssemblyPlain
import Derived.Test.YtcdbmkidaecdiaaGreatP5a
set_option maxHeartbeats 32000000
namespace Go.Proofs.YtcdbmkidaecdiaaGreat
open Go Go.Ay Go.Pm
set_option maxRecDepth 100000
section
variable {a:List Nat} {i n:Nat}
theorem afL {g:Nat}(j:T g=some Fe.fn)(a b:Nat)(h:H)(p:a<1000000)(s:b<1000000):Ev T g [aC a,aC b] h (λv h'=>v= aC (Nat.gcd a b:Nat)/\Fr h h'):=by
 refine mX j rfl ?_;simp(disch:=omega)only[go_sem,Fe,aE];refine aI (λc d l=> ∃(x y:Nat),(∃g:Nat->V,d= [aC x,aC y,g 2,g 3])/\x<1000000/\y<1000000/\Nat.gcd x y=Nat.gcd a b/\Fr h l/\c=y) b
  ⟨a,b,aB rfl,p,s,rfl,Fr.refl h,rfl⟩ ?_
 rintro c d l ⟨x,y,⟨g,rfl⟩,u,q,m,F,o⟩;subst o
 by_cases e:(0:Int)<(c:Int)
 ·have f:=cI e
  have t:(c:Int)≠0:=om
  have r:(x:Int).tmod (c:Int)=((x%c:Nat):Int):=SG x c;have k:=Nat.mod_lt x (show c>0 by omega);simp(disch:=omega)only[go_sem,f,t,r];exact⟨x%c,k,c,x%c,aB rfl,q,om,by rw[Nat.gcd_comm,←Nat.gcd_rec,Nat.gcd_comm];exact m,F.bH om,rfl⟩
 ·have f:=bI e
  obtain rfl:c=0:=om
  simp(disch:=omega)only[go_sem,f];rw[←m,Nat.gcd_zero_right];exact⟨rfl,F⟩
open Classical in
noncomputable def Rc (a:List Nat)(i s j:Nat):Bool:=decide ((∃i0,i0<i/\ ∃t,it a t i0=j)∨ ∃t,t<s/\it a t i=j)
theorem pF {s j:Nat}:Rc a i s j=true↔(∃i0,i0<i/\ ∃t,it a t i0=j)∨ ∃t,t<s/\it a t i=j:=by classical unfold Rc;simp only[decide_eq_true_eq]
theorem UZ (a:List Nat)(j:Nat):Rc a 0 0 j=false:=by
 rw[←Bool.not_eq_true,pF];rintro (⟨b,h,_⟩|⟨t,h,_⟩)<;>omega
theorem PY (a:List Nat)(i s j:Nat):Rc a i (s+1) j=if j=it a s i then true else Rc a i s j:=by
 by_cases e:j=it a s i
 ·rw[bJ e,pF];exact .inr ⟨s,om,e.symm⟩
 ·rw[bU e,DW,pF,pF]
  constructor
  ·rintro (h|⟨t,c,b⟩)
   ·exact .inl h
   ·exact .inr ⟨t,by have:t≠s:=λd=>e (by rw[←d];exact b.symm);omega,b⟩
  ·rintro (h|⟨t,c,b⟩)
   ·exact .inl h
   ·exact .inr ⟨t,om,b⟩
theorem WY (A:aY n a)(hi:i<n)(j:Nat):Rc a i (kW a i) j=Rc a (i+1) 0 j:=by
 rw[DW,pF,pF];constructor
 ·rintro (⟨c,d,b⟩|⟨t,d,b⟩)
  ·exact .inl ⟨c,om,b⟩
  ·exact .inl ⟨i,om,t,b⟩
 ·rintro (⟨c,d,t,b⟩|⟨t,d,_⟩)
  ·by_cases e:c=i
   ·subst e;exact .inr ⟨t%kW a c,Nat.mod_lt _ (nJ A hi).1,by rw[←BT A hi];exact b⟩
   ·exact .inl ⟨c,om,t,b⟩
  ·omega
theorem XR (A:aY n a)(hi:i<n)(h: ¬oZ a n i)(j:Nat):Rc a i 0 j=Rc a (i+1) 0 j:=by
 have b: ∃c,c<i/\ ∃t,it a t c=i:=Jj λg=>h ((Jv A hi).2 λc l t e=>g ⟨c,l,t,e⟩)
 obtain⟨c,k,m,o⟩:=b;rw[DW,pF,pF];constructor
 ·rintro (⟨d,f,b⟩|⟨t,f,_⟩)
  ·exact .inl ⟨d,om,b⟩
  ·omega
 ·rintro (⟨d,f,t,b⟩|⟨t,f,_⟩)
  ·by_cases e:d=i
   ·subst e;exact .inl ⟨c,k,m+t,by rw[wQ,o];exact b⟩
   ·exact .inl ⟨d,om,t,b⟩
  ·omega
theorem GK (A:aY n a){s:Nat}(hi:i<n)(k:oZ a n i)(o:s<=kW a i):(Rc a i s (it a s i)=false↔s<kW a i):=by
 obtain⟨g,d,m⟩:=nJ A hi;constructor
 ·intro h
  refine Jj λl=>?_
  have e:s=kW a i:=om
  subst e;rw[d] at h;have:Rc a i (kW a i) i=true:=pF.2 (.inr ⟨0,g,rfl⟩);rw[h] at this;cases this
 ·intro h
  rw[←Bool.not_eq_true,pF];rintro (⟨j,c,t,b⟩|⟨t,c,b⟩)
  ·obtain⟨u,f⟩:=Mx A hi s
   have:=(Jv A hi).1 k j c (t+u);rw[wQ,b,f] at this;exact this rfl
  ·have:=aeX A hi (show t<kW a i by omega) h b
   omega
theorem acY (A:aY n a)(hi:i<n)(d: ¬oZ a n i):Rc a i 0 i=true:=by
 have f: ∃b,b<i/\ ∃t,it a t b=i:=Jj λc=>d ((Jv A hi).2 λb g t e=>c ⟨b,g,t,e⟩)
 exact pF.2 (.inl f)
theorem Su (hi:i<=n):((Pd a n).filter λj=>decide (j<i))=(open Classical in (List.range i).filter λj=>decide (oZ a n j)):=by
 classical
 unfold Pd;have:List.range n=List.range i++(List.range (n-i)).map (i+ ·):=by rw[←List.range_add];congr 1;omega
 rw[this,List.filter_append,List.filter_append]
 have c:(((List.range (n-i)).map (i+ ·)).filter λj=>decide (oZ a n j)).filter (λj=>decide (j<i))= []:=by
  rw[List.filter_eq_nil_iff];intro x b;obtain⟨y,_,rfl⟩:=pH.1 (Rq.1 b).1;simp
 rw[c,tZ];rw[List.filter_eq_self];intro x b;simpa using Dj.1 (Rq.1 b).1
noncomputable def HI (a:List Nat)(n i:Nat):LN:=((Pd a n).filter λj=>decide (j<i)).map (IL a)
theorem HB (a:List Nat)(n:Nat):HI a n n=xC a n:=by
 classical
 unfold HI xC;congr 1;rw[List.filter_eq_self];intro x b;unfold Pd at b;simpa using Dj.1 (Rq.1 b).1
theorem Iu (hi:i<n):(oZ a n i->HI a n (i+1)=HI a n i++ [IL a i])/\(¬oZ a n i->HI a n (i+1)=HI a n i):=by
 classical
 unfold HI;rw[Su (show i+1<=n by omega),Su (show i<=n by omega),List.range_succ,List.filter_append];constructor
 ·intro h
  rw[show ([i]:List Nat).filter (λj=>decide (oZ a n j))= [i] by simp [h],List.map_append];rfl
 ·intro h
  rw[show ([i]:List Nat).filter (λj=>decide (oZ a n j))= [] by simp [h],tZ]
theorem acV: ∀i,i<=n->HI a n i<+:xC a n:=by
 intro i hi
 obtain⟨d,e⟩: ∃d,i+d=n:=⟨n-i,om⟩
 induction d generalizing i with
 |zero=>
      have:i=n:=om
      subst this;rw[HB];exact List.prefix_rfl
 |succ d ih=>
  have b:=ih (i+1) om om
  by_cases c:oZ a n i
  ·rw[(Iu om).1 c] at b
   exact (List.prefix_append _ _).trans b
  ·rw[(Iu om).2 c] at b
   exact b
theorem OX (a:List Nat)(n:Nat):HI a n 0= []:=by
 unfold HI;rw[show (Pd a n).filter (λj=>decide (j<0))= [] by rw[List.filter_eq_nil_iff];intro x _;simp];rfl
theorem TJ {α:Type}{l m:List α}(h:l<+:m)(hi:i<l.length)(d:α):m.getD i d=l.getD i d:=by
 obtain⟨t,rfl⟩:=h;rw[List.getD,Dt hi];rfl
theorem CN (id b:Nat)(va:V)(n:Nat)(a:List Nat)(h:H)(a8:1<=n)(hn:n<=64)(A:aY n a)(F:Nat)(a9:F<=h.next)(b3:b<F)(hb:h.get b=some (.cells false [va]))(b1:b<h.next)(hv:SI h va (zi a))(J:Nat->H->Prop)(h0:J 0 h)
  (kJ: ∀k hh h',J k hh->hh.next<=h'.next->(∀q,q<F->h'.get q=hh.get q)->J k h') (jb: ∀k hh,J k hh->hh.get b=some (.cells false [va])/\SI hh va (zi a))
  (hy: ∀k hh v,k<(xC a n).length->J k hh->SI hh v (zi ((xC a n).getD k []))->F<=hh.next->Ey T id [v] hh (λv h'=>v= .bool true/\J (k+1) h'/\Fx (λq=>q<F) hh h')):
  Ev T 246 [.yl id,.ptr b 0] h (λ_ h'=>J (xC a n).length h'):=by
 refine dW zU rfl ?_
 obtain⟨S,hS⟩:=exI h.next
 obtain⟨h1,e1,n1,g1,o1,f1⟩:=dK hS (rc 64 λ_=>V.bool false)
 have a3:=H.cell_of (h:=h1) (id:=b) (by rw[o1 _ om];exact hb)
 have Y:=hv.lens
 rw[aS,A.len] at Y
 simp(disch:=omega)only[go_sem,zU,aE,FW,hS,e1,a3,Y]
 have a4:h1.get S=some (.cells false (rc 64 λj=> .bool (Rc a 0 0 j))):=by
  rw[g1,show (λj=>V.bool (Rc a 0 0 j))=λ_=>V.bool false from funext λj=>by rw[UZ]]
 refine aI (λR o hh=> ∃(i:Nat),(∃g:Nat->V,o= [.yl id,.ptr b 0,.ptr S 0,g 3,g 4,g 5,aC n,aC i,g 8,g 9,g 10])/\i<=n/\J (HI a n i).length hh/\hh.get S=some (.cells false (rc 64 λj=> .bool (Rc a i 0 j)))/\S<hh.next/\R=n-i) n
  ⟨0,aB rfl,iB _,by rw[OX];exact kJ _ _ _ h0 f1.next (λq hq=>o1 q om),a4,om,rfl⟩ ?_
 rintro R o h2 ⟨i,⟨g,rfl⟩,hi,r,w,x,rfl⟩
 by_cases N:(i:Int)<(n:Int)
 case neg=>
  have d1:=bI N;obtain rfl:i=n:=om
  simp(disch:=omega)only[go_sem,d1];rw[HB] at r;exact r
 have d1:=cI N
 have l:i<n:=om
 simp(disch:=omega)only[go_sem,d1]
 obtain⟨p0,p1,p2⟩:=nJ A l
 have b2:=Wo A l
 refine bQ (λvs hh=> ∃(p:V) (c:List Nat),(∃g:Nat->V,vs= [.yl id,.ptr b 0,.ptr S 0,g 3,p,g 5,aC n,aC i,g 8,g 9,g 10])/\dH hh p 1 (ints (zi c)) (S+1)/\(oZ a n i/\c=IL a i∨ ¬oZ a n i/\c= [])/\
   J (HI a n i).length hh/\hh.get S=some (.cells false (rc 64 λj=> .bool (Rc a (i+1) 0 j)))/\S<hh.next) ?_ ?_
 ·refine aI (λR vs hh=> ∃(s:Nat) (p:V),(∃g:Nat->V,vs= [.yl id,.ptr b 0,.ptr S 0,g 3,p,aC (it a s i:Nat),aC n,aC i,g 8,g 9,g 10])/\s<=kW a i/\(0<s->oZ a n i)/\dH hh p 1 (ints (zi ((List.range s).map λt=>it a t i))) (S+1)/\
    J (HI a n i).length hh/\hh.get S=some (.cells false (rc 64 λj=> .bool (Rc a i s j)))/\S<hh.next/\R=kW a i-s) (kW a i)
   ⟨0,.aD,aB rfl,iB _,λh=>om,dH.aD _ _ _,r,w,x,rfl⟩ ?_
  clear r w x
  rintro R o G ⟨s,p,⟨g,rfl⟩,hs,hf,B,r,w,x,rfl⟩
  have hp:=Ha A l s
  have cS:=tF w (i:=it a s i) om
  cases hsn:Rc a i s (it a s i) with
  |true=>
   rw[hsn] at cS;simp(disch:=omega)only[go_sem,cS]
   by_cases f:oZ a n i
   ·have e:s=kW a i:=Jj λL=>by
     have:=(GK A l f hs).2 om;rw[hsn] at this;cases this
    refine⟨p,IL a i,aB rfl,by rw[e] at B;exact B,.inl ⟨f,rfl⟩,r,?_,x⟩;rw[w,e];congr 2;exact dJ λj _=>by rw[WY A l]
   ·have e:s=0:=Jj λL=>f (hf om)
    subst e;refine⟨p, [],aB rfl,B,.inr ⟨f,rfl⟩,r,?_,x⟩;rw[w];congr 2;exact dJ λj _=>by rw[XR A l f]
  |false=>
   rw[hsn] at cS
   have f:oZ a n i:=Jj λf=>by
    have e:s=0:=Jj λL=>f (hf om)
    subst e;have:=acY A l f;have h2:Rc a i 0 i=false:=hsn;rw[h2] at this;cases this
   have a7:=(GK A l f hs).1 hsn;have pt:=bT (vs:=rc 64 λj=> .bool (Rc a i s j)) (off:=it a s i) (by rw[iQ];omega);obtain⟨h4,e4,n4,g4,o4⟩:=mV G S ((rc 64 λj=> .bool (Rc a i s j)).set (it a s i) (.bool true));obtain⟨h5,e5,n5,g5,o5,f5⟩:=dK (h:=h4) (ID:=G.next) n4 [aC (it a s i:Nat)];have a5:dH h5 p 1 (ints (zi ((List.range s).map λt=>it a t i))) (S+1):=B.mono om λk off m c e h1 h2=>by rw[o5 k om,o4 k om]
   obtain⟨h6,a6,Z⟩:=a5.push (bytes:=8) (SV.one (v:= aC (it a s i:Nat)) (id:=G.next) om g5 (.kn 1)) (n:=s) (m:=1) (by rw[aP,aS];simp) rfl om om om;have n6:=Z.next;have ap: ∀q,q<=S->dR p q:=λq hq k off m c e e2=>by have:=(B.in _ _ _ _ e).2.1;omega
   have o6: ∀q,q<F->h6.get q=G.get q:=λq hq=>by rw[Z.old q om (ap q om),o5 q om,o4 q om]
   have J6:=kJ _ _ h6 r om o6;obtain⟨a2,a1⟩:=jb _ _ J6;obtain⟨idx,O,W,K,Q⟩:=a1.open;rw[aS,A.len] at W K Q
   have cx:h6.cell idx (O+it a s i)=some (aC (it a (s+1) i:Nat)):=by
    rw[Q _ hp];congr 2;rw[zi,oI _ (d:=0) (by rw[A.len];exact hp)];rfl
   simp(disch:=omega)only[go_sem,cS,w,pt,e4,cK h4 (z:= aC 0) (v:= aC (it a s i:Nat)) rfl rfl,n4,e5,a6,H.cell_of a2,W.ixa,cx]
   have a0:h6.get S=some (.cells false (rc 64 λj=> .bool (Rc a i (s+1) j))):=by
    rw[Z.old S om (ap S (dT _)),o5 S om,g4,lH];congr 2
    exact dJ λj _=>by
     rw[PY]
     by_cases e:j=it a s i
     ·rw[bJ e,bJ e]
     ·rw[bU e,bU e]
   have el:ints (zi ((List.range (s+1)).map λt=>it a t i))=ints (zi ((List.range s).map λt=>it a t i))++ [aC (it a s i:Nat)]:=by
    rw[List.range_succ,List.map_append];simp [zi,ints]
   refine⟨kW a i-(s+1),om,s+1,_,aB rfl,om,λ_=>f,by rw[el];exact Z.own (by rw[aP,aS];simp) rfl om,J6,a0,om,rfl⟩
 clear r w x
 rintro o G ⟨p,c,⟨g,rfl⟩,B,hc,r,w,x⟩
 have P:=dH.lens B (n:=c.length) (by rw[aP,aS])
 rcases hc with ⟨f,rfl⟩|⟨f,rfl⟩
 ·have d2:decide ((0:Int)<((IL a i).length:Int))=true:=cI (by rw[zB];omega)
  have u:=acV (a:=a) (n:=n) (i+1) om
  have U:=(Iu l).1 f
  rw[U] at u
  have hg:(xC a n).getD (HI a n i).length []=IL a i:=by rw[TJ u (by simp)];exact kQ
  have y:=u.length_le
  rw[iV] at y
  simp(disch:=omega)only[go_sem,P,d2]
  refine (hy _ G p (by simp at y;omega) r (by rw[hg];exact B.sv) om).mono ?_
  rintro _ h4 ⟨rfl,J4,f4⟩
  simp(disch:=omega)only[go_sem]
  rw[fJ i]
  refine⟨n-(i+1),om,i+1,aB rfl,om,by rw[U,iV];exact J4,by rw[f4.get S x (λh=>by have:S<F:=h;omega)];exact w,jM x f4.next,rfl⟩
 ·have d2:decide ((0:Int)<((0:Nat):Int))=false:=rfl
  simp(disch:=omega)only[go_sem,P,d2]
  rw[fJ i]
  exact⟨n-(i+1),om,i+1,aB rfl,om,by rw[(Iu l).2 f];exact r,w,x,rfl⟩
end
theorem Bc (u:V)(ws:List V)(n:Nat)(h:H)(L:1<=n)(P:n<=64)(U:ws.length<1000000)(J:SV h u 1 ws)(w: ∀i,i<ws.length-> ∃a,aY n a/\SI h (ws.getD i .undef) (zi a)):Ev T 158 [u] h (λv h'=>v= aC 0/\Fr h h'):=by
 refine dW Iy rfl ?_;have A:bL u=some (aC (ws.length:Int)):=by unfold bL;rw[SV.len J (n:=ws.length) om om];rfl
 obtain⟨id,b,z,l,x⟩:=SV.shape J ws.length om om;have k: ∀i:Nat,i<ws.length->h.cell id (b+i)=some (ws.getD i .undef):=λi hi=>by rw[x i om];simp [List.getD,hi]
 simp(disch:=omega)only[go_sem,Iy,aE,A];refine bQ (λp j=>(∃g:Nat->V,p= [u,aC 0,g 2,g 3,g 4,g 5,g 6,g 7,g 8,g 9,g 10,g 11,g 12,g 13,g 14])/\Fr h j) ?_ ?_
 ·refine aI (λt p j=> ∃(i:Nat),(∃g:Nat->V,p= [u,aC 0,g 2,g 3,g 4,u,aC (ws.length:Int),aC i,g 8,g 9,g 10,g 11,g 12,g 13,g 14])/\i<=ws.length/\Fr h j/\t=ws.length-i) ws.length
   ⟨0,aB rfl,iB _,Fr.refl h,rfl⟩ ?_
  rintro t d q ⟨i,⟨g,rfl⟩,hi,f,rfl⟩
  by_cases c:(i:Int)<(ws.length:Int)
  ·have m:=cI c
   have o:i<ws.length:=om
   have ci:q.cell id (b+i)=some (ws.getD i .undef):=by rw[f.cell (l om),k i om]
   obtain⟨a,X,r⟩:=w i o;generalize ws.getD i .undef=F at ci r;simp(disch:=omega)only[go_sem,m,z.ixa,ci];refine (wW F _ q (by rw[aS,X.len];omega) (r.mono f)).mono ?_;rw[Wm X om om];rintro _ K ⟨rfl,N⟩;simp(disch:=omega)only[go_sem];refine bA (λk=>(k rfl).elim) (λ_=>?_);simp(disch:=omega)only[go_sem];rw[fJ i];exact⟨ws.length-(i+1),om,i+1,aB rfl,om,f.trans N,rfl⟩
  ·have m:=bI c
   simp(disch:=omega)only[go_sem,m];exact⟨aB rfl,f⟩
 rintro d q ⟨⟨g,rfl⟩,f⟩;simp(disch:=omega)only[go_sem,A];refine bQ (λp j=>(∃g:Nat->V,p= [u,aC 0,g 2,g 3,g 4,g 5,g 6,g 7,g 8,g 9,g 10,g 11,g 12,g 13,g 14])/\Fr h j) ?_ ?_
 ·refine aI (λt p j=> ∃(i:Nat),(∃g:Nat->V,p= [u,aC 0,g 2,g 3,g 4,g 5,g 6,g 7,g 8,g 9,u,aC (ws.length:Int),aC i,g 13,g 14])/\i<=ws.length/\Fr h j/\t=ws.length-i) ws.length
   ⟨0,aB rfl,iB _,f,rfl⟩ ?_
  clear f;rintro t d q ⟨i,⟨g,rfl⟩,hi,f,rfl⟩
  by_cases c:(i:Int)<(ws.length:Int)
  ·have m:=cI c
   have o:i<ws.length:=om
   have ci:q.cell id (b+i)=some (ws.getD i .undef):=by rw[f.cell (l om),k i om]
   have y:q.cell id (b+0)=some (ws.getD 0 .undef):=by rw[f.cell (l om),k 0 om]
   obtain⟨a,X,r⟩:=w i o;obtain⟨Q,O,s⟩:=w 0 om;generalize ws.getD i .undef=F at ci r;generalize ws.getD 0 .undef=R at y s;have G:=r.lens;have B:=s.lens;rw[aS,X.len] at G;rw[aS,O.len] at B;have e:Gr 1 u (aC 0)=some (.ptr id (b+0)):=z.ixa .i64 0 om om;rw[Nat.add_zero] at e y;simp(disch:=omega)only[go_sem,m,z.ixa,ci,e,y,G,B];refine bA (λk=>(k rfl).elim) (λ_=>?_);simp(disch:=omega)only[go_sem];rw[fJ i];exact⟨ws.length-(i+1),om,i+1,aB rfl,om,f,rfl⟩
  ·have m:=bI c
   simp(disch:=omega)only[go_sem,m];exact⟨aB rfl,f⟩
 rintro d K ⟨⟨g,rfl⟩,f⟩;simp(disch:=omega)only[go_sem];exact f
theorem Iq (l:List Nat)(k:Nat):Ft (l.take k)∣Ft l:=(Cq _ _).2 λc a=>(Cq l _).1 (Nat.dvd_refl _) c (List.mem_of_mem_take a)
theorem Ma (l:List Nat)(k:Nat)(a:k<l.length):Ft (l.take (k+1))=Ft (l.take k)/Nat.gcd (Ft (l.take k)) (l.getD k 0)*l.getD k 0:=by
 unfold Ft;rw[eY 0 a,List.foldl_append];rfl
theorem Tg {n:Nat}(a:n<=7):n^n<=823543:=by
 have: ∀m,m<8->m^m<=823543:=by decide
 exact this n om
structure OrJ (h:H)(A b id2:Nat)(va:V)(a:List Nat)(r:fK)(m:Nat)(hh:H):Prop where
 gr:hh.get id2=some (.loop r)
 gA:hh.get A=aF [aC m]
 gb:hh.get b=aF [va]
 si:SI hh va (zi a)
 nx:id2<hh.next
 fr:Fr h hh
theorem KD (a:V)(h:H)(i:a.cells= [a])(f:a.one=true):Ev T 225 [a] h (λv h'=> ∃b,v= .fn 246 [] [.ptr b 0]/\b=h.next/\h'.get b=aF [a]/\h'.next=h.next+1/\Fr h h'):=by
 refine dW Ef rfl ?_;obtain⟨j,e,g,d,k,c⟩:=dK (h:=h) rfl [a];simp(disch:=omega)only[go_sem,Ef,aE,mE i f h,e];exact⟨h.next,rfl,rfl,d,g,c⟩
theorem XM (w:V)(n:Nat)(a:List Nat)(h:H)(a2:1<=n)(hn:n<=7)(A:aY n a)(O:SI h w (zi a)):
  Ev T 185 [w] h (λv h'=>v= .tup [aC (oJ a n:Nat),aC 0]/\Fr h h'):=by
 refine dW Iw rfl ?_
 obtain⟨S,hS⟩:=exI h.next
 obtain⟨h1,e1,n1,g1,o1,f1⟩:=dK hS [w]
 have on:=(SV.cT O).2.1
 simp(disch:=omega)only[go_sem,Iw,aE,cK h (z:= .aD) (v:=w) (SV.cT O).1 on,hS,e1]
 have b8: ∀i,i< [w].length-> ∃a,aY n a/\SI h1 ([w].getD i .undef) (zi a):=λi hi=>by
  obtain rfl:i=0:=by simp at hi;omega
  exact⟨a,A,O.mono f1⟩
 refine (Bc (.sl S 0 1 (.kn 1)) [w] n h1 a2 om (by simp) (SV.one om g1 _) b8).mono ?_
 rintro _ P ⟨rfl,f2⟩
 simp(disch:=omega)only[go_sem]
 refine bA (λhc=>(hc rfl).elim) (λ_=>?_)
 obtain⟨B,hB⟩:=exI P.next
 obtain⟨h3,e3,n3,g3,o3,f3⟩:=dK hB [aC 0]
 obtain⟨h4,e4,n4,g4,o4⟩:=mV h3 B [aC 1]
 have b7: ∀(s:H) (y:V),eU (aF [aC 0]) s B 0 [y]=some (s.set B (aF [y])):=λs y=>bT (by simp) s _ _
 simp(disch:=omega)only[go_sem,hB,e3,g3,b7,e4]
 refine (KD w h4 (SV.cT O).1 on).mono ?_
 rintro _ h5 ⟨b,rfl,hb,g5,n5,f5⟩
 simp(disch:=omega)only[go_sem]
 refine⟨rfl,wF λr R=>?_⟩
 obtain⟨g,U⟩:=exI h5.next
 rw[U]
 have jI:r.st= .ready:=by rw[R]
 have a6:r.pend=none:=by rw[R]
 obtain⟨L,N⟩: ∃L,L=h5.new (.loop r):=⟨_,rfl⟩
 have b3:L.get g=some (.loop r):=by rw[N,←U,H.aL]
 have n6:L.next=g+1:=by rw[N,H.aW,U]
 have f6:Fr h5 L:=by rw[N];exact (Fr.refl h5).new _
 rw[←N]
 have F2:=f1.trans f2
 have F3:=F2.trans f3
 have hs:=F2.next
 have F4:Fr h h4:=⟨by rw[n4];exact F3.next,λq t=>by rw[o4 q om];exact F3.get q t⟩
 have F6:=(F4.trans f5).trans f6
 have c2:g=b+1:=om
 have b9:L.get B=aF [aC 1]:=by rw[f6.get _ om,f5.get _ om];exact g4
 have b0:L.get b=aF [w]:=by rw[f6.get _ om];exact g5
 have J0:OrJ h B b g w a r (Ft (((xC a n).map List.length).take 0)) L:=⟨b3,b9,b0,O.mono F6,om,F6⟩
 refine (CN g b w n a L a2 om A (g+1) om om b0 om (O.mono F6) (λk s=>OrJ h B b g w a r (Ft (((xC a n).map List.length).take k)) s) J0
  (λk s h' j hx t=>⟨by rw[t _ om];exact j.gr,by rw[t _ om];exact j.gA,by rw[t _ om];exact j.gb,O.mono ⟨mY j.fr.next hx,λq Y=>by rw[t _ om];exact j.fr.get q Y⟩,jM j.nx hx,⟨mY j.fr.next hx,λq Y=>by rw[t _ om];exact j.fr.get q Y⟩⟩)
  (λk s j=>⟨j.gb,j.si⟩) ?_).mono ?_
 ·intro k s v hk j a4 c3
  obtain⟨m,hm⟩:=exI (Ft (((xC a n).map List.length).take k))
  obtain⟨c,Z⟩:=exI ((xC a n).getD k [])
  have a7:((xC a n).map List.length).getD k 0=c.length:=by rw[oI _ (d:= []) hk,Z]
  have b2:k<((xC a n).map List.length).length:=by rw[iA];exact hk
  have J:=Ma ((xC a n).map List.length) k b2
  rw[hm,a7] at J
  have hp:=Zj A
  have a8:=mY (GS A) (Tg hn)
  have c4:m<=823543:=mY (by rw[←hm];exact Nat.le_of_dvd hp (Iq _ k)) a8
  have b1:Ft (((xC a n).map List.length).take (k+1))<=823543:=mY (Nat.le_of_dvd hp (Iq _ (k+1))) a8
  have c6:1<=c.length/\c.length<=7:=by
   have:=bC (l:=xC a n) (d:= []) hk;rw[Z] at this;obtain⟨i,hi,rfl⟩:=pH.1 this;have a5:i<n:=by unfold Pd at hi;exact Dj.1 (Rq.1 hi).1
   rw[zB];have:=(nJ A a5).1;have:=Wo A a5;omega
  rw[Z] at a4
  have lv:=a4.lens
  rw[aS] at lv
  rw[hm] at j
  refine uC j.gr (by rw[R];rfl) jI λK g9 n9 o9=>?_
  rw[congrArg fK.assign R,congrArg fK.vars R,congrArg fK.pars R]
  simp(disch:=omega)only[go_sem,List.zip_cons_cons,List.zip_nil_left]
  rw[congrArg fK.body R]
  have nx:=j.nx
  have a1:K.get B=aF [aC m]:=by rw[o9 _ om];exact j.gA
  simp(disch:=omega)only[go_sem,H.cell_of a1,lv]
  refine (afL Fe.ok m c.length _ om om).mono ?_
  rintro _ f ⟨rfl,a0⟩
  have b6:K.next+10<=f.next:=a0.next
  have o: ∀q,q<K.next->f.get q=K.get q:=λq t=>a0.get q (by show q<K.next+10;omega)
  have u:f.get B=aF [aC m]:=by rw[o _ om];exact a1
  obtain⟨G,hG⟩:=exI (Nat.gcd m c.length)
  rw[hG] at J
  rw[hG]
  have c7:0<G:=by rw[←hG];exact Nat.gcd_pos_of_pos_right _ om
  have b5:(G:Int)≠0:=om
  have a3:(m:Int).tdiv (G:Int)=((m/G:Nat):Int):=by rw[Int.tdiv_eq_ediv_of_nonneg om];rfl
  have c0:m/G<=m:=Nat.div_le_self _ _
  have W:((m/G:Nat):Int)*(c.length:Int)=((Ft (((xC a n).map List.length).take (k+1)):Nat):Int):=by rw[J,Int.natCast_mul]
  generalize Ft (((xC a n).map List.length).take (k+1))=m2 at W b1 J
  generalize m/G=q at a3 c0 W J
  have pt: ∀(s:H) (y:V),eU (aF [aC m]) s B 0 [y]=some (s.set B (aF [y])):=λs y=>bT (by simp) s _ _
  simp(disch:=omega)only[go_sem,b5,a3,W,lv,H.cell_of u,u,pt]
  refine pU jI a6 (by rw[H.aH _ om];rw[o _ om];exact g9) ?_
  obtain⟨F,p⟩: ∃F,F=(f.set B (aF [aC m2])).set g (some (.loop r)):=⟨_,rfl⟩
  rw[←p]
  have c5:F.next=f.next:=by rw[p];rfl
  have Q: ∀q,q≠B->q≠g->F.get q=f.get q:=λq h1 P=>by rw[p,H.aH _ P,H.aH _ h1]
  have b4:=j.fr.next
  have a9:Fr h F:=⟨om,λq t=>by rw[Q q om om,o q om,o9 q om];exact j.fr.get q t⟩
  exact⟨rfl,⟨by rw[p,H.aU],by rw[p,H.aH _ om,H.aU],by rw[Q b om om,o b om,o9 b om];exact j.gb,O.mono a9,om,a9⟩,⟨om,λq h1 P=>by rw[Q q (λe=>P om) (λe=>P om),o q om,o9 q (λe=>P om)]⟩⟩
 ·rintro _ K j
  rw[show (xC a n).length=((xC a n).map List.length).length from (iA _).symm,List.take_length] at j
  have b1:oJ a n<=823543:=mY (GS A) (Tg hn)
  have j':OrJ h B b g w a r (oJ a n) K:=j
  refine⟨r,j'.gr,by rw[jI];simp,?_⟩
  have en:r.pend.getD .norm= .norm:=by rw[a6];rfl
  rw[en]
  obtain⟨f,x⟩: ∃f,f=K.set g (some (.loop {r with st:= .out})):=⟨_,rfl⟩
  have o: ∀q,q≠g->f.get q=K.get q:=λq t=>by rw[x,H.aH _ t]
  have b6:f.next=K.next:=by rw[x];rfl
  have u:f.get B=aF [aC (oJ a n:Nat)]:=by rw[o _ om];exact j'.gA
  have b4:=j'.fr.next
  have c1:Fr h f:=⟨om,λq t=>by rw[o q om];exact j'.fr.get q t⟩
  rw[←x]
  simp(disch:=omega)only[go_sem,H.cell_of u]
  exact c1
theorem Sj (h:H)(n:Nat)(a:n<=100000):Jz h 1 1 [.int .u8 0] (aC n) (aC n)=some (.sl h.next 0 n (.kn n),h.new (.cells false (rc n λ_=> .int .u8 0))):=by
 rw[uM om (Int.le_refl _) om om,DK,tW]
 have e:dP [V.int .u8 0] n=rc n λ_=> .int .u8 0:=by
  symm;refine Lq ?_ λi hi=>?_
  ·simp [dP]
  ·simp [dP,hi,Nat.mod_one]
 rw[e]
theorem Gj: ∀l:List Nat,(∀x∈l,x<256)->qL (l.map λ(x:Nat)=>V.int .u8 (x:Int))=some l
 | [],_=>rfl
 |x::r,h=>by
  have b:=h x (by simp);show (if 0<=(x:Int)/\(x:Int)<256 then (qL (r.map λ(x:Nat)=>V.int .u8 (x:Int))).map ((x:Int).toNat:: ·) else none)=_;rw[bJ ⟨om,om⟩,Gj r λy a=>h y (by simp [a])]
  rfl
theorem IQ (u:V)(a:List Nat)(h:H)(U:a.length<=1000)(K: ∀x∈a,x<256)(J:SI h u (zi a)):
  Ev T 182 [u] h (λv h'=>v= .str a/\Fr h h'):=by
 refine dW pN rfl ?_
 obtain⟨n,q⟩:=exI a.length
 have z:=J.lens
 rw[aS,q] at z
 obtain⟨id,off,N,m,B⟩:=J.open
 rw[aS,q] at N m B
 simp(disch:=omega)only[go_sem,pN,aE,z,Sj h n om]
 have g:Fr h (h.new (.cells false (rc n λ_=> .int .u8 0))):=(Fr.refl h).new _
 have d:(h.new (.cells false (rc n λ_=> .int .u8 0))).get h.next=some (.cells false (rc n λ_=> .int .u8 0)):=H.aL ..
 have c:(h.new (.cells false (rc n λ_=> .int .u8 0))).next=h.next+1:=H.aW ..
 generalize h.new (.cells false (rc n λ_=> .int .u8 0))=R at*
 obtain⟨S,y⟩:=exI h.next
 rw[y] at d c
 rw[y]
 refine aI (λO b s=> ∃(i:Nat),(∃j:Nat->V,b= [u,j 1,.sl S 0 n (.kn n),j 3,j 4,u,aC n,aC i,j 8])/\i<=n/\
   s.get S=some (.cells false (rc n λj=>if j<i then .int .u8 ((a.getD j 0:Nat):Int) else .int .u8 0))/\s.next=S+1/\Fr h s/\O=n-i) n
  ⟨0,aB rfl,iB _,by rw[d];rfl,c,g,rfl⟩ ?_
 clear d g c
 rintro O b l ⟨i,⟨W,rfl⟩,hi,L,Q,F,rfl⟩
 simp(disch:=omega)only[go_sem]
 by_cases o:(i:Int)<(n:Int)
 ·rw[cI o]
  have f:i<n:=om
  have ci:l.cell id (off+i)=some (aC (a.getD i 0:Nat)):=by rw[F.cell (m om),B i f];congr 2;simp [zi,q,f]
  have r:=K (a.getD i 0) (bC om)
  generalize P:a.getD i 0=k at ci r
  have A:=bT (vs:=rc n λj=>if j<i then .int .u8 ((a.getD j 0:Nat):Int) else .int .u8 0) (off:=i) (by rw[iQ];exact f) l S (.int .u8 (k:Int))
  rw[lH] at A
  simp(disch:=omega)only[go_sem,N.ixa,ci,L,zG,A]
  rw[fJ i]
  refine⟨n-(i+1),om,i+1,aB rfl,om,?_,Q,F.set om _,rfl⟩
  congr 2
  refine dJ λj w=>?_
  by_cases e:j=i
  ·rw[bJ e,bJ om,e,P]
  ·rw[bU e]
   by_cases G:j<i
   ·rw[bJ G,bJ om]
   ·rw[bU G,bU om]
 rw[bI o]
 obtain rfl:i=n:=om
 have p:l.row S 0 i=some (a.map λ(x:Nat)=>V.int .u8 (x:Int)):=by
  have e:(rc i λj=>if j<i then V.int .u8 ((a.getD j 0:Nat):Int) else .int .u8 0)=a.map λ(x:Nat)=>V.int .u8 (x:Int):=Lq (by rw[iA,q]) λj w=>by
   rw[bJ w,Qy,dD om,List.getD,dD om];rfl
  unfold H.row;rw[L,e];simp only[sub];rw[bJ (by rw[iA];omega)];rw[List.drop_zero,Ro (by rw[iA];omega)]
 have t:LL l (.sl S 0 i (.kn i))=some (.str a):=by
  show (match l.row S 0 i with|some ys=>(qL ys).map V.str|none=>none)=_;rw[p];show (qL (a.map λ(x:Nat)=>V.int .u8 (x:Int))).map V.str=_;rw[Gj a K];rfl
 simp(disch:=omega)only[go_sem,HC,t]
 exact F
section
variable {y x g:List Nat}
section
variable {n:Nat} {G:List Nat->Prop} {O:LN} {R:jJ}
theorem one_le (Y:aY n y):Le (aX n) y:=by
 by_cases h: ∃k,k<n/\y.getD k 0≠k
 ·obtain⟨k,⟨b,m⟩,d⟩: ∃k,(k<n/\y.getD k 0≠k)/\ ∀j,j<k-> ¬(j<n/\y.getD j 0≠j):=by
   obtain⟨k,b⟩:=h
   induction k using Nat.strongRecOn with
   |_ k ih=>
    by_cases i: ∃j,j<k/\(j<n/\y.getD j 0≠j)
    ·obtain⟨j,l,q⟩:=i;exact ih j l q
    ·exact⟨k,b,λj c p=>i ⟨j,c,p⟩⟩
  have a: ∀j,j<k->y.getD j 0=j:=λj c=>Jj λf=>d j c ⟨om,f⟩
  refine .inr ⟨k,by rw[iH];exact b,λj c=>by rw[fM om,a j c],?_⟩;rw[fM b];refine Jj λo=>?_
  have e:y.getD k 0<k:=om
  have:=Y.inj om b (a _ e);omega
 ·exact .inl ((Fix.all Y λk b=>Jj λf=>h ⟨k,b,f⟩).symm)
theorem NQ (f:dO n G)(c:aV n G O R){i:Nat}(hi:i<n):0<(R.getD i []).length/\(R.getD i []).getD 0 []=aX n:=by
 have o:i∈O.getD i []:=(c.mem i hi i).2 ⟨aX n,f.one,Fix.one n i om,fM hi⟩;have d:0<(O.getD i []).length:=Rl o;have b:=c.rep i hi 0 d
 have q:(O.getD i []).getD 0 0=i:=by
  have a:(O.getD i []).getD 0 0∈O.getD i []:=bC d;obtain⟨x,s,fx,e⟩:=(c.mem i hi _).1 a
  have r: ¬(O.getD i []).getD 0 0<i:=λh=>by
   have X:=f.bF s;have:=X.inj (i:=(O.getD i []).getD 0 0) (j:=i) om hi (by rw[fx _ h,e]);omega
  obtain⟨k,p,v⟩:=Ad.1 o;have m:=GP.1 (c.asc i hi);have u:(O.getD i []).getD 0 0=(O.getD i [])[0]:=Pm.cW d
  by_cases l:k=0
  ·subst l;omega
  ·have:=m 0 k d p om
   omega
 rw[q] at b;refine⟨by rw[c.rl i hi];exact d,b.uniq ⟨f.one,Fix.one n i om,fM hi,λy t _ _=>one_le (f.bF t)⟩⟩
theorem bE (c:aV n G O R)(a:x∈bP R):G x:=by
 unfold bP at a;obtain⟨r,d,b⟩:=List.mem_flatMap.1 a;exact Jt c x (List.mem_flatten.2 ⟨r,d,List.mem_of_mem_drop b⟩)
theorem oG (b:dO n G)(c:aV n G O R)(j:G x):bM n (λg=>g∈bP R) x:=by
 have h:=(De b c x).2 j;have u: ∀g,g∈bP R->aY n g:=λg d=>b.bF (bE c d)
 clear j
 induction h with
 |one=>exact .one
 | @mul y g _ d ih=>
  obtain⟨r,o,q⟩:=List.mem_flatten.1 d;obtain⟨i,hi,t⟩:=Ad.1 o;have a:i<n:=by have:=c.lr;omega
  have f:R.getD i []=r:=by rw[List.getD,dD hi,←t];rfl
  obtain⟨p,m⟩:=NQ b c a;rw[f] at p m;obtain⟨k,s,l⟩:=Ad.1 q
  by_cases e:k=0
  ·subst e
   have:g=aX n:=by rw[←m,List.getD,dD s,←l];rfl
   rw[this,aZ (ih.bF u)];exact ih
  ·refine ih.mul ?_
   unfold bP;refine List.mem_flatMap.2 ⟨r,o,Ad.2 ⟨k- 1,by rw[Gb];omega,?_⟩⟩;rw[List.getElem_drop];simp only[show 1+(k- 1)=k by omega,l]
def aT (x g:List Nat):List Nat:=aM (aM (bZ g) x) g
theorem dC (X:aY n x)(g':aY n g):aY n (aT x g):=(g'.inv.mul X).mul g'
theorem iZ (X:aY n x):aT x (aX n)=x:=by
 unfold aT;rw[oX,bX X,aZ X]
theorem gW {k:List Nat}(X:aY n x)(A:aY n g)(B:aY n k):aT x (aM g k)=aT (aT x g) k:=by
 unfold aT;rw[Av A B];have a:=A.inv;have b:=B.inv;rw[aG b a X,←aG (b.mul (a.mul X)) A B,←aG b (a.mul X) A|>.symm]
theorem jA (X:aY n x)(A:aY n g):aT (aT x g) (bZ g)=x:=by
 rw[←gW X A A.inv,cG A,iZ X]
def cj (G:List Nat->Prop)(x y:List Nat):Prop:= ∃g,G g/\aT x g=y
theorem abD (a:dO n G)(X:aY n x):cj G x x:=⟨aX n,a.one,iZ X⟩
theorem acC (a:dO n G)(X:aY n x)(h:cj G x y):cj G y x:=by
 obtain⟨g,b,rfl⟩:=h;exact⟨bZ g,a.inv b,jA X (a.bF b)⟩
theorem QR (a:dO n G){z:List Nat}(X:aY n x)(h:cj G x y)(h2:cj G y z):cj G x z:=by
 obtain⟨g,c,rfl⟩:=h;obtain⟨k,b,rfl⟩:=h2;exact⟨aM g k,a.mul c b,gW X (a.bF c) (a.bF b)⟩
theorem aiD {S:List Nat->Prop}(b: ∀g,S g->aY n g)(a: ∀x,G x->bM n S x){P:List Nat->Prop}(X:aY n x)(e:P x)(d: ∀y g,aY n y->P y->S g->P (aT y g))(h:cj G x y):P y:=by
 obtain⟨g,c,rfl⟩:=h;have:=a g c;clear c
 induction this with
 |one=>rw[iZ X];exact e
 | @mul z k hz hk ih=>
  rw[gW X (hz.bF b) (b k hk)];exact d _ _ (dC X (hz.bF b)) ih hk
end
end
end Go.Proofs.YtcdbmkidaecdiaaGreat
namespace Go.Proofs.YtcdbmkidaecdiaaGreat.Cls
open Go Go.Ay Go.Sort
set_option maxRecDepth 100000
section
variable {h:H} {S N i j a:Nat}
def ajB (ρ:Nat->Nat):fO->fO
 | .op i=> .op i
 | .call f xs=> .call (ρ f) xs
 | .callv x xs=> .callv x xs
def YR (ρ:Nat->Nat)(i:It):It:=⟨i.d,i.g,ajB ρ i.a⟩
def ahM (ρ:Nat->Nat)(i:AI):AI:=⟨i.i,YR ρ i.it,i.al,i.cks⟩
def Jo (ρ:Nat->Nat):C->C
 | .skip=> .skip
 | .reg l=> .reg (l.map (YR ρ))
 | .any k n l=> .any k n (l.map (ahM ρ))
 | .seq a b=> .seq (Jo ρ a) (Jo ρ b)
 | .ite x a b=> .ite x (Jo ρ a) (Jo ρ b)
 | .block i c=> .block i (Jo ρ c)
 | .loop c=> .loop (Jo ρ c)
 | .exit i=> .exit i
 | .ret=> .ret
 | .range f p a b=> .range f p a b
 | .fail=> .fail
def Vt (ρ:Nat->Nat)(f:Ay.Fn):Ay.Fn:=⟨f.nargs,f.init,f.results,Jo ρ f.body,f.srt⟩
attribute [go_sem] Vt Jo ahM YR ajB List.map_cons List.map_nil
def sK:List Nat:= [247,260,248,227,254,253,252,249,250,264,262,261,251,186]
class bN (α:Type)[Inhabited α] where
 lt:α->α->Bool
 enc:α->List V
 P:α->Prop
 B:H->Prop
 f:Nat
 b0:Nat
 S:Nat
 swo:SWO lt
 len: ∀a,(enc a).length=4
 one: ∀a,(enc a).all V.one=true
 eqv: ∀a,dI (.agg (enc a)) (.agg (enc a))=true
 cmp: ∀h a b,B h->P a->P b->Ev T f [.agg (enc a),.agg (enc b)] h (λv h'=> ∃z,v= aC z/\decide (z<0)=lt a b/\Fr h h')
 bfr: ∀h h',B h->Fr h h'->B h'
 bS: ∀h h',B h->Fx (· =S) h h'->B h'
 bR: ∀h h' R,B h->b0<=R->Fx (· =R) h h'->B h'
 bn: ∀h,B h->b0<=h.next
 ρ:Nat->Nat
 hT: ∀k,k∈sK->T (ρ k)=(T k).map (Vt ρ)
 s1:ρ 128=128
 s2:ρ 212=212
 s3:ρ 213=213
@[go_sem] theorem akP {α:Type}[Inhabited α][O:bN α]:O.ρ 128=128:=O.s1
@[go_sem] theorem akC {α:Type}[Inhabited α][O:bN α]:O.ρ 212=212:=O.s2
@[go_sem] theorem akL {α:Type}[Inhabited α][O:bN α]:O.ρ 213=213:=O.s3
theorem wH {α:Type}[Inhabited α][O:bN α]{k:Nat}{c:Ay.Fn}(h:T k=some c)(m:k∈sK):T (O.ρ k)=some (Vt O.ρ c):=by
 rw[O.hT k m,h]
 rfl
def flat {α:Type}[Inhabited α][bN α](l:List α):List V:=l.flatMap bN.enc
structure dY {α:Type}[Inhabited α][O:bN α](h:H)(S N:Nat)(d:Array α):Prop where
 get:h.get S=aF (flat d.toList)
 size:d.size=N
 lt:S<h.next
 eqS:S=O.S
 base:O.B h
 all: ∀i,i<d.size->O.P d[i]!
section
variable {α:Type} [Inhabited α] [O:bN α]
theorem uK: ∀l:List α,(flat l).length=l.length*4
 | []=>rfl
 |x::r=>by
  show (bN.enc x++flat r).length=_;rw[iV,bN.len,uK r,List.length_cons];omega
theorem Ju: ∀(l:List α) (i:Nat),(flat l).drop (i*4)=flat (l.drop i)
 |l,0=>by simp
 | [],i+1=>by simp [flat]
 |x::r,i+1=>by
  show (bN.enc x++flat r).drop ((i+1)*4)=_;rw[List.drop_append,List.drop_eq_nil_of_le (by rw[bN.len];omega),bN.len,List.nil_append,show (i+1)*4- 4=i*4 by omega,Ju r i,List.drop_succ_cons]
theorem Sz: ∀(l:List α) (i:Nat),(flat l).take (i*4)=flat (l.take i)
 |l,0=>by simp [flat]
 | [],i+1=>by simp [flat]
 |x::r,i+1=>by
  show (bN.enc x++flat r).take ((i+1)*4)=_;rw[List.take_append,Ro (by rw[bN.len];omega),bN.len,show (i+1)*4- 4=i*4 by omega,Sz r i,List.take_succ_cons];rfl
theorem aaD (h:H)(id off:Nat)(a:α):Wz h 4 (.ptr id off) (.agg (bN.enc a))=eU (h.get id) h id off (bN.enc a):=Di h id off 4 _ (bN.len a) (bN.one a)
theorem aaV (a:α):dI (.agg (bN.enc a)) (.agg (bN.enc a))=true:=bN.eqv a
theorem dY.rd {d:Array α}(A:dY h S N d)(hi:i<N):h.row S (i*4) 4=some (bN.enc d[i]!):=by
 have b:i<d.size:=by rw[A.size];exact hi
 have c:i<d.toList.length:=by simpa using b
 unfold H.row;rw[A.get];simp only[sub];rw[bJ (by rw[uK];omega),Ju,Zh c];show some ((bN.enc d.toList[i]++flat _).take 4)=_;rw[List.take_append,Ro (by rw[bN.len];exact dT _),bN.len];simp [b]
theorem dY.fr {h':H}{d:Array α}(A:dY h S N d)(f:Fr h h'):dY h' S N d:=⟨by rw[f.get _ A.lt];exact A.get,A.size,jM A.lt f.next,A.eqS,O.bfr _ _ A.base f,A.all⟩
theorem cJ {d:Array α}(hi:i<d.size)(hh:H)(S:Nat)(x:α):eU (aF (flat d.toList)) hh S (i*4) (bN.enc x)=some (hh.set S (aF (flat (d.setIfInBounds i x).toList))):=by
 have b:i<d.toList.length:=by simpa using hi
 have e:(flat d.toList).take (i*4)++bN.enc x++(flat d.toList).drop (i*4+4)=flat (d.setIfInBounds i x).toList:=by
  rw[Array.toList_setIfInBounds,List.set_eq_take_append_cons_drop,bJ b,Sz,show i*4+4=(i+1)*4 by omega,Ju];simp [flat]
 simp only[eU,putAt,bN.len];rw[bJ (by rw[uK];omega),e];rfl
theorem bW {d:Array α}{y:α}(hi:i<d.size)(hh:H)(S:Nat)(x:α):eU (aF (flat (d.setIfInBounds j y).toList)) hh S (i*4) (bN.enc x)=some (hh.set S (aF (flat ((d.setIfInBounds j y).setIfInBounds i x).toList))):=
 cJ (by simpa using hi) hh S x
theorem dY.swap {h2:H}{d:Array α}(A:dY h S N d){nx:Nat}(f:h.next<=nx)(e:h2=((H.mk h.tr nx).set S (aF (flat (d.setIfInBounds i d[j]!).toList))).set S (aF (flat ((d.setIfInBounds i d[j]!).setIfInBounds j d[i]!).toList)))(hi:i<N:=by omega)(p:j<N:=by omega):dY h2 S N (swp d i j)/\Fx (· =S) h h2:=by
 subst e
 have fx:Fx (· =S) h (((H.mk h.tr nx).set S (aF (flat (d.setIfInBounds i d[j]!).toList))).set S (aF (flat ((d.setIfInBounds i d[j]!).setIfInBounds j d[i]!).toList))):=⟨f,λid _ g=>by rw[H.aH _ g,H.aH _ g];rfl⟩
 have sz:=A.size;refine⟨⟨?_,?_,jM A.lt f,A.eqS,O.bS _ _ A.base (by have:=A.eqS;subst this;exact fx),?_⟩,fx⟩
 ·rw[H.aU];rfl
 ·simp [swp,sz]
 ·intro k o
  have b:k<d.size:=by simpa [swp] using o
  unfold swp
  have c: ∀(x:Array α) (u:Nat) (y:α),k<x.size->(x.setIfInBounds u y)[k]! =if u=k then y else x[k]! :=λx u y n=>by
   rw[getElem!_pos (x.setIfInBounds u y) k (by simpa using n),getElem!_pos x k n,Array.getElem_setIfInBounds]
  rw[c _ _ _ (by simpa using b),c _ _ _ b]
  by_cases l:j=k
  ·rw[bJ l];exact A.all i om
  ·rw[bU l]
   by_cases m:i=k
   ·rw[bJ m];exact A.all j om
   ·rw[bU m];exact A.all k b
theorem jQ {d:Array α}(A:dY h S N d)(hi:i<N)(c:j<N)(nx:Nat)(b:h.next<=nx):Ev T (bN.f α) [.agg (bN.enc d[i]!),.agg (bN.enc d[j]!)] (H.mk h.tr nx) (λv h'=> ∃z,v= aC z/\decide (z<0)=bN.lt d[i]! d[j]! /\Fr (H.mk h.tr nx) h'):=
 O.cmp _ _ _ (O.bfr _ _ A.base ((Fr.refl h).bH b)) (A.all i (by rw[A.size];exact hi)) (A.all j (by rw[A.size];exact c))
end
attribute [go_sem] aaD aaV H.BJ
theorem gZ {a b c:H}(x:Fx (· =S) a b)(y:Fx (· =S) b c):Fx (· =S) a c:=x.trans y λ_ _ h=>h
theorem EI {α:Type}[Inhabited α]{lt:α->α->Bool}{d:Array α}(b:a<j+1)(h2:lt d[j+1]! d[j]! =true):insInner lt a (j+1) d=insInner lt a j (swp d (j+1) j):=by
 rw[insInner,bJ (by simp [b,h2])]
theorem DO {α:Type}[Inhabited α]{lt:α->α->Bool}{d:Array α}(h2:lt d[j+1]! d[j]! =false):insInner lt a (j+1) d=d:=by
 rw[insInner,bU (by simp [h2])]
theorem CL {α:Type}[Inhabited α]{lt:α->α->Bool}{d:Array α}(h:j<=a):insInner lt a j d=d:=by
 cases j with
 |zero=>rfl
 |succ j=>rw[insInner,bU (by simp;omega)]
theorem yY {α:Type}[Inhabited α][O:bN α](h:H)(S N a b:Nat)(d:Array α)(x:pY)(hN:N<1000000)(A:dY h S N d)(hb:b<=N)(Q:a<=b):
  Ev T (bN.ρ α 247) [.sl S 0 N x,aC a,aC b,.fn (bN.f α) [] []] h (λ_ h'=>dY h' S N (insertionSort bN.lt d a b)/\Fx (· =S) h h'):=by
 refine mX (wH (α:=α) dV.ok (by decide)) rfl ?_
 simp(disch:=omega)only[go_sem,dV,aE]
 rw[fJ a]
 refine aI (λu c q=> ∃(i:Nat) (e:Array α),(∃g:Nat->V,c= [.sl S 0 N x,aC a,aC b,.fn (bN.f α) [] [],aC i,g 5,g 6,g 7])/\a<i/\i<=b+1/\dY q S N e/\insOuter bN.lt a b i e=insertionSort bN.lt d a b/\Fx (· =S) h q/\u=b+1-i) (b+1-(a+1))
  ⟨a+1,d,aB rfl,om,om,A,rfl,Fx.refl _ h,rfl⟩ ?_
 clear A
 rintro u c h1 ⟨i,e,⟨g,rfl⟩,R,K,A,k,F,rfl⟩
 simp(disch:=omega)only[go_sem]
 by_cases s:(i:Int)<(b:Int)
 case neg=>
  rw[bI s];simp(disch:=omega)only[go_sem];rw[insOuter,bU om] at k;rw[←k];exact⟨A,F⟩
 rw[cI s]
 rw[insOuter,bJ om] at k
 simp(disch:=omega)only[go_sem]
 refine aI (λu c q=> ∃(j:Nat) (l:Array α),(∃g:Nat->V,c= [.sl S 0 N x,aC a,aC b,.fn (bN.f α) [] [],aC i,aC j,g 6,g 7])/\a<=j/\j<=i/\dY q S N l/\insInner bN.lt a j l=insInner bN.lt a i e/\Fx (· =S) h q/\u=j) i
  ⟨i,e,aB rfl,om,om,A,rfl,F,rfl⟩ ?_
 clear A F
 rintro u c o ⟨j,l,⟨g2,rfl⟩,P,U,A,p,F,hk⟩
 have sz:=A.size
 by_cases t:(a:Int)<(j:Int)
 ·obtain⟨m,rfl⟩: ∃m,j=m+1:=⟨j- 1,om⟩
  have Z:=A.rd (i:=m+1) om
  have Y:=A.rd (i:=m) om
  have w:=cI t
  have G:((m+1:Nat):Int)- 1=(m:Int):=om
  simp(disch:=omega)only[go_sem,w,G,Z,Y]
  refine (jQ A (i:=m+1) (j:=m) om om _ om).mono ?_
  rintro _ y ⟨z,rfl,J,v⟩
  have n:Fr o y:=Fr.trans ((Fr.refl o).bH om) v
  have r:=A.fr n
  have L:=r.rd (i:=m+1) om
  have c4:=r.rd (i:=m) om
  cases hl:bN.lt l[m+1]! l[m]! with
  |false=>
   rw[DO hl] at p;simp(disch:=omega)only[go_sem,J,hl];rw[fJ i];rw[←p] at k;exact⟨b+1-(i+1),om,i+1,l,aB rfl,om,om,r,k,gZ F (Fx.of n),rfl⟩
  |true=>
   rw[EI om hl] at p;simp(disch:=omega)only[go_sem,J,hl,G,L,c4,r.get,cJ,bW];have W:=r.swap (i:=m+1) (j:=m) (nx:=y.next+18) om rfl;exact⟨m,om,m,_,aB rfl,om,om,W.1,p,gZ (gZ F (Fx.of n)) W.2,rfl⟩
 ·have w:=bI t
  rw[CL om] at p
  simp(disch:=omega)only[go_sem,w]
  rw[fJ i]
  rw[←p] at k
  have B:Fr o (H.mk o.tr (o.next+17)):=(Fr.refl o).bH om
  exact⟨b+1-(i+1),om,i+1,l,aB rfl,om,om,A.fr B,k,gZ F (Fx.of B),rfl⟩
end
def EO {α:Type}[Inhabited α](lt:α->α->Bool)(hi first root:Nat)(d:Array α):Nat:=if 2*root+1+1<hi/\lt d[first+(2*root+1)]! d[first+(2*root+1)+1]! =true then 2*root+2 else 2*root+1
theorem Hk {α:Type}[Inhabited α]{lt:α->α->Bool}(hi first a:Nat)(d:Array α):siftDown lt hi first a d=if 2*a+1≥hi then d else
  if lt d[first+a]! d[first+EO lt hi first a d]! =true then siftDown lt hi first (EO lt hi first a d) (swp d (first+a) (first+EO lt hi first a d)) else d:=by
 rw[siftDown]
 unfold EO
 by_cases b:2*a+1≥hi
 ·rw[dif_pos b,bJ b]
 ·rw[dif_neg b,bU b]
  by_cases c:2*a+1+1<hi/\lt d[first+(2*a+1)]! d[first+(2*a+1)+1]! =true
  ·rw[bJ (by simpa using c),bJ c]
   cases h3:lt d[first+a]! d[first+(2*a+2)]!
   ·simp
   ·simp [show 2*a+2<hi by omega]
  ·rw[bU (by simpa using c),bU c]
   cases h3:lt d[first+a]! d[first+(2*a+1)]! <;>simp
theorem rU  {α:Type}[Inhabited α][O:bN α](h:H)(S N x hi first:Nat)(d:Array α)(cp:pY)(hN:N<1000000)(A:dY h S N d)(hb:first+hi<=N)(U:x<=hi):
  Ev T (bN.ρ α 260) [.sl S 0 N cp,aC x,aC hi,aC first,.fn (bN.f α) [] []] h (λ_ h'=>dY h' S N (siftDown bN.lt hi first x d)/\Fx (· =S) h h'):=by
 refine mX (wH (α:=α) eS.ok (by decide)) rfl ?_
 simp(disch:=omega)only[go_sem,eS,aE]
 refine aI (λk' w hh=> ∃(r:Nat) (e:Array α),(∃g:Nat->V,w= [.sl S 0 N cp,aC x,aC hi,aC first,.fn (bN.f α) [] [],aC r,g 6,g 7,g 8,g 9])/\r<=hi/\dY hh S N e/\siftDown bN.lt hi first r e=siftDown bN.lt hi first x d/\Fx (· =S) h hh/\k'=hi-r) (hi-x)
  ⟨x,d,aB rfl,U,A,rfl,Fx.refl _ h,rfl⟩ ?_
 clear A
 rintro k' w q ⟨r,e,⟨g,rfl⟩,hr,A,a,F,rfl⟩
 have Q:2*(r:Int)+1=((2*r+1:Nat):Int):=om
 by_cases B:(hi:Int)<=((2*r+1:Nat):Int)
 ·have P:=cI B
  simp(disch:=omega)only[go_sem,Q,P]
  rw[Hk,bJ om] at a
  rw[←a]
  exact⟨A,F⟩
 have P:=bI B
 rw[Hk,bU om] at a
 have R:((2*r+1:Nat):Int)+1=((2*r+2:Nat):Int):=om
 have c:(first:Int)+(r:Int)=((first+r:Nat):Int):=om
 have l:(first:Int)+((2*r+1:Nat):Int)=((first+(2*r+1):Nat):Int):=om
 have J:(first:Int)+((2*r+2:Nat):Int)=((first+(2*r+2):Nat):Int):=om
 have a0:((first+(2*r+1):Nat):Int)+1=((first+(2*r+1)+1:Nat):Int):=om
 have sz:=A.size
 by_cases L:((2*r+2:Nat):Int)<(hi:Int)
 ·have Z:=cI L
  have p:=A.rd (i:=first+(2*r+1)) om
  have G:=A.rd (i:=first+(2*r+1)+1) om
  simp(disch:=omega)only[go_sem,Q,P,R,Z,l,a0,p,G]
  refine (jQ A (i:=first+(2*r+1)) (j:=first+(2*r+1)+1) om om _ om).mono ?_
  rintro _ y ⟨z,rfl,n,Y⟩
  have K:Fr q y:=Fr.trans ((Fr.refl q).bH om) Y
  have t:=A.fr K
  have o:=t.rd (i:=first+r) om
  have p:=t.rd (i:=first+(2*r+1)) om
  have G:=t.rd (i:=first+(2*r+2)) om
  cases hl:bN.lt e[first+(2*r+1)]! e[first+(2*r+1)+1]! with
  |false=>
   have m:EO bN.lt hi first r e=2*r+1:=bU (by rw[hl];simp)
   rw[m] at a;simp(disch:=omega)only[go_sem,n,hl,c,l,o,p];refine (jQ t (i:=first+r) (j:=first+(2*r+1)) om om _ om).mono ?_;rintro _ s ⟨z,rfl,n,k⟩;have u:Fr y s:=Fr.trans ((Fr.refl y).bH om) k;have b:=t.fr u;have o:=b.rd (i:=first+r) om;have p:=b.rd (i:=first+(2*r+1)) om;have v:=gZ (gZ F (Fx.of K)) (Fx.of u)
   cases hl2:bN.lt e[first+r]! e[first+(2*r+1)]! with
   |false=>
    rw[bU (by rw[hl2];simp)] at a;simp(disch:=omega)only[go_sem,n,hl2];rw[←a];exact⟨b,v⟩
   |true=>
    rw[bJ hl2] at a;simp(disch:=omega)only[go_sem,n,hl2,c,l,o,p,b.get,cJ,bW];have W:=b.swap (i:=first+r) (j:=first+(2*r+1)) (nx:=s.next+24) om rfl;exact⟨hi-(2*r+1),om,2*r+1,_,aB rfl,om,W.1,a,gZ v W.2,rfl⟩
  |true=>
   have m:EO bN.lt hi first r e=2*r+2:=bJ ⟨om,hl⟩
   rw[m] at a;simp(disch:=omega)only[go_sem,n,hl,R,c,J,o,G];refine (jQ t (i:=first+r) (j:=first+(2*r+2)) om om _ om).mono ?_;rintro _ s ⟨z,rfl,n,k⟩;have u:Fr y s:=Fr.trans ((Fr.refl y).bH om) k;have b:=t.fr u;have o:=b.rd (i:=first+r) om;have G:=b.rd (i:=first+(2*r+2)) om;have v:=gZ (gZ F (Fx.of K)) (Fx.of u)
   cases hl2:bN.lt e[first+r]! e[first+(2*r+2)]! with
   |false=>
    rw[bU (by rw[hl2];simp)] at a;simp(disch:=omega)only[go_sem,n,hl2];rw[←a];exact⟨b,v⟩
   |true=>
    rw[bJ hl2] at a;simp(disch:=omega)only[go_sem,n,hl2,c,J,o,G,b.get,cJ,bW];have W:=b.swap (i:=first+r) (j:=first+(2*r+2)) (nx:=s.next+24) om rfl;exact⟨hi-(2*r+2),om,2*r+2,_,aB rfl,om,W.1,a,gZ v W.2,rfl⟩
 ·have Z:=bI L
  have m:EO bN.lt hi first r e=2*r+1:=bU om
  rw[m] at a
  have K:Fr q (H.mk q.tr (q.next+20)):=(Fr.refl q).bH om
  have t:=A.fr K
  have o:=A.rd (i:=first+r) om
  have p:=A.rd (i:=first+(2*r+1)) om
  simp(disch:=omega)only[go_sem,Q,P,R,Z,c,l,o,p]
  refine (jQ A (i:=first+r) (j:=first+(2*r+1)) om om _ om).mono ?_
  rintro _ s ⟨z,rfl,n,k⟩
  have u:Fr q s:=Fr.trans ((Fr.refl q).bH om) k
  have b:=A.fr u
  have o:=b.rd (i:=first+r) om
  have p:=b.rd (i:=first+(2*r+1)) om
  have v:=gZ F (Fx.of u)
  cases hl2:bN.lt e[first+r]! e[first+(2*r+1)]! with
  |false=>
   rw[bU (by rw[hl2];simp)] at a;simp(disch:=omega)only[go_sem,n,hl2];rw[←a];exact⟨b,v⟩
  |true=>
   rw[bJ hl2] at a;simp(disch:=omega)only[go_sem,n,hl2,c,l,o,p,b.get,cJ,bW];have W:=b.swap (i:=first+r) (j:=first+(2*r+1)) (nx:=s.next+24) om rfl;exact⟨hi-(2*r+1),om,2*r+1,_,aB rfl,om,W.1,a,gZ v W.2,rfl⟩
theorem Bq  {α:Type}[Inhabited α][O:bN α](h:H)(S N a b:Nat)(d:Array α)(r:pY)(B:N<1000000)(A:dY h S N d)(hb:b<=N)(Y:a<=b):
  Ev T (bN.ρ α 248) [.sl S 0 N r,aC a,aC b,.fn (bN.f α) [] []] h (λ_ h'=>dY h' S N (heapSort bN.lt d a b)/\Fx (· =S) h h'):=by
 refine mX (wH (α:=α) eV.ok (by decide)) rfl ?_
 obtain⟨n,Q⟩:=exI (b-a)
 have R:(b:Int)-(a:Int)=(n:Int):=om
 have Z:((n:Int)- 1).tdiv 2=(((n- 1)/2+1:Nat):Int)- 1:=by
  by_cases J:n=0
  ·subst J;decide
  ·rw[Int.tdiv_eq_ediv_of_nonneg om];omega
 simp(disch:=omega)only[go_sem,eV,aE,R,Z]
 refine aI (λo c q=> ∃(k:Nat) (e:Array α),(∃g:Nat->V,c= [.sl S 0 N r,aC a,aC b,.fn (bN.f α) [] [],aC a,aC 0,aC n,aC ((k:Int)- 1),g 8,g 9,g 10])/\k<=n+1/\(k=1∨k<=n)/\dY q S N e/\heapBuild bN.lt n a k e=heapBuild bN.lt n a ((n- 1)/2+1) d/\Fx (· =S) h q/\o=k) ((n- 1)/2+1)
  ⟨(n- 1)/2+1,d,aB rfl,om,om,A,rfl,Fx.refl _ h,rfl⟩ ?_
 clear A
 rintro o c G ⟨k,e,⟨g,rfl⟩,u,x,A,v,F,y⟩
 subst y
 by_cases l:(0:Int)<=(o:Int)- 1
 ·have p:=cI l
  obtain⟨m,rfl⟩: ∃m,o=m+1:=⟨o- 1,om⟩
  have t:((m+1:Nat):Int)- 1=(m:Int):=om
  rw[t] at p
  rw[t]
  simp(disch:=omega)only[go_sem,p]
  refine (rU G S N m n a e r B A om om).mono ?_
  rintro _ z ⟨P,F2⟩
  simp(disch:=omega)only[go_sem]
  exact⟨m,om,m,_,aB rfl,om,om,P,v,gZ F F2,rfl⟩
 have p:=bI l
 obtain rfl:o=0:=om
 have v:e=heapBuild bN.lt n a ((n- 1)/2+1) d:=v
 simp(disch:=omega)only[go_sem,p]
 refine aI (λo c q=> ∃(k:Nat) (s:Array α),(∃g:Nat->V,c= [.sl S 0 N r,aC a,aC b,.fn (bN.f α) [] [],aC a,aC 0,aC n,g 7,aC ((k:Int)- 1),g 9,g 10])/\k<=n/\dY q S N s/\heapPop bN.lt a k s=heapPop bN.lt a n e/\Fx (· =S) h q/\o=k) n
  ⟨n,e,aB rfl,om,A,rfl,F,rfl⟩ ?_
 clear A F l p u x
 rintro o c z ⟨k,s,⟨g,rfl⟩,u,A,w,F,y⟩
 subst y
 have sz:=A.size
 by_cases l:(0:Int)<=(o:Int)- 1
 ·have p:=cI l
  obtain⟨m,rfl⟩: ∃m,o=m+1:=⟨o- 1,om⟩
  have t:((m+1:Nat):Int)- 1=(m:Int):=om
  rw[t] at p
  rw[t]
  have U:(a:Int)+(m:Int)=((a+m:Nat):Int):=om
  have c1:=A.rd (i:=a+m) om
  have c2:=A.rd (i:=a) om
  simp(disch:=omega)only[go_sem,p,U,c1,c2,A.get,cJ,bW]
  have W:=A.swap (i:=a) (j:=a+m) (nx:=z.next+20) om rfl
  have K:=rU _ S N 0 m a _ r B W.1 om om
  refine K.mono ?_
  rintro _ h3 ⟨L,F3⟩
  simp(disch:=omega)only[go_sem]
  exact⟨m,om,m,_,aB rfl,om,L,w,gZ (gZ F W.2) F3,rfl⟩
 have p:=bI l
 obtain rfl:o=0:=om
 simp(disch:=omega)only[go_sem,p]
 have w:s=heapPop bN.lt a n e:=w
 have:heapSort bN.lt d a b=s:=by unfold heapSort;rw[Q,w,v]
 rw[this]
 exact⟨A,F⟩
theorem dY.NT  {α:Type}[Inhabited α][O:bN α]{h h':H}{S N R:Nat}{d:Array α}(A:dY h S N d)(f:Fx (· =R) h h')(b:R≠S)(a:bN.b0 α<=R):dY h' S N d:=⟨by rw[f.get S A.lt (λe=>b e.symm)];exact A.get,A.size,jM A.lt f.next,A.eqS,O.bR _ _ _ A.base a f,A.all⟩
theorem Ge  {α:Type}[Inhabited α][O:bN α](h:H)(S N a b:Nat)(d:Array α)(p:pY)(y:N<1000000)(A:dY h S N d)(x:b<=N)(u:a<b):
  Ev T (bN.ρ α 251) [.sl S 0 N p,aC a,aC b,.fn (bN.f α) [] []] h (λ_ h'=>dY h' S N (reverseRange d a b)/\Fx (· =S) h h'):=by
 refine mX (wH (α:=α) dX.ok (by decide)) rfl ?_
 have t:(b:Int)- 1=((b- 1:Nat):Int):=om
 simp(disch:=omega)only[go_sem,dX,aE,t]
 refine aI (λc k o=> ∃(i j:Nat) (e:Array α),(∃g:Nat->V,k= [.sl S 0 N p,aC a,aC b,aC i,aC j,g 5])/\j<b/\i<=b/\dY o S N e/\reverseLoop i j e=reverseLoop a (b- 1) d/\Fx (· =S) h o/\c=j) (b- 1)
  ⟨a,b- 1,d,aB rfl,om,om,A,rfl,Fx.refl _ h,rfl⟩ ?_
 clear A
 rintro c k q ⟨i,j,e,⟨g,rfl⟩,w,hi,A,m,F,r⟩
 subst r
 have sz:=A.size
 rw[reverseLoop] at m
 by_cases l:(i:Int)<(c:Int)
 ·have n:=cI l
  rw[bJ om] at m
  have v:=A.rd (i:=i) om
  have s:=A.rd (i:=c) om
  simp(disch:=omega)only[go_sem,n,v,s,A.get,cJ,bW]
  have W:=A.swap (i:=i) (j:=c) (nx:=q.next+16) om rfl
  rw[show (i:Int)+1=((i+1:Nat):Int) from om,show (c:Int)- 1=((c- 1:Nat):Int) from om]
  exact⟨c- 1,om,i+1,c- 1,_,aB rfl,om,om,W.1,m,gZ F W.2,rfl⟩
 have n:=bI l
 rw[bU om] at m
 simp(disch:=omega)only[go_sem,n]
 unfold reverseRange
 rw[←m]
 exact⟨A,F⟩
theorem Ow (n:Nat){k:Int}{m:Nat}(a:k=(m:Int)):(n:Int).tdiv k=((n/m:Nat):Int):=by
 rw[a,Int.tdiv_eq_ediv_of_nonneg om];rfl
theorem Pb  {α:Type}[Inhabited α][O:bN α](h:H)(S N a b:Nat)(d:Array α)(cp:pY)(hN:N<60000)(A:dY h S N d)(hb:b<=N)(a7:a<=b):
  Ev T (bN.ρ α 249) [.sl S 0 N cp,aC a,aC b,.fn (bN.f α) [] []] h (λ_ h'=> ∃e,dY h' S N e/\PermIn a b d e/\Fx (· =S) h h'):=by
 refine mX (wH (α:=α) dA.ok (by decide)) rfl ?_
 obtain⟨n,hn⟩:=exI (b-a)
 have en:(b:Int)-(a:Int)=(n:Int):=om
 by_cases h8:(8:Int)<=(n:Int)
 case neg=>
  have e8:=bI h8;simp(disch:=omega)only[go_sem,dA,aE,en,e8];exact⟨d,A,permIn_refl d a b,Fx.refl _ h⟩
 have e8:=cI h8
 have K:=Ow n (k:=4) (m:=4) rfl
 obtain⟨q,hq⟩:=exI (n/4)
 rw[hq] at K
 have ei:(a:Int)+(q:Int)*2- 1=((a+q*2- 1:Nat):Int):=om
 have ej:(a:Int)+(q:Int)*2+1=((a+q*2+1:Nat):Int):=om
 have hp:=two_pow_bitsLen_le (show 0<n by omega)
 have a1:=lt_two_pow_bitsLen n
 obtain⟨m,hm⟩:=exI (2^bitsLen n)
 rw[hm] at hp a1
 obtain⟨R,L⟩:=exI h.next
 have a0:R≠S:=by have:=A.lt;omega
 have a2:bN.b0 α<=R:=by have:=O.bn _ A.base;omega
 have a3: ∀c:H,eU (aF [.int .u64 0]) c R 0 [.int .u64 (n:Int)]=some (c.set R (aF [.int .u64 (n:Int)])):=λc=>bT (by simp) c R _
 have t:(h.new (.cells false [.int .u64 0])).get R=aF [.int .u64 0]:=by rw[←L,H.aL]
 simp(disch:=omega)only[go_sem,dA,aE,en,e8,L,fS (n:=(n:Int)) om om,t,a3]
 obtain⟨o,l⟩: ∃o,o=(h.new (.cells false [.int .u64 0])).set R (aF [.int .u64 (n:Int)]):=⟨_,rfl⟩
 rw[←l]
 have g1:o.get R=aF [.int .u64 (n:Int)]:=by rw[l,H.aU]
 have n1:o.next=R+1:=by rw[l,H.cV,H.aW,L]
 have U:Fr h o:=by rw[l];exact ((Fr.refl h).new _).set om _
 clear l
 refine (HO n o om).mono ?_
 rintro _ a6 ⟨rfl,c⟩
 rw[c,hm]
 simp(disch:=omega)only[go_sem,K,ei]
 refine aI (λk' r c=> ∃(i:Nat) (e:Array α) (x:Int),(∃g:Nat->V,r= [.sl S 0 N cp,aC a,aC b,aC n,.ptr R 0,.int .u64 (m:Int),aC i,g 7,g 8,g 9,g 10])/\a<=i/\i<=a+q*2+2/\dY c S N e/\PermIn a b d e/\c.get R=aF [.int .u64 x]/\R<c.next/\Fx (· =S) h c/\k'=a+q*2+2-i) (a+q*2+2-(a+q*2- 1))
  ⟨a+q*2- 1,d,_,aB rfl,om,om,A.fr U,permIn_refl d a b,g1,om,Fx.of U,rfl⟩ ?_
 clear A g1 n1 U c o
 rintro k' r o ⟨i,e,x,⟨g,rfl⟩,s,a4,A,Q,gR,nR,F,rfl⟩
 by_cases u:(i:Int)<=((a+q*2+1:Nat):Int)
 case neg=>
  have P:=bI u;simp(disch:=omega)only[go_sem,K,ej,P];exact⟨e,A,Q,F⟩
 have P:=cI u
 simp(disch:=omega)only[go_sem,K,ej,P]
 refine (HK R x o gR nR).mono ?_
 rintro _ J ⟨y,rfl,B,F2⟩
 have p:=A.NT F2 a0 a2
 obtain⟨w,hw,a5⟩:=IU y (m- 1) om
 have em:(m:Int)- 1=((m- 1:Nat):Int):=om
 have sz:=p.size
 have z:Fx (· =S) h J:=⟨mY F.next F2.next,λid h3 h4=>(F2.get id (jM h3 F.next) (λe=>by have:id=R:=e;omega)).trans (F.get id h3 h4)⟩
 have G:R<J.next:=jM nR F2.next
 by_cases v:(n:Int)<=(w:Int)
 ·have e2:=cI v
  have e3:(w:Int)-(n:Int)=((w-n:Nat):Int):=om
  have Y:(a:Int)+((w-n:Nat):Int)=((a+(w-n):Nat):Int):=om
  have c1:=p.rd (i:=i) om
  have Z:=p.rd (i:=a+(w-n)) om
  simp(disch:=omega)only[go_sem,em,fS (n:=((m- 1:Nat):Int)) om om,hw,e2,e3,Y,c1,Z,p.get,cJ,bW]
  have W:=p.swap (i:=i) (j:=a+(w-n)) (nx:=J.next+20) om rfl
  rw[fJ i]
  refine⟨a+q*2+2-(i+1),om,i+1,_,y,aB rfl,om,om,W.1,permIn_trans _ _ _ a b Q (swp_permIn e a b i (a+(w-n)) s om om om om),?_,jM G W.2.next,gZ z W.2,rfl⟩
  exact B
 ·have e2:=bI v
  have Y:(a:Int)+(w:Int)=((a+w:Nat):Int):=om
  have c1:=p.rd (i:=i) om
  have Z:=p.rd (i:=a+w) om
  simp(disch:=omega)only[go_sem,em,fS (n:=((m- 1:Nat):Int)) om om,hw,e2,Y,c1,Z,p.get,cJ,bW]
  have W:=p.swap (i:=i) (j:=a+w) (nx:=J.next+20) om rfl
  rw[fJ i]
  refine⟨a+q*2+2-(i+1),om,i+1,_,y,aB rfl,om,om,W.1,permIn_trans _ _ _ a b Q (swp_permIn e a b i (a+w) s om om om om),?_,jM G W.2.next,gZ z W.2,rfl⟩
  exact B
structure BY (h h':H)(R:Nat):Prop where
 get: ∃s,h'.get R=aF [aC s]
 fx:Fx (· =R) h h'
theorem BY.trans {a b c:H}{R:Nat}(x:BY a b R)(y:BY b c R):BY a c R:=⟨y.get,x.fx.trans y.fx λ_ _ h=>h⟩
theorem qJ  {α:Type}[Inhabited α][O:bN α](h:H)(S N a b R:Nat)(d:Array α)(q:pY)(F:N<1000000)(A:dY h S N d)(y:a<N)(B:b<N)(x:R≠S)(l:R<h.next)(p:bN.b0 α<=R)(s:Int)(t:h.get R=aF [aC s]):
  Ev T (bN.ρ α 264) [.sl S 0 N q,aC a,aC b,.ptr R 0,.fn (bN.f α) [] []] h (λv h'=>(v= .tup [aC a,aC b]∨v= .tup [aC b,aC a])/\BY h h' R):=by
 refine mX (wH (α:=α) fF.ok (by decide)) rfl ?_
 have u:=A.rd (i:=a) om
 have o:=A.rd (i:=b) om
 simp(disch:=omega)only[go_sem,fF,aE,u,o]
 refine (jQ A (i:=b) (j:=a) om om _ om).mono ?_
 rintro _ g ⟨z,rfl,n,k⟩
 have m:Fr h g:=Fr.trans ((Fr.refl h).bH om) k
 have c:g.get R=aF [aC s]:=by rw[m.get R l];exact t
 cases hl:bN.lt d[b]! d[a]! with
 |false=>
  simp(disch:=omega)only[go_sem,n,hl];exact⟨.inl trivial,⟨s,c⟩,Fx.of m⟩
 |true=>
  have cR:g.cell R 0=some (aC s):=by rw[H.cell_of c];rfl
  have r: ∀(w:Int) (e:H),eU (aF [aC s]) e R 0 [aC w]=some (e.set R (aF [aC w])):=λw e=>bT (by simp) e R _
  simp(disch:=omega)only[go_sem,n,hl,cR,c,r];exact⟨.inr trivial,⟨_,by rw[H.aU]⟩,(Fx.of (W:=(· =R)) m).trans (Fx.set g (W:=(· =R)) rfl _) (λ_ _ h=>h)⟩
theorem yA  {α:Type}[Inhabited α][O:bN α](h:H)(S N a b c R:Nat)(d:Array α)(l:pY)(B:N<1000000)(A:dY h S N d)(u:a<N)(w:b<N)(J:c<N)(g:R≠S)(j:R<h.next)(e:bN.b0 α<=R)(s:Int)(gR:h.get R=aF [aC s]):
  Ev T (bN.ρ α 262) [.sl S 0 N l,aC a,aC b,aC c,.ptr R 0,.fn (bN.f α) [] []] h (λv h'=>(∃m,v= aC (m:Nat)/\(m=a∨m=b∨m=c))/\BY h h' R):=by
 refine mX (wH (α:=α) fE.ok (by decide)) rfl ?_
 simp(disch:=omega)only[go_sem,fE,aE]
 refine (qJ h S N a b R d l B A u w g j e s gR).mono ?_
 rintro v1 U ⟨z,o⟩
 obtain⟨F,k,rfl,q,i,K⟩: ∃x y,v1= .tup [aC (x:Nat),aC (y:Nat)]/\x<N/\y<N/\((x=a∨x=b)/\(y=a∨y=b)):=by
  rcases z with rfl|rfl
  ·exact⟨a,b,rfl,u,w,.inl rfl,.inr rfl⟩
  ·exact⟨b,a,rfl,w,u,.inr rfl,.inl rfl⟩
 have Q:=A.NT o.fx g e
 obtain⟨Z,W⟩:=o.get
 have L:=jM j o.fx.next
 simp(disch:=omega)only[go_sem]
 refine (qJ U S N k c R d l B Q i J g L e Z W).mono ?_
 rintro v2 Y ⟨p,n⟩
 obtain⟨G,y2,rfl,r,P⟩: ∃x y,v2= .tup [aC (x:Nat),aC (y:Nat)]/\x<N/\(x=k∨x=c):=by
  rcases p with rfl|rfl
  ·exact⟨k,c,rfl,i,.inl rfl⟩
  ·exact⟨c,k,rfl,J,.inr rfl⟩
 have A2:=Q.NT n.fx g e
 obtain⟨s2,g2⟩:=n.get
 have n2:=jM L n.fx.next
 simp(disch:=omega)only[go_sem]
 refine (qJ Y S N F G R d l B A2 q r g n2 e s2 g2).mono ?_
 rintro v3 h3 ⟨t,C3⟩
 have C:=(o.trans n).trans C3
 rcases t with rfl|rfl
 ·simp(disch:=omega)only[go_sem]
  exact⟨⟨G,rfl,om⟩,C⟩
 ·simp(disch:=omega)only[go_sem]
  exact⟨⟨F,rfl,om⟩,C⟩
theorem oK  {α:Type}[Inhabited α][O:bN α](h:H)(S N a R:Nat)(d:Array α)(e:pY)(k:N<1000000)(A:dY h S N d)(q:0<a)(o:a+1<N)(g:R≠S)(c:R<h.next)(b:bN.b0 α<=R)(s:Int)(l:h.get R=aF [aC s]):
  Ev T (bN.ρ α 261) [.sl S 0 N e,aC a,.ptr R 0,.fn (bN.f α) [] []] h (λv h'=>(∃m,v= aC (m:Nat)/\(m=a- 1∨m=a∨m=a+1))/\BY h h' R):=by
 refine mX (wH (α:=α) dQ.ok (by decide)) rfl ?_
 have i:(a:Int)- 1=((a- 1:Nat):Int):=om
 have n:(a:Int)+1=((a+1:Nat):Int):=om
 simp(disch:=omega)only[go_sem,dQ,aE,i,n]
 refine (yA h S N (a- 1) a (a+1) R d e k A om om om g c b s l).mono ?_
 rintro _ p ⟨⟨m,rfl,j⟩,C⟩
 simp(disch:=omega)only[go_sem]
 exact⟨⟨m,rfl,j⟩,C⟩
theorem Nz  {α:Type}[Inhabited α][O:bN α](h:H)(S N a b:Nat)(d:Array α)(G:pY)(W:N<1000000)(A:dY h S N d)(hb:b<=N)(a1:a<b):
  Ev T (bN.ρ α 250) [.sl S 0 N G,aC a,aC b,.fn (bN.f α) [] []] h (λv h'=> ∃(p:Nat) (t:Int),v= .tup [aC p,aC t]/\a<=p/\p<b/\Fr h h'):=by
 refine mX (wH (α:=α) cQ.ok (by decide)) rfl ?_
 obtain⟨n,hn⟩:=exI (b-a)
 have en:(b:Int)-(a:Int)=(n:Int):=om
 have U:=Ow n (k:=4) (m:=4) rfl
 obtain⟨q,hq⟩:=exI (n/4)
 rw[hq] at U
 have ei:(a:Int)+(q:Int)*1=((a+q:Nat):Int):=om
 have ej:(a:Int)+(q:Int)*2=((a+q*2:Nat):Int):=om
 have ek:(a:Int)+(q:Int)*3=((a+q*3:Nat):Int):=om
 obtain⟨R,J⟩:=exI h.next
 have c:R≠S:=by have:=A.lt;omega
 have g:bN.b0 α<=R:=by have:=O.bn _ A.base;omega
 obtain⟨r,o⟩: ∃r,r=h.new (.cells false [aC 0]):=⟨_,rfl⟩
 have g1:r.get R=aF [aC 0]:=by rw[o,←J,H.aL]
 have n1:r.next=R+1:=by rw[o,H.aW,J]
 have f1:Fr h r:=by rw[o];exact (Fr.refl h).new _
 have A1:=A.fr f1
 have L: ∀(p:Nat) (l:H),a<=p->p<b->Fx (· =R) r l->a<=p/\p<b/\Fr h l:=λp l x1 x2 x3=>⟨x1,x2,mY f1.next x3.next,λid a0=>(x3.get id om (λe=>by have:id=R:=e;omega)).trans (f1.get id a0)⟩
 by_cases h8:(8:Int)<=(n:Int)
 case neg=>
  have Y:=bI h8;simp(disch:=omega)only[go_sem,cQ,aE,en,U,ei,ej,ek,Y];rw[←o];have cR:r.cell R 0=some (aC 0):=by rw[H.cell_of g1];rfl
  simp(disch:=omega)only[go_sem,J,cR];refine bA (λ_=>?_) (λhc=>(hc (by trivial)).elim);simp(disch:=omega)only[go_sem];exact⟨a+q*2,1,rfl,L _ _ om om (Fx.refl _ _)⟩
 have Y:=cI h8
 have u: ∀(i j k:Nat) (l:H) (K:Int),a<=i->i<b->a<=j->j<b->a<=k->k<b->dY l S N d->l.get R=aF [aC K]->R<l.next->Fx (· =R) r l->
   Ev T (bN.ρ α 262) [.sl S 0 N G,aC i,aC j,aC k,.ptr R 0,.fn (bN.f α) [] []] l (λv h'=> ∃p s,v= aC (p:Nat)/\a<=p/\p<b/\h'.get R=aF [aC s]/\Fr h h'):=by
  intro i j k l K i1 i2 j1 j2 k1 k2 Z g2 n2 F2
  refine (yA l S N i j k R d G W Z om om om c n2 g K g2).mono ?_
  rintro _ z ⟨⟨p,rfl,hp⟩,⟨s,x⟩,P⟩
  exact⟨p,s,rfl,om,om,x,(L p z om om (F2.trans P λ_ _ h=>h)).2.2⟩
 by_cases Q:(50:Int)<=(n:Int)
 case neg=>
  have B:=bI Q;simp(disch:=omega)only[go_sem,cQ,aE,en,U,ei,ej,ek,Y,B];rw[←o];simp(disch:=omega)only[go_sem,J];refine (u (a+q) (a+q*2) (a+q*3) r 0 om om om om om om A1 g1 om (Fx.refl _ _)).mono ?_;rintro _ z ⟨p,s,rfl,y,w,x,F⟩;have cR:z.cell R 0=some (aC s):=by rw[H.cell_of x];rfl
  simp(disch:=omega)only[go_sem,cR];refine bA (λ_=>?_) (λ_=>?_)
  ·simp(disch:=omega)only[go_sem]
   exact⟨p,1,rfl,y,w,F⟩
  ·simp(disch:=omega)only[go_sem]
   refine bA (λ_=>?_) (λ_=>?_)
   ·simp(disch:=omega)only[go_sem]
    exact⟨p,2,rfl,y,w,F⟩
   ·simp(disch:=omega)only[go_sem]
    exact⟨p,0,rfl,y,w,F⟩
 have B:=cI Q
 simp(disch:=omega)only[go_sem,cQ,aE,en,U,ei,ej,ek,Y,B]
 rw[←o]
 simp(disch:=omega)only[go_sem,J]
 refine (oK r S N (a+q) R d G W A1 om om c om g 0 g1).mono ?_
 rintro _ l ⟨⟨i,rfl,hi⟩,⟨K,g2⟩,F2⟩
 have Z:=A1.NT F2 c g
 have n2:=F2.next
 simp(disch:=omega)only[go_sem]
 refine (oK l S N (a+q*2) R d G W Z om om c om g K g2).mono ?_
 rintro _ z ⟨⟨j,rfl,hj⟩,⟨s,x⟩,P⟩
 have A3:=Z.NT P c g
 have n3:=P.next
 simp(disch:=omega)only[go_sem]
 refine (oK z S N (a+q*3) R d G W A3 om om c om g s x).mono ?_
 rintro _ h4 ⟨⟨k,rfl,hk⟩,⟨s4,g4⟩,F4⟩
 have A4:=A3.NT F4 c g
 have n4:=F4.next
 simp(disch:=omega)only[go_sem]
 refine (u i j k h4 s4 om om om om om om A4 g4 om ((F2.trans P λ_ _ h=>h).trans F4 λ_ _ h=>h)).mono ?_
 rintro _ z ⟨p,s,rfl,y,w,x,F⟩
 have cR:z.cell R 0=some (aC s):=by rw[H.cell_of x];rfl
 simp(disch:=omega)only[go_sem,cR]
 refine bA (λ_=>?_) (λ_=>?_)
 ·simp(disch:=omega)only[go_sem]
  exact⟨p,1,rfl,y,w,F⟩
 ·simp(disch:=omega)only[go_sem]
  refine bA (λ_=>?_) (λ_=>?_)
  ·simp(disch:=omega)only[go_sem]
   exact⟨p,2,rfl,y,w,F⟩
  ·simp(disch:=omega)only[go_sem]
   exact⟨p,0,rfl,y,w,F⟩
section
variable {j b:Nat}
theorem RF {α:Type}[Inhabited α]{lt:α->α->Bool}{d:Array α}(h:lt d[j+1]! d[j]! =true):shiftDown lt (j+1) d=shiftDown lt j (swp d (j+1) j):=by rw[shiftDown,bU (by simp [h])]
theorem VK {α:Type}[Inhabited α]{lt:α->α->Bool}{d:Array α}(h:lt d[j+1]! d[j]! =false):shiftDown lt (j+1) d=d:=by rw[shiftDown,bJ (by simp [h])]
theorem PC {α:Type}[Inhabited α]{lt:α->α->Bool}{d:Array α}(a:j<b)(h:lt d[j]! d[j- 1]! =true):shiftUp lt b j d=shiftUp lt b (j+1) (swp d j (j- 1)):=by rw[shiftUp,bJ a,bU (by simp [h])]
theorem RY {α:Type}[Inhabited α]{lt:α->α->Bool}{d:Array α}(a:j<b)(h:lt d[j]! d[j- 1]! =false):shiftUp lt b j d=d:=by rw[shiftUp,bJ a,bJ (by simp [h])]
theorem TB {α:Type}[Inhabited α]{lt:α->α->Bool}{i:Nat}{d:Array α}(hi:i<b)(h:lt d[i]! d[i- 1]! =false):scanSorted lt d b i=scanSorted lt d b (i+1):=by rw[scanSorted,bJ (by simp [h,hi])]
theorem Zo {α:Type}[Inhabited α]{lt:α->α->Bool}{i:Nat}{d:Array α}(h: ¬(i<b/\lt d[i]! d[i- 1]! =false)):scanSorted lt d b i=i:=by rw[scanSorted,bU (by simpa using h)]
theorem Uy {α:Type}[Inhabited α](lt:α->α->Bool)(a b s i:Nat)(d:Array α):partialIns lt a b (s+1) i d=if scanSorted lt d b i=b then (d,true) else if b-a<50 then (d,false) else
  partialIns lt a b s (scanSorted lt d b i) (if b-scanSorted lt d b i≥2 then shiftUp lt b (scanSorted lt d b i+1) (if scanSorted lt d b i-a≥2 then shiftDown lt (scanSorted lt d b i- 1) (swp d (scanSorted lt d b i) (scanSorted lt d b i- 1)) else swp d (scanSorted lt d b i) (scanSorted lt d b i- 1)) else
   (if scanSorted lt d b i-a≥2 then shiftDown lt (scanSorted lt d b i- 1) (swp d (scanSorted lt d b i) (scanSorted lt d b i- 1)) else swp d (scanSorted lt d b i) (scanSorted lt d b i- 1))):=by rw[partialIns]
theorem Eu {α:Type}[Inhabited α][O:bN α](h:H)(S N a b:Nat)(d:Array α)(cp:pY)(hN:N<1000000)(A:dY h S N d)(hb:b<=N)(b5:a<b):
  Ev T (bN.ρ α 252) [.sl S 0 N cp,aC a,aC b,.fn (bN.f α) [] []] h (λv h'=>v= .bool (partialInsertionSort bN.lt d a b).2/\dY h' S N (partialInsertionSort bN.lt d a b).1/\Fx (· =S) h h'):=by
 refine mX (wH (α:=α) dF.ok (by decide)) rfl ?_
 simp(disch:=omega)only[go_sem,dF,aE]
 rw[fJ a]
 refine aI (λl c t=> ∃(s i:Nat) (e:Array α),(∃g:Nat->V,c= [.sl S 0 N cp,aC a,aC b,.fn (bN.f α) [] [],g 4,aC i,aC (5-(s:Int)),g 7,g 8,g 9,g 10,g 11,g 12,g 13,g 14,g 15,g 16,g 17,g 18])/\s<=5/\a<i/\i<=b/\dY t S N e/\partialIns bN.lt a b s i e=partialInsertionSort bN.lt d a b/\Fx (· =S) h t/\l=s) 5
  ⟨5,a+1,d,aB rfl,om,om,om,A,rfl,Fx.refl _ h,rfl⟩ ?_
 clear A
 rintro l c U ⟨s,i,e,⟨g,rfl⟩,hs,b3,a9,A,k,F,hk⟩
 subst hk
 by_cases B:(5:Int)-(l:Int)<5
 case neg=>
  have n:=bI B;obtain rfl:l=0:=om
  simp(disch:=omega)only[go_sem,n];have k:(e,false)=partialInsertionSort bN.lt d a b:=k;rw[←k];exact⟨rfl,A,F⟩
 have n:=cI B
 obtain⟨s,rfl⟩: ∃s,l=s+1:=⟨l- 1,om⟩
 simp(disch:=omega)only[go_sem,n]
 rw[Uy] at k
 refine aI (λl c t=> ∃(m:Nat),(∃g:Nat->V,c= [.sl S 0 N cp,aC a,aC b,.fn (bN.f α) [] [],g 4,aC m,aC (5-((s+1:Nat):Int)),g 7,g 8,g 9,g 10,g 11,g 12,g 13,g 14,g 15,g 16,g 17,g 18])/\a<m/\m<=b/\dY t S N e/\scanSorted bN.lt e b m=scanSorted bN.lt e b i/\Fx (· =S) h t/\l=b-m) (b-i)
  ⟨i,aB rfl,b3,a9,A,rfl,F,rfl⟩ ?_
 clear A F B n
 rintro l c y ⟨m,⟨g,rfl⟩,b6,b9,A,Y,F,rfl⟩
 have sz:=A.size
 have J:(m:Int)- 1=((m- 1:Nat):Int):=om
 have a6:(m:Int)+1=((m+1:Nat):Int):=om
 by_cases a1:(m:Int)<(b:Int)
 case neg=>
  have n:=bI a1;have em:m=b:=om
  rw[Zo om] at Y;rw[←Y,bJ em] at k;have e2:decide ((m:Int)=(b:Int))=true:=cI om;simp(disch:=omega)only[go_sem,n,e2];rw[←k];exact⟨rfl,A.fr ((Fr.refl y).bH om),gZ F (Fx.of ((Fr.refl y).bH om))⟩
 have n:=cI a1
 have p:=A.rd (i:=m) om
 have o:=A.rd (i:=m- 1) om
 simp(disch:=omega)only[go_sem,n,J,p,o]
 refine (jQ A (i:=m) (j:=m- 1) om om _ om).mono ?_
 rintro _ h3 ⟨z,rfl,u,a0⟩
 have R:Fr y h3:=Fr.trans ((Fr.refl y).bH om) a0
 have P:=A.fr R
 have F3:=gZ F (Fx.of R)
 cases hl:bN.lt e[m]! e[m- 1]! with
 |false=>
  rw[TB om hl] at Y;simp(disch:=omega)only[go_sem,u,hl,a6];exact⟨b-(m+1),om,m+1,aB rfl,om,om,P,Y,F3,rfl⟩
 |true=>
  rw[Zo (by rw[hl];simp)] at Y;rw[←Y,bU om] at k;have e2:decide ((m:Int)=(b:Int))=false:=bI om
  by_cases a5:(b:Int)-(a:Int)<50
  ·have Q:=cI a5
   rw[bJ om] at k;simp(disch:=omega)only[go_sem,u,hl,e2,Q];rw[←k];exact⟨rfl,P,F3⟩
  have Q:=bI a5;rw[bU om] at k;have p:=P.rd (i:=m) om;have o:=P.rd (i:=m- 1) om;simp(disch:=omega)only[go_sem,u,hl,e2,Q,J,p,o,P.get,cJ,bW];have W:=P.swap (i:=m) (j:=m- 1) (nx:=h3.next+18) om rfl
  obtain⟨h4,a3⟩: ∃h4,h4=((H.mk h3.tr (h3.next+18)).set S (aF (flat (e.setIfInBounds m e[m- 1]!).toList))).set S (aF (flat ((e.setIfInBounds m e[m- 1]!).setIfInBounds (m- 1) e[m]!).toList)):=⟨_,rfl⟩
  rw[←a3] at W ⊢;obtain⟨A4,F4⟩:=W;have G:=gZ F3 F4;clear a3 F4 P F3 R a0 p o;obtain⟨Z,a7⟩:=exI (swp e m (m- 1));rw[a7] at A4 k;refine mM (λvs h5=> ∃e5,(∃g:Nat->V,vs= [.sl S 0 N cp,aC a,aC b,.fn (bN.f α) [] [],g 4,aC m,aC (5-((s+1:Nat):Int)),g 7,g 8,g 9,g 10,g 11,g 12,g 13,g 14,g 15,g 16,g 17,g 18])/\dY h5 S N e5/\e5=(if m-a≥2 then shiftDown bN.lt (m- 1) Z else Z)/\Fx (· =S) h h5) ?_ ?_
  ·refine bA (λy=>?_) (λy=>?_)
   ·simp(disch:=omega)only[go_sem,J]
    refine aI (λl c t=> ∃(j:Nat) (x:Array α),(∃g:Nat->V,c= [.sl S 0 N cp,aC a,aC b,.fn (bN.f α) [] [],g 4,aC m,aC (5-((s+1:Nat):Int)),aC j,g 8,g 9,g 10,g 11,g 12,g 13,g 14,g 15,g 16,g 17,g 18])/\j<b/\dY t S N x/\shiftDown bN.lt j x=shiftDown bN.lt (m- 1) Z/\Fx (· =S) h t/\l=j) (m- 1)
     ⟨m- 1,Z,aB rfl,om,A4,rfl,G,rfl⟩ ?_
    rintro l c h5 ⟨j,x,⟨g,rfl⟩,hj,w,L,F5,hk⟩;subst hk;have b8:=w.size
    by_cases U:(1:Int)<=(l:Int)
    ·have n:=cI U
     obtain⟨q,rfl⟩: ∃q,l=q+1:=⟨l- 1,om⟩
     have a8:((q+1:Nat):Int)- 1=(q:Int):=om
     have p:=w.rd (i:=q+1) om;have o:=w.rd (i:=q) om;simp(disch:=omega)only[go_sem,n,a8,p,o];refine (jQ w (i:=q+1) (j:=q) om om _ om).mono ?_;rintro _ h6 ⟨z,rfl,u,b0⟩;have f6:Fr h5 h6:=Fr.trans ((Fr.refl h5).bH om) b0;have r:=w.fr f6;have F6:=gZ F5 (Fx.of f6)
     cases hl:bN.lt x[q+1]! x[q]! with
     |false=>
      rw[VK hl] at L;simp(disch:=omega)only[go_sem,u,hl];exact .inl ⟨x,aB rfl,r,by rw[bJ om,←L],F6⟩
     |true=>
      rw[RF hl] at L;have p:=r.rd (i:=q+1) om;have o:=r.rd (i:=q) om;simp(disch:=omega)only[go_sem,u,hl,a8,p,o,r.get,cJ,bW];have W:=r.swap (i:=q+1) (j:=q) (nx:=h6.next+18) om rfl;exact⟨q,om,q,_,aB rfl,om,W.1,L,gZ F6 W.2,rfl⟩
    ·have n:=bI U
     obtain rfl:l=0:=om
     simp(disch:=omega)only[go_sem,n];have L:x=shiftDown bN.lt (m- 1) Z:=L;exact .inl ⟨x,aB rfl,w,by rw[bJ om,←L],F5⟩
   ·simp(disch:=omega)only[go_sem]
    exact .inl ⟨Z,aB rfl,A4,by rw[bU om],G⟩
  ·rintro c h5 ⟨e5,⟨g,rfl⟩,w,a4,F5⟩
   rw[←a4] at k;clear A4 G a4 a7;simp(disch:=omega)only[go_sem];have K:(5:Int)-((s+1:Nat):Int)+1=5-(s:Int):=om
   refine bA (λy=>?_) (λy=>?_)
   ·rw[bJ om] at k
    simp(disch:=omega)only[go_sem,a6];refine aI (λl c t=> ∃(j:Nat) (x:Array α),(∃g:Nat->V,c= [.sl S 0 N cp,aC a,aC b,.fn (bN.f α) [] [],g 4,aC m,aC (5-((s+1:Nat):Int)),g 7,aC j,g 9,g 10,g 11,g 12,g 13,g 14,g 15,g 16,g 17,g 18])/\0<j/\j<=b/\dY t S N x/\shiftUp bN.lt b j x=shiftUp bN.lt b (m+1) e5/\Fx (· =S) h t/\l=b-j) (b-(m+1))
     ⟨m+1,e5,aB rfl,om,om,w,rfl,F5,rfl⟩ ?_
    rintro l c h6 ⟨j,x,⟨g,rfl⟩,b7,hj,r,hU,F6,rfl⟩;have b4:=r.size
    by_cases U:(j:Int)<(b:Int)
    ·have n:=cI U
     have a2:(j:Int)- 1=((j- 1:Nat):Int):=om
     have b1:(j:Int)+1=((j+1:Nat):Int):=om
     have p:=r.rd (i:=j) om;have o:=r.rd (i:=j- 1) om;simp(disch:=omega)only[go_sem,n,a2,p,o];refine (jQ r (i:=j) (j:=j- 1) om om _ om).mono ?_;rintro _ h7 ⟨z,rfl,u,b2⟩;have f7:Fr h6 h7:=Fr.trans ((Fr.refl h6).bH om) b2;have A7:=r.fr f7;have F7:=gZ F6 (Fx.of f7)
     cases hl:bN.lt x[j]! x[j- 1]! with
     |false=>
      rw[RY om hl] at hU;rw[←hU] at k;simp(disch:=omega)only[go_sem,u,hl,K];exact⟨s,om,s,m,x,aB rfl,om,om,om,A7,k,F7,rfl⟩
     |true=>
      rw[PC om hl] at hU;have p:=A7.rd (i:=j) om;have o:=A7.rd (i:=j- 1) om;simp(disch:=omega)only[go_sem,u,hl,a2,b1,p,o,A7.get,cJ,bW];have W:=A7.swap (i:=j) (j:=j- 1) (nx:=h7.next+18) om rfl;exact⟨b-(j+1),om,j+1,_,aB rfl,om,om,W.1,hU,gZ F7 W.2,rfl⟩
    ·have n:=bI U
     rw[shiftUp,bU om] at hU;rw[←hU] at k;simp(disch:=omega)only[go_sem,n,K];exact⟨s,om,s,m,x,aB rfl,om,om,om,r,k,F6,rfl⟩
   ·rw[bU om] at k
    simp(disch:=omega)only[go_sem,K];exact⟨s,om,s,m,e5,aB rfl,om,om,om,w,k,F5,rfl⟩
end
section
variable {j i:Nat}
theorem Ie {α:Type}[Inhabited α]{p:α->Bool}{d:Array α}(a:i<=j)(h2:p d[i]! =true):scanUp p d j i=scanUp p d j (i+1):=by rw[scanUp,bJ (by simp [a,h2])]
theorem rN {α:Type}[Inhabited α]{p:α->Bool}{d:Array α}(h: ¬(i<=j/\p d[i]! =true)):scanUp p d j i=i:=by rw[scanUp,bU (by simpa using h)]
theorem On {α:Type}[Inhabited α]{p:α->Bool}{d:Array α}(a:i<=j+1)(h2:p d[j+1]! =true):scanDown p d i (j+1)=scanDown p d i j:=by rw[scanDown,bJ (by simp [a,h2])]
theorem yC {α:Type}[Inhabited α]{p:α->Bool}{d:Array α}(h: ¬(i<=j/\p d[j]! =true)):scanDown p d i j=j:=by
 cases j with
 |zero=>rfl
 |succ j=>rw[scanDown,bU (by simpa using h)]
theorem qX {α:Type}[Inhabited α](p:α->Bool)(d:Array α)(j i:Nat):scanUp p d j i<=max i (j+1):=by
 obtain⟨n,a⟩:=exI (j+1-i)
 induction n generalizing i with
 |zero=>rw[rN (λh=>by have:=h.1;omega)];omega
 |succ n ih=>
  by_cases h:i<=j/\p d[i]! =true
  ·rw[Ie h.1 h.2]
   have:=ih (i+1) om;omega
  ·rw[rN h];omega
theorem zI {α:Type}[Inhabited α][O:bN α](h:H)(S N a b pv:Nat)(d:Array α)(cp:pY)(hN:N<1000000)(A:dY h S N d)(hb:b<=N)(b9:a<=pv)(c3:pv<b):
  Ev T (bN.ρ α 254) [.sl S 0 N cp,aC a,aC b,aC pv,.fn (bN.f α) [] []] h (λv h'=>v= .tup [aC ((partition bN.lt d a b pv).1:Nat),.bool (partition bN.lt d a b pv).2.1]/\dY h' S N (partition bN.lt d a b pv).2.2/\Fx (· =S) h h'):=by
 refine mX (wH (α:=α) eH.ok (by decide)) rfl ?_
 have sz:=A.size
 have L:=A.rd (i:=a) om
 have K:=A.rd (i:=pv) om
 simp(disch:=omega)only[go_sem,eH,aE,L,K,A.get,cJ,bW]
 have W:=A.swap (i:=a) (j:=pv) (nx:=h.next+16) om rfl
 obtain⟨h1,a8⟩: ∃h1,h1=((H.mk h.tr (h.next+16)).set S (aF (flat (d.setIfInBounds a d[pv]!).toList))).set S (aF (flat ((d.setIfInBounds a d[pv]!).setIfInBounds pv d[a]!).toList)):=⟨_,rfl⟩
 rw[←a8] at W ⊢
 obtain⟨A1,F1⟩:=W
 obtain⟨e,he⟩:=exI (swp d a pv)
 rw[he] at A1
 clear a8 L K A
 have eb:(b:Int)- 1=((b- 1:Nat):Int):=om
 have ea:(a:Int)+1=((a+1:Nat):Int):=om
 have hP:partition bN.lt d a b pv=if scanUp (λx=>bN.lt x e[a]!) e (b- 1) (a+1)>scanDown (λx=>!bN.lt x e[a]!) e (scanUp (λx=>bN.lt x e[a]!) e (b- 1) (a+1)) (b- 1) then
   (scanDown (λx=>!bN.lt x e[a]!) e (scanUp (λx=>bN.lt x e[a]!) e (b- 1) (a+1)) (b- 1),true,swp e (scanDown (λx=>!bN.lt x e[a]!) e (scanUp (λx=>bN.lt x e[a]!) e (b- 1) (a+1)) (b- 1)) a) else
   ((partLoop bN.lt a (scanUp (λx=>bN.lt x e[a]!) e (b- 1) (a+1)+1) (scanDown (λx=>!bN.lt x e[a]!) e (scanUp (λx=>bN.lt x e[a]!) e (b- 1) (a+1)) (b- 1)- 1) (swp e (scanUp (λx=>bN.lt x e[a]!) e (b- 1) (a+1)) (scanDown (λx=>!bN.lt x e[a]!) e (scanUp (λx=>bN.lt x e[a]!) e (b- 1) (a+1)) (b- 1)))).1,false,
    swp (partLoop bN.lt a (scanUp (λx=>bN.lt x e[a]!) e (b- 1) (a+1)+1) (scanDown (λx=>!bN.lt x e[a]!) e (scanUp (λx=>bN.lt x e[a]!) e (b- 1) (a+1)) (b- 1)- 1) (swp e (scanUp (λx=>bN.lt x e[a]!) e (b- 1) (a+1)) (scanDown (λx=>!bN.lt x e[a]!) e (scanUp (λx=>bN.lt x e[a]!) e (b- 1) (a+1)) (b- 1)))).2 (partLoop bN.lt a (scanUp (λx=>bN.lt x e[a]!) e (b- 1) (a+1)+1) (scanDown (λx=>!bN.lt x e[a]!) e (scanUp (λx=>bN.lt x e[a]!) e (b- 1) (a+1)) (b- 1)- 1) (swp e (scanUp (λx=>bN.lt x e[a]!) e (b- 1) (a+1)) (scanDown (λx=>!bN.lt x e[a]!) e (scanUp (λx=>bN.lt x e[a]!) e (b- 1) (a+1)) (b- 1)))).1 a):=by
  rw[←he];rfl
 obtain⟨R,b0⟩:=exI (partition bN.lt d a b pv)
 rw[b0] at hP
 rw[b0]
 simp(disch:=omega)only[go_sem,ea,eb]
 refine bQ (λQ c=>(∃g:Nat->V,Q= [.sl S 0 N cp,aC a,aC b,aC pv,.fn (bN.f α) [] [],g 5,g 6,aC (scanUp (λx=>bN.lt x e[a]!) e (b- 1) (a+1):Nat),aC ((b- 1):Nat),g 9,g 10,g 11,g 12,g 13,g 14])/\dY c S N e/\Fx (· =S) h c) ?_ ?_
 ·refine aI (λJ Q c=> ∃(k:Nat),(∃g:Nat->V,Q= [.sl S 0 N cp,aC a,aC b,aC pv,.fn (bN.f α) [] [],g 5,g 6,aC (k:Nat),aC ((b- 1):Nat),g 9,g 10,g 11,g 12,g 13,g 14])/\(a+1)<=k/\k<=N+2/\dY c S N e/\scanUp (λx=>bN.lt x e[a]!) e (b- 1) k=scanUp (λx=>bN.lt x e[a]!) e (b- 1) (a+1)/\Fx (· =S) h c/\J=(b- 1)+1-k) ((b- 1)+1-(a+1))
   ⟨(a+1),aB rfl,om,om,A1,rfl,F1,rfl⟩ ?_
  rintro J n P ⟨k,⟨g,rfl⟩,a7,b5,o,p,Fs,rfl⟩
  by_cases l:(k:Int)<=(((b- 1):Nat):Int)
  ·have s:decide ((k:Int)<=(((b- 1):Nat):Int))=true:=cI l
   have eK:(k:Int)+1=((k+1:Nat):Int):=om
   have a6:=o.size
   have L:=o.rd (i:=k) om
   have K:=o.rd (i:=a) om
   simp(disch:=omega)only[go_sem,s,L,K]
   refine (jQ o (i:=k) (j:=a) om om _ om).mono ?_
   rintro _ U ⟨z,rfl,hz,y⟩
   have F:Fr P U:=Fr.trans ((Fr.refl P).bH om) y
   have t:=o.fr F
   have B:=gZ Fs (Fx.of F)
   cases hl:bN.lt e[k]! e[a]! with
   |false=>
    rw[rN (λc=>by have:=c.2;simp [hl] at this)] at p;simp(disch:=omega)only[go_sem,hz,hl];exact⟨by rw[←p];exact aB rfl,t,B⟩
   |true=>
    rw[Ie om (by simp [hl])] at p;simp(disch:=omega)only[go_sem,hz,hl,eK];exact⟨(b- 1)+1-(k+1),om,k+1,aB rfl,om,om,t,p,B,rfl⟩
  ·have s:decide ((k:Int)<=(((b- 1):Nat):Int))=false:=bI l
   rw[rN (λc=>l (by have:=c.1;omega))] at p
   simp(disch:=omega)only[go_sem,s]
   exact⟨by rw[←p];exact aB rfl,o.fr ((Fr.refl P).bH om),gZ Fs (Fx.of ((Fr.refl P).bH om))⟩
 ·rintro n h9 ⟨⟨g,rfl⟩,A9,F9⟩
  have a3:=scanUp_ge (λx=>bN.lt x e[a]!) e (b- 1) (a+1)
  have a5:=qX (λx=>bN.lt x e[a]!) e (b- 1) (a+1)
  obtain⟨q,Z⟩: ∃x,scanUp (λx=>bN.lt x e[a]!) e (b- 1) (a+1)=x:=⟨_,rfl⟩
  rw[Z] at a3 a5
  rw[Z]
  simp(disch:=omega)only[go_sem]
  refine bQ (λQ c=>(∃g:Nat->V,Q= [.sl S 0 N cp,aC a,aC b,aC pv,.fn (bN.f α) [] [],g 5,g 6,aC (q:Nat),aC (scanDown (λx=>!bN.lt x e[a]!) e q (b- 1):Nat),g 9,g 10,g 11,g 12,g 13,g 14])/\dY c S N e/\Fx (· =S) h c) ?_ ?_
  ·refine aI (λJ Q c=> ∃(k:Nat),(∃g:Nat->V,Q= [.sl S 0 N cp,aC a,aC b,aC pv,.fn (bN.f α) [] [],g 5,g 6,aC (q:Nat),aC (k:Nat),g 9,g 10,g 11,g 12,g 13,g 14])/\k<=(b- 1)/\dY c S N e/\scanDown (λx=>!bN.lt x e[a]!) e q k=scanDown (λx=>!bN.lt x e[a]!) e q (b- 1)/\Fx (· =S) h c/\J=k) (b- 1)
    ⟨(b- 1),aB rfl,om,A9,rfl,F9,rfl⟩ ?_
   rintro J n P ⟨k,⟨g,rfl⟩,a7,o,p,Fs,a1⟩
   subst a1
   by_cases l:((q:Nat):Int)<=(J:Int)
   ·have s:=cI l
    obtain⟨k,rfl⟩: ∃k,J=k+1:=⟨J- 1,om⟩
    have eK:((k+1:Nat):Int)- 1=(k:Int):=om
    have a6:=o.size
    have L:=o.rd (i:=k+1) om
    have K:=o.rd (i:=a) om
    simp(disch:=omega)only[go_sem,s,L,K]
    refine (jQ o (i:=k+1) (j:=a) om om _ om).mono ?_
    rintro _ U ⟨z,rfl,hz,y⟩
    have F:Fr P U:=Fr.trans ((Fr.refl P).bH om) y
    have t:=o.fr F
    have B:=gZ Fs (Fx.of F)
    cases hl:bN.lt e[k+1]! e[a]! with
    |true=>
     rw[yC (λc=>by have:=c.2;simp [hl] at this)] at p;simp(disch:=omega)only[go_sem,hz,hl];exact⟨by rw[←p];exact aB rfl,t,B⟩
    |false=>
     rw[On om (by simp [hl])] at p;simp(disch:=omega)only[go_sem,hz,hl,eK];exact⟨k,om,k,aB rfl,om,t,p,B,rfl⟩
   ·have s:=bI l
    rw[yC (λc=>l (by have:=c.1;omega))] at p
    simp(disch:=omega)only[go_sem,s]
    exact⟨by rw[←p];exact aB rfl,o.fr ((Fr.refl P).bH om),gZ Fs (Fx.of ((Fr.refl P).bH om))⟩
  ·rintro n h2 ⟨⟨g,rfl⟩,A2,F2⟩
   have a2:=scanDown_le (λx=>!bN.lt x e[a]!) e q (b- 1)
   obtain⟨G,a4⟩: ∃x,scanDown (λx=>!bN.lt x e[a]!) e q (b- 1)=x:=⟨_,rfl⟩
   rw[a4] at a2
   rw[a4]
   rw[Z,a4] at hP
   have b6:=A2.size
   by_cases Y:(G:Int)<(q:Int)
   ·have s:=cI Y
    rw[bJ om] at hP
    have L:=A2.rd (i:=G) om
    have K:=A2.rd (i:=a) om
    simp(disch:=omega)only[go_sem,s,L,K,A2.get,cJ,bW]
    have W:=A2.swap (i:=G) (j:=a) (nx:=h2.next+16) om rfl
    rw[hP]
    exact⟨rfl,W.1,gZ F2 W.2⟩
   have s:=bI Y
   rw[bU om] at hP
   have L:=A2.rd (i:=q) om
   have K:=A2.rd (i:=G) om
   simp(disch:=omega)only[go_sem,s,L,K,A2.get,cJ,bW]
   have W:=A2.swap (i:=q) (j:=G) (nx:=h2.next+16) om rfl
   obtain⟨h3,a9⟩: ∃h3,h3=((H.mk h2.tr (h2.next+16)).set S (aF (flat (e.setIfInBounds q e[G]!).toList))).set S (aF (flat ((e.setIfInBounds q e[G]!).setIfInBounds G e[q]!).toList)):=⟨_,rfl⟩
   rw[←a9] at W ⊢
   obtain⟨A3,b4⟩:=W
   have F3:=gZ F2 b4
   have b2:q<=G:=om
   obtain⟨e0,b1⟩:=exI (swp e q G)
   rw[b1] at A3 hP
   clear a9 L K A2 A9 F9 A1 F1 he Y s
   have ei:(q:Int)+1=((q+1:Nat):Int):=om
   have ej:(G:Int)- 1=((G- 1:Nat):Int):=om
   simp(disch:=omega)only[go_sem,ei,ej]
   refine bQ (λQ c=>(∃g:Nat->V,Q= [.sl S 0 N cp,aC a,aC b,aC pv,.fn (bN.f α) [] [],g 5,g 6,g 7,aC (((partLoop bN.lt a (q+1) (G- 1) e0).1:Nat):Int),g 9,g 10,g 11,g 12,g 13,g 14])/\dY c S N (partLoop bN.lt a (q+1) (G- 1) e0).2/\(partLoop bN.lt a (q+1) (G- 1) e0).1<b/\Fx (· =S) h c) ?_ ?_
   ·refine aI (λJ Q c=> ∃(i j:Nat) (e:Array α),(∃g:Nat->V,Q= [.sl S 0 N cp,aC a,aC b,aC pv,.fn (bN.f α) [] [],g 5,g 6,aC i,aC j,g 9,g 10,g 11,g 12,g 13,g 14])/\a<i/\i<=b+1/\j<b/\dY c S N e/\partLoop bN.lt a i j e=partLoop bN.lt a (q+1) (G- 1) e0/\Fx (· =S) h c/\J=j) (G- 1)
     ⟨q+1,G- 1,e0,aB rfl,om,om,om,A3,rfl,F3,rfl⟩ ?_
    obtain⟨R2,b3⟩:=exI (partLoop bN.lt a (q+1) (G- 1) e0)
    rw[b3]
    clear hP b3 Z a4 b1 ei ej a2 a3 a5 F3 b4 A3 b6 h3 b2
    clear q G
    rintro J n h3 ⟨i,j,e,⟨g,rfl⟩,b8,Z,hj,A3,hL,F3,a1⟩
    rw[partLoop_eq] at hL
    simp(disch:=omega)only[go_sem]
    refine bQ (λQ c=>(∃g:Nat->V,Q= [.sl S 0 N cp,aC a,aC b,aC pv,.fn (bN.f α) [] [],g 5,g 6,aC (scanUp (λx=>bN.lt x e[a]!) e j i:Nat),aC (j:Nat),g 9,g 10,g 11,g 12,g 13,g 14])/\dY c S N e/\Fx (· =S) h c) ?_ ?_
    ·refine aI (λJ Q c=> ∃(k:Nat),(∃g:Nat->V,Q= [.sl S 0 N cp,aC a,aC b,aC pv,.fn (bN.f α) [] [],g 5,g 6,aC (k:Nat),aC (j:Nat),g 9,g 10,g 11,g 12,g 13,g 14])/\i<=k/\k<=N+2/\dY c S N e/\scanUp (λx=>bN.lt x e[a]!) e j k=scanUp (λx=>bN.lt x e[a]!) e j i/\Fx (· =S) h c/\J=j+1-k) (j+1-i)
      ⟨i,aB rfl,om,om,A3,rfl,F3,rfl⟩ ?_
     rintro J n P ⟨k,⟨g,rfl⟩,a7,b5,o,p,Fs,rfl⟩
     by_cases l:(k:Int)<=((j:Nat):Int)
     ·have s:=cI l
      have eK:(k:Int)+1=((k+1:Nat):Int):=om
      have a6:=o.size
      have L:=o.rd (i:=k) om
      have K:=o.rd (i:=a) om
      simp(disch:=omega)only[go_sem,s,L,K]
      refine (jQ o (i:=k) (j:=a) om om _ om).mono ?_
      rintro _ U ⟨z,rfl,hz,y⟩
      have F:Fr P U:=Fr.trans ((Fr.refl P).bH om) y
      have t:=o.fr F
      have B:=gZ Fs (Fx.of F)
      cases hl:bN.lt e[k]! e[a]! with
      |false=>
       rw[rN (λc=>by have:=c.2;simp [hl] at this)] at p;simp(disch:=omega)only[go_sem,hz,hl];exact⟨by rw[←p];exact aB rfl,t,B⟩
      |true=>
       rw[Ie om (by simp [hl])] at p;simp(disch:=omega)only[go_sem,hz,hl,eK];exact⟨j+1-(k+1),om,k+1,aB rfl,om,om,t,p,B,rfl⟩
     ·have s:=bI l
      rw[rN (λc=>l (by have:=c.1;omega))] at p
      simp(disch:=omega)only[go_sem,s]
      exact⟨by rw[←p];exact aB rfl,o.fr ((Fr.refl P).bH om),gZ Fs (Fx.of ((Fr.refl P).bH om))⟩
    ·rintro n h9 ⟨⟨g,rfl⟩,A9,F9⟩
     have a3:=scanUp_ge (λx=>bN.lt x e[a]!) e j i
     have a5:=qX (λx=>bN.lt x e[a]!) e j i
     obtain⟨u,hu⟩: ∃x,scanUp (λx=>bN.lt x e[a]!) e j i=x:=⟨_,rfl⟩
     rw[hu] at a3 a5
     rw[hu]
     simp(disch:=omega)only[go_sem]
     refine bQ (λQ c=>(∃g:Nat->V,Q= [.sl S 0 N cp,aC a,aC b,aC pv,.fn (bN.f α) [] [],g 5,g 6,aC (u:Nat),aC (scanDown (λx=>!bN.lt x e[a]!) e u j:Nat),g 9,g 10,g 11,g 12,g 13,g 14])/\dY c S N e/\Fx (· =S) h c) ?_ ?_
     ·refine aI (λJ Q c=> ∃(k:Nat),(∃g:Nat->V,Q= [.sl S 0 N cp,aC a,aC b,aC pv,.fn (bN.f α) [] [],g 5,g 6,aC (u:Nat),aC (k:Nat),g 9,g 10,g 11,g 12,g 13,g 14])/\k<=j/\dY c S N e/\scanDown (λx=>!bN.lt x e[a]!) e u k=scanDown (λx=>!bN.lt x e[a]!) e u j/\Fx (· =S) h c/\J=k) j
       ⟨j,aB rfl,om,A9,rfl,F9,rfl⟩ ?_
      rintro J n P ⟨k,⟨g,rfl⟩,a7,o,p,Fs,a1⟩
      subst a1
      by_cases l:((u:Nat):Int)<=(J:Int)
      ·have s:=cI l
       obtain⟨k,rfl⟩: ∃k,J=k+1:=⟨J- 1,om⟩
       have eK:((k+1:Nat):Int)- 1=(k:Int):=om
       have a6:=o.size
       have L:=o.rd (i:=k+1) om
       have K:=o.rd (i:=a) om
       simp(disch:=omega)only[go_sem,s,L,K]
       refine (jQ o (i:=k+1) (j:=a) om om _ om).mono ?_
       rintro _ U ⟨z,rfl,hz,y⟩
       have F:Fr P U:=Fr.trans ((Fr.refl P).bH om) y
       have t:=o.fr F
       have B:=gZ Fs (Fx.of F)
       cases hl:bN.lt e[k+1]! e[a]! with
       |true=>
        rw[yC (λc=>by have:=c.2;simp [hl] at this)] at p;simp(disch:=omega)only[go_sem,hz,hl];exact⟨by rw[←p];exact aB rfl,t,B⟩
       |false=>
        rw[On om (by simp [hl])] at p;simp(disch:=omega)only[go_sem,hz,hl,eK];exact⟨k,om,k,aB rfl,om,t,p,B,rfl⟩
      ·have s:=bI l
       rw[yC (λc=>l (by have:=c.1;omega))] at p
       simp(disch:=omega)only[go_sem,s]
       exact⟨by rw[←p];exact aB rfl,o.fr ((Fr.refl P).bH om),gZ Fs (Fx.of ((Fr.refl P).bH om))⟩
     ·rintro n h4 ⟨⟨g,rfl⟩,A4,F4⟩
      have a2:=scanDown_le (λx=>!bN.lt x e[a]!) e u j
      obtain⟨w,hw⟩: ∃x,scanDown (λx=>!bN.lt x e[a]!) e u j=x:=⟨_,rfl⟩
      rw[hw] at a2
      rw[hw]
      rw[hu,hw] at hL
      have b7:=A4.size
      by_cases Y:(w:Int)<(u:Int)
      ·have s:=cI Y
       rw[bJ om] at hL
       simp(disch:=omega)only[go_sem,s]
       rw[←hL]
       exact⟨aB rfl,A4,om,F4⟩
      have s:=bI Y
      rw[bU om] at hL
      have L:=A4.rd (i:=u) om
      have K:=A4.rd (i:=w) om
      have ei:(u:Int)+1=((u+1:Nat):Int):=om
      have ej:(w:Int)- 1=((w- 1:Nat):Int):=om
      simp(disch:=omega)only[go_sem,s,L,K,A4.get,cJ,bW,ei,ej]
      have W:=A4.swap (i:=u) (j:=w) (nx:=h4.next+16) om rfl
      exact⟨w- 1,om,u+1,w- 1,_,aB rfl,om,om,om,W.1,hL,gZ F4 W.2,rfl⟩
   ·rintro n h5 ⟨⟨g,rfl⟩,A5,a0,F5⟩
    generalize partLoop bN.lt a (q+1) (G- 1) e0=r at hP A5 a0
    obtain⟨m,e5⟩:=r
    have a0:m<b:=a0
    have A5:dY h5 S N e5:=A5
    have c0:=A5.size
    have L:=A5.rd (i:=m) om
    have K:=A5.rd (i:=a) om
    simp(disch:=omega)only[go_sem,L,K,A5.get,cJ,bW]
    have W:=A5.swap (i:=m) (j:=a) (nx:=h5.next+16) om rfl
    rw[hP]
    exact⟨rfl,W.1,gZ F5 W.2⟩
theorem Kt {α:Type}[Inhabited α][O:bN α](h:H)(S N a b pv:Nat)(d:Array α)(K:pY)(hN:N<1000000)(A:dY h S N d)(hb:b<=N)(b1:a<=pv)(b2:pv<b):
  Ev T (bN.ρ α 253) [.sl S 0 N K,aC a,aC b,aC pv,.fn (bN.f α) [] []] h (λv h'=>v= aC ((partitionEqual bN.lt d a b pv).1:Nat)/\dY h' S N (partitionEqual bN.lt d a b pv).2/\Fx (· =S) h h'):=by
 refine mX (wH (α:=α) dS.ok (by decide)) rfl ?_
 have sz:=A.size
 have J:=A.rd (i:=a) om
 have G:=A.rd (i:=pv) om
 simp(disch:=omega)only[go_sem,dS,aE,J,G,A.get,cJ,bW]
 have W:=A.swap (i:=a) (j:=pv) (nx:=h.next+16) om rfl
 obtain⟨h1,U⟩: ∃h1,h1=((H.mk h.tr (h.next+16)).set S (aF (flat (d.setIfInBounds a d[pv]!).toList))).set S (aF (flat ((d.setIfInBounds a d[pv]!).setIfInBounds pv d[a]!).toList)):=⟨_,rfl⟩
 rw[←U] at W ⊢
 obtain⟨A1,F1⟩:=W
 have eb:(b:Int)- 1=((b- 1:Nat):Int):=om
 have ea:(a:Int)+1=((a+1:Nat):Int):=om
 unfold partitionEqual
 obtain⟨P,he⟩: ∃e,swp d a pv=e:=⟨_,rfl⟩
 rw[he] at A1 ⊢
 clear U J G A
 simp(disch:=omega)only[go_sem,ea,eb]
 refine bQ (λy c=>(∃g:Nat->V,y= [.sl S 0 N K,aC a,aC b,aC pv,.fn (bN.f α) [] [],g 5,aC (((partEqLoop bN.lt a (a+1) (b- 1) P).1:Nat):Int),g 7,g 8,g 9,g 10])/\dY c S N (partEqLoop bN.lt a (a+1) (b- 1) P).2/\Fx (· =S) h c) ?_ ?_
 ·refine aI (λs y c=> ∃(i j:Nat) (e:Array α),(∃g:Nat->V,y= [.sl S 0 N K,aC a,aC b,aC pv,.fn (bN.f α) [] [],g 5,aC i,aC j,g 8,g 9,g 10])/\a<i/\i<=b+1/\j<b/\dY c S N e/\partEqLoop bN.lt a i j e=partEqLoop bN.lt a (a+1) (b- 1) P/\Fx (· =S) h c/\s=j) (b- 1)
   ⟨a+1,b- 1,P,aB rfl,om,om,om,A1,rfl,F1,rfl⟩ ?_
  obtain⟨R2,a1⟩:=exI (partEqLoop bN.lt a (a+1) (b- 1) P)
  rw[a1]
  clear a1 F1 A1 h1 he P
  rintro s l h3 ⟨i,j,e,⟨g,rfl⟩,b0,a7,hj,A3,Q,F3,Y⟩
  rw[partEqLoop_eq] at Q
  simp(disch:=omega)only[go_sem]
  refine bQ (λy c=>(∃g:Nat->V,y= [.sl S 0 N K,aC a,aC b,aC pv,.fn (bN.f α) [] [],g 5,aC (scanUp (λx=>!bN.lt e[a]! x) e j i:Nat),aC (j:Nat),g 8,g 9,g 10])/\dY c S N e/\Fx (· =S) h c) ?_ ?_
  ·refine aI (λs y c=> ∃(k:Nat),(∃g:Nat->V,y= [.sl S 0 N K,aC a,aC b,aC pv,.fn (bN.f α) [] [],g 5,aC (k:Nat),aC (j:Nat),g 8,g 9,g 10])/\i<=k/\k<=N+2/\dY c S N e/\scanUp (λx=>!bN.lt e[a]! x) e j k=scanUp (λx=>!bN.lt e[a]! x) e j i/\Fx (· =S) h c/\s=j+1-k) (j+1-i)
    ⟨i,aB rfl,om,om,A3,rfl,F3,rfl⟩ ?_
   rintro s l F ⟨k,⟨g,rfl⟩,a6,a9,n,o,R,rfl⟩
   by_cases m:(k:Int)<=((j:Nat):Int)
   ·have q:=cI m
    have eK:(k:Int)+1=((k+1:Nat):Int):=om
    have a4:=n.size
    have J:=n.rd (i:=k) om
    have G:=n.rd (i:=a) om
    simp(disch:=omega)only[go_sem,q,J,G]
    refine (jQ n (i:=a) (j:=k) om om _ om).mono ?_
    rintro _ L ⟨z,rfl,Z,r⟩
    have B:Fr F L:=Fr.trans ((Fr.refl F).bH om) r
    have p:=n.fr B
    have t:=gZ R (Fx.of B)
    cases hl:bN.lt e[a]! e[k]! with
    |true=>
     rw[rN (λc=>by have:=c.2;simp [hl] at this)] at o;simp(disch:=omega)only[go_sem,Z,hl];exact⟨by rw[←o];exact aB rfl,p,t⟩
    |false=>
     rw[Ie om (by simp [hl])] at o;simp(disch:=omega)only[go_sem,Z,hl,eK];exact⟨j+1-(k+1),om,k+1,aB rfl,om,om,p,o,t,rfl⟩
   ·have q:=bI m
    rw[rN (λc=>m (by have:=c.1;omega))] at o
    simp(disch:=omega)only[go_sem,q]
    exact⟨by rw[←o];exact aB rfl,n.fr ((Fr.refl F).bH om),gZ R (Fx.of ((Fr.refl F).bH om))⟩
  ·rintro l h9 ⟨⟨g,rfl⟩,A9,F9⟩
   have a3:=scanUp_ge (λx=>!bN.lt e[a]! x) e j i
   have a5:=qX (λx=>!bN.lt e[a]! x) e j i
   obtain⟨u,hu⟩: ∃x,scanUp (λx=>!bN.lt e[a]! x) e j i=x:=⟨_,rfl⟩
   rw[hu] at a3 a5
   rw[hu]
   simp(disch:=omega)only[go_sem]
   refine bQ (λy c=>(∃g:Nat->V,y= [.sl S 0 N K,aC a,aC b,aC pv,.fn (bN.f α) [] [],g 5,aC (u:Nat),aC (scanDown (λx=>bN.lt e[a]! x) e u j:Nat),g 8,g 9,g 10])/\dY c S N e/\Fx (· =S) h c) ?_ ?_
   ·refine aI (λs y c=> ∃(k:Nat),(∃g:Nat->V,y= [.sl S 0 N K,aC a,aC b,aC pv,.fn (bN.f α) [] [],g 5,aC (u:Nat),aC (k:Nat),g 8,g 9,g 10])/\k<=j/\dY c S N e/\scanDown (λx=>bN.lt e[a]! x) e u k=scanDown (λx=>bN.lt e[a]! x) e u j/\Fx (· =S) h c/\s=k) j
     ⟨j,aB rfl,om,A9,rfl,F9,rfl⟩ ?_
    rintro s l F ⟨k,⟨g,rfl⟩,a6,n,o,R,Y⟩
    subst Y
    by_cases m:((u:Nat):Int)<=(s:Int)
    ·have q:=cI m
     obtain⟨k,rfl⟩: ∃k,s=k+1:=⟨s- 1,om⟩
     have eK:((k+1:Nat):Int)- 1=(k:Int):=om
     have a4:=n.size
     have J:=n.rd (i:=k+1) om
     have G:=n.rd (i:=a) om
     simp(disch:=omega)only[go_sem,q,J,G]
     refine (jQ n (i:=a) (j:=k+1) om om _ om).mono ?_
     rintro _ L ⟨z,rfl,Z,r⟩
     have B:Fr F L:=Fr.trans ((Fr.refl F).bH om) r
     have p:=n.fr B
     have t:=gZ R (Fx.of B)
     cases hl:bN.lt e[a]! e[k+1]! with
     |false=>
      rw[yC (λc=>by have:=c.2;simp [hl] at this)] at o;simp(disch:=omega)only[go_sem,Z,hl];exact⟨by rw[←o];exact aB rfl,p,t⟩
     |true=>
      rw[On om (by simp [hl])] at o;simp(disch:=omega)only[go_sem,Z,hl,eK];exact⟨k,om,k,aB rfl,om,p,o,t,rfl⟩
    ·have q:=bI m
     rw[yC (λc=>m (by have:=c.1;omega))] at o
     simp(disch:=omega)only[go_sem,q]
     exact⟨by rw[←o];exact aB rfl,n.fr ((Fr.refl F).bH om),gZ R (Fx.of ((Fr.refl F).bH om))⟩
   ·rintro l h4 ⟨⟨g,rfl⟩,A4,F4⟩
    have a2:=scanDown_le (λx=>bN.lt e[a]! x) e u j
    obtain⟨w,hw⟩: ∃x,scanDown (λx=>bN.lt e[a]! x) e u j=x:=⟨_,rfl⟩
    rw[hw] at a2
    rw[hw]
    rw[hu,hw] at Q
    have a8:=A4.size
    by_cases a0:(w:Int)<(u:Int)
    ·have q:=cI a0
     rw[bJ om] at Q
     simp(disch:=omega)only[go_sem,q]
     rw[←Q]
     exact⟨aB rfl,A4,F4⟩
    have q:=bI a0
    rw[bU om] at Q
    have J:=A4.rd (i:=u) om
    have G:=A4.rd (i:=w) om
    have ei:(u:Int)+1=((u+1:Nat):Int):=om
    have ej:(w:Int)- 1=((w- 1:Nat):Int):=om
    simp(disch:=omega)only[go_sem,q,J,G,A4.get,cJ,bW,ei,ej]
    have W:=A4.swap (i:=u) (j:=w) (nx:=h4.next+16) om rfl
    exact⟨w- 1,om,u+1,w- 1,_,aB rfl,om,om,om,W.1,Q,gZ F4 W.2,rfl⟩
 ·rintro l h5 ⟨⟨g,rfl⟩,A5,F5⟩
  simp(disch:=omega)only[go_sem]
  exact⟨A5,F5⟩
end
def ET  {α:Type}[Inhabited α][O:bN α](n:Nat):Prop:= ∀(h:H) (S N a b:Nat) (lim:Int) (d:Array α) (cp:pY),N<60000->dY h S N d->a<=b->b<=N->b-a<=n->0<=lim->lim<1000000->Below bN.lt a b d->
 Ev T (bN.ρ α 227) [.sl S 0 N cp,aC a,aC b,aC lim,.fn (bN.f α) [] []] h (λ_ h'=> ∃e,dY h' S N e/\PermIn a b d e/\SortedIn bN.lt a b e/\Fx (· =S) h h')
theorem EZ  {α:Type}[Inhabited α][O:bN α](n:Nat)(ih: ∀m,m<n->ET (α:=α) m):ET (α:=α) n:=by
 intro h S N a b a5 d s hN A a8 b0 hn u w hB;refine mX (wH (α:=α) eZ.ok (by decide)) rfl ?_;simp(disch:=omega)only[go_sem,eZ,aE]
 refine aI (λk' B Y=> ∃(c l:Nat) (l':Int) (U wp:Bool) (e:Array α),(∃g:Nat->V,B= [.sl S 0 N s,aC (c:Int),aC (l:Int),aC l',.fn (bN.f α) [] [],.bool U,.bool wp,g 7,g 8,g 9,g 10,g 11,g 12,g 13,g 14,g 15,g 16,g 17,g 18,g 19,g 20,g 21,g 22,g 23])/\c<=l/\l<=N/\a<=c/\l<=b/\0<=l'/\l'<1000000/\Below bN.lt c l e/\dY Y S N e/\Fx (· =S) h Y/\
   (∀R,PermIn c l e R->SortedIn bN.lt c l R->PermIn a b d R/\SortedIn bN.lt a b R)/\k'=l-c) (b-a)
  ⟨a,b,a5,true,true,d,aB rfl,a8,b0,dT _,dT _,u,w,hB,A,Fx.refl _ h,λR h1 h2=>⟨h1,h2⟩,rfl⟩ ?_
 clear A hB u w;rintro k' B h1 ⟨c,l,l',U,wp,e,⟨g,rfl⟩,y,o,a9,a4,u,w,hB,A,F,K,rfl⟩;obtain⟨m,hm⟩:=exI (l-c);have em:(l:Int)-(c:Int)=(m:Int):=om
 have ez: ∀{x:Array α} {hx:H},dY hx S N x->l<=x.size:=λA=>by rw[A.size];exact o
 by_cases a2:(m:Int)<=12
 ·have e1:=cI a2
  simp(disch:=omega)only[go_sem,em,e1];refine (yY h1 S N c l e s om A o y).mono ?_;rintro _ h2 ⟨A2,F2⟩;obtain⟨p1,p2⟩:=insertionSort_holds (bN.swo (α:=α)) e c l y (ez A);obtain⟨q1,q2⟩:=K _ p1 p2;simp(disch:=omega)only[go_sem];exact⟨_,A2,q1,q2,gZ F F2⟩
 have e1:=bI a2
 by_cases hl:l'=0
 ·have J:=cI hl
  simp(disch:=omega)only[go_sem,em,e1,J];refine (Bq h1 S N c l e s om A o y).mono ?_;rintro _ h2 ⟨A2,F2⟩;obtain⟨p1,p2⟩:=heapSort_holds (bN.swo (α:=α)) e c l y (ez A);obtain⟨q1,q2⟩:=K _ p1 p2;simp(disch:=omega)only[go_sem];exact⟨_,A2,q1,q2,gZ F F2⟩
 have J:=bI hl;simp(disch:=omega)only[go_sem,em,e1,J];refine mM (λZ Y=> ∃(J:Array α) (G:Int) (g:Nat->V),Z= [.sl S 0 N s,aC (c:Int),aC (l:Int),aC G,.fn (bN.f α) [] [],.bool U,.bool wp,aC m,g 8,g 9,g 10,g 11,g 12,g 13,g 14,g 15,g 16,g 17,g 18,g 19,g 20,g 21,g 22,g 23]/\0<=G/\G<1000000/\dY Y S N J/\PermIn c l e J/\Fx (· =S) h Y) ?_ ?_
 ·cases U with
  |true=>
   simp(disch:=omega)only[go_sem];exact .inl ⟨e,l',_,(aB rfl: ∃g:Nat->V,_= [.sl S 0 N s,aC (c:Int),aC (l:Int),aC l',.fn (bN.f α) [] [],.bool true,.bool wp,aC m,g 8,g 9,g 10,g 11,g 12,g 13,g 14,g 15,g 16,g 17,g 18,g 19,g 20,g 21,g 22,g 23]).choose_spec,u,w,A,permIn_refl e c l,F⟩
  |false=>
   simp(disch:=omega)only[go_sem];refine (Pb h1 S N c l e s hN A o y).mono ?_;rintro _ h2 ⟨J,A2,p2,F2⟩;simp(disch:=omega)only[go_sem];exact .inl ⟨J,l'- 1,_,(aB rfl: ∃g:Nat->V,_= [.sl S 0 N s,aC (c:Int),aC (l:Int),aC (l'- 1),.fn (bN.f α) [] [],.bool false,.bool wp,aC m,g 8,g 9,g 10,g 11,g 12,g 13,g 14,g 15,g 16,g 17,g 18,g 19,g 20,g 21,g 22,g 23]).choose_spec,om,om,A2,p2,gZ F F2⟩
 clear A F u w hl J g;rintro B h2 ⟨J,G,g,rfl,u,w,A,P2,F⟩;have B2:=hB.perm (by rw[←P2.1];exact ez A) P2;simp(disch:=omega)only[go_sem];refine (Nz h2 S N c l J s om A o om).mono ?_;rintro _ h3 ⟨p,t,rfl,W,Q,f3⟩;have A3:=A.fr f3;have F3:=gZ F (Fx.of f3);clear A F;simp(disch:=omega)only[go_sem];refine mM (λZ Y=> ∃(e3:Array α) (p2:Nat) (t2:Int) (g:Nat->V),Z= [.sl S 0 N s,aC (c:Int),aC (l:Int),aC G,.fn (bN.f α) [] [],.bool U,.bool wp,aC m,aC p2,aC t2,g 10,g 11,g 12,g 13,g 14,g 15,g 16,g 17,g 18,g 19,g 20,g 21,g 22,g 23]/\c<=p2/\p2<l/\dY Y S N e3/\PermIn c l J e3/\Fx (· =S) h Y) ?_ ?_
 ·refine bA (λht=>?_) (λht=>?_)
  ·simp(disch:=omega)only[go_sem]
   refine (Ge h3 S N c l J s om A3 o om).mono ?_;rintro _ h4 ⟨A4,F4⟩;have e5:(l:Int)- 1-((p:Int)-(c:Int))=(((l- 1)-(p-c):Nat):Int):=om
   simp(disch:=omega)only[go_sem,e5];exact .inl ⟨_,(l- 1)-(p-c),1,_,(aB rfl: ∃g:Nat->V,_= [.sl S 0 N s,aC (c:Int),aC (l:Int),aC G,.fn (bN.f α) [] [],.bool U,.bool wp,aC m,aC ((l- 1)-(p-c):Nat),aC 1,g 10,g 11,g 12,g 13,g 14,g 15,g 16,g 17,g 18,g 19,g 20,g 21,g 22,g 23]).choose_spec,om,om,A4,reverseRange_holds J c l y (ez A3),gZ F3 F4⟩
  ·simp(disch:=omega)only[go_sem]
   exact .inl ⟨J,p,t,_,(aB rfl: ∃g:Nat->V,_= [.sl S 0 N s,aC (c:Int),aC (l:Int),aC G,.fn (bN.f α) [] [],.bool U,.bool wp,aC m,aC p,aC t,g 10,g 11,g 12,g 13,g 14,g 15,g 16,g 17,g 18,g 19,g 20,g 21,g 22,g 23]).choose_spec,W,Q,A3,permIn_refl J c l,F3⟩
 have a1:=ez A3;clear A3 F3 W Q f3 p t g;rintro B h4 ⟨e3,p,t,g,rfl,W,Q,A,P3,F⟩;have B3:=B2.perm a1 P3;have a0:=permIn_trans _ _ _ c l P2 P3;have a6:l<=J.size:=a1;clear a1 B2 hB;refine Ix (λZ Y=> ∃(P:Array α) (g:Nat->V),Z= [.sl S 0 N s,aC (c:Int),aC (l:Int),aC G,.fn (bN.f α) [] [],.bool U,.bool wp,aC m,aC p,g 9,g 10,g 11,g 12,g 13,g 14,g 15,g 16,g 17,g 18,g 19,g 20,g 21,g 22,g 23]/\dY Y S N P/\PermIn c l e P/\Below bN.lt c l P/\Fx (· =S) h Y) ?_ ?_
 ·have skip: ∀(Z:List V),(∃g:Nat->V,Z= [.sl S 0 N s,aC (c:Int),aC (l:Int),aC G,.fn (bN.f α) [] [],.bool U,.bool wp,aC m,aC p,g 9,g 10,g 11,g 12,g 13,g 14,g 15,g 16,g 17,g 18,g 19,g 20,g 21,g 22,g 23])-> ∃(P:Array α) (g:Nat->V),Z= [.sl S 0 N s,aC (c:Int),aC (l:Int),aC G,.fn (bN.f α) [] [],.bool U,.bool wp,aC m,aC p,g 9,g 10,g 11,g 12,g 13,g 14,g 15,g 16,g 17,g 18,g 19,g 20,g 21,g 22,g 23]/\dY h4 S N P/\PermIn c l e P/\Below bN.lt c l P/\Fx (· =S) h h4:=λZ ⟨g,hv⟩=>⟨e3,g,hv,A,a0,B3,F⟩
  have run: ∀g:Nat->V,Ev T (bN.ρ α 252) [.sl S 0 N s,aC (c:Int),aC (l:Int),.fn (bN.f α) [] []] h4 (λv h'=> ∃r:Array α×Bool,v= .bool r.2/\dY h' S N r.1/\Fx (· =S) h4 h'/\PermIn c l e3 r.1/\(r.2=true->SortedIn bN.lt c l r.1)):=λ_=>by
   refine (Eu h4 S N c l e3 s om A o om).mono ?_;rintro v h5 ⟨hv,A5,F5⟩;obtain⟨q1,q2⟩:=partialInsertionSort_holds (bN.swo (α:=α)) e3 c l om (ez A) B3;exact⟨_,hv,A5,F5,q1,q2⟩
  cases U with
  |false=>
   simp(disch:=omega)only[go_sem];exact .inl (skip _ (aB rfl))
  |true=>cases wp with
   |false=>
    simp(disch:=omega)only[go_sem]
    exact .inl (skip _ (aB rfl))
   |true=>
    simp(disch:=omega)only[go_sem]
    refine bA (λht=>?_) (λht=>?_)
    ·simp(disch:=omega)only[go_sem]
     refine (run g).mono ?_
     rintro v h5 ⟨⟨e5,r5⟩,rfl,A5,F5,q1,q2⟩
     have A5:dY h5 S N e5:=A5
     have q1:PermIn c l e3 e5:=q1
     have P5:=permIn_trans _ _ _ c l a0 q1
     cases r5 with
     |false=>
      simp(disch:=omega)only[go_sem];exact .inl ⟨e5,_,(aB rfl: ∃g:Nat->V,_= [.sl S 0 N s,aC (c:Int),aC (l:Int),aC G,.fn (bN.f α) [] [],.bool true,.bool true,aC m,aC p,g 9,g 10,g 11,g 12,g 13,g 14,g 15,g 16,g 17,g 18,g 19,g 20,g 21,g 22,g 23]).choose_spec,A5,P5,B3.perm (ez A) q1,gZ F F5⟩
     |true=>
      obtain⟨w1,w2⟩:=K _ P5 (q2 rfl);simp(disch:=omega)only[go_sem];exact .inr ⟨by simp,e5,A5,w1,w2,gZ F F5⟩
    ·simp(disch:=omega)only[go_sem]
     exact .inl (skip _ (aB rfl))
 clear A P3 a0 B3 F P2 a6 e3 J;rintro B h5 ⟨P,g,rfl,A,P4,B4,F⟩;have a3:=ez A;refine Ix (λZ Y=> ∃(g:Nat->V),Z= [.sl S 0 N s,aC (c:Int),aC (l:Int),aC G,.fn (bN.f α) [] [],.bool U,.bool wp,aC m,aC p,g 9,g 10,g 11,g 12,g 13,g 14,g 15,g 16,g 17,g 18,g 19,g 20,g 21,g 22,g 23]/\dY Y S N P/\Fx (· =S) h Y) ?_ ?_
 ·by_cases h0:(0:Int)<(c:Int)
  case neg=>
   have e1:=bI h0;simp(disch:=omega)only[go_sem,e1];exact .inl ⟨_,(aB rfl: ∃g:Nat->V,_= [.sl S 0 N s,aC (c:Int),aC (l:Int),aC G,.fn (bN.f α) [] [],.bool U,.bool wp,aC m,aC p,g 9,g 10,g 11,g 12,g 13,g 14,g 15,g 16,g 17,g 18,g 19,g 20,g 21,g 22,g 23]).choose_spec,A.fr ((Fr.refl h5).bH om),gZ F (Fx.of ((Fr.refl h5).bH om))⟩
  have e1:=cI h0;have ea:(c:Int)- 1=((c- 1:Nat):Int):=om
  have c1:=A.rd (i:=c- 1) om;have c2:=A.rd (i:=p) om;simp(disch:=omega)only[go_sem,e1,ea,c1,c2];refine (jQ A (i:=c- 1) (j:=p) om om _ om).mono ?_;rintro _ h6 ⟨z,rfl,hz,a7⟩;have f6:Fr h5 h6:=Fr.trans ((Fr.refl h5).bH om) a7;have A6:=A.fr f6;have F6:=gZ F (Fx.of f6)
  cases hl:bN.lt P[c- 1]! P[p]! with
  |true=>
   simp(disch:=omega)only[go_sem,hz,hl];exact .inl ⟨_,(aB rfl: ∃g:Nat->V,_= [.sl S 0 N s,aC (c:Int),aC (l:Int),aC G,.fn (bN.f α) [] [],.bool U,.bool wp,aC m,aC p,g 9,g 10,g 11,g 12,g 13,g 14,g 15,g 16,g 17,g 18,g 19,g 20,g 21,g 22,g 23]).choose_spec,A6,F6⟩
  |false=>
   obtain⟨w1,w2,w3,w4,w5⟩:=round_eq (bN.swo (α:=α)) (partitionEqual_holds bN.lt) om W Q a3 B4 hl (Prod.eta (partitionEqual bN.lt P c l p)).symm;simp(disch:=omega)only[go_sem,hz,hl];refine (Kt h6 S N c l p P s om A6 o W Q).mono ?_;rintro _ h7 ⟨rfl,A7,F7⟩;simp(disch:=omega)only[go_sem];refine .inr ⟨by simp,l-(partitionEqual bN.lt P c l p).1,om,(partitionEqual bN.lt P c l p).1,l,G,U,wp,_,aB rfl,w2,o,om,a4,u,w,w4,A7,gZ F6 F7,λR r1 r2=>?_,rfl⟩;obtain⟨t1,t2⟩:=w5 R r1 r2;exact K R (permIn_trans _ _ _ c l P4 t1) t2
 clear A F;rintro B h6 ⟨g,rfl,A,F⟩;have e8:=Ow m (k:=8) (m:=8) rfl;simp(disch:=omega)only[go_sem];refine (zI h6 S N c l p P s om A o W Q).mono ?_;obtain⟨r,hr⟩:=exI (partition bN.lt P c l p);rw[hr];obtain⟨q,ap,e5⟩:=r;obtain⟨w1,w2,w3,w4,w5,w6,w7⟩:=round_part (bN.swo (α:=α)) (partition_holds bN.lt) W Q a3 B4 hr;rintro _ h7 ⟨rfl,A7,F7⟩;have A7:dY h7 S N e5:=A7;have F7:=gZ F F7;have el:(q:Int)-(c:Int)=((q-c:Nat):Int):=om
 have er:(l:Int)-(q:Int)=((l-q:Nat):Int):=om
 have e1:(q:Int)+1=((q+1:Nat):Int):=om
 simp(disch:=omega)only[go_sem,el,er,e8];refine bA (λht=>?_) (λht=>?_)
 ·simp(disch:=omega)only[go_sem]
  refine (ih (q-c) om h7 S N c q G e5 s hN A7 w1 om (dT _) u w w4).mono ?_;rintro _ h8 ⟨L,A8,p8,s8,F8⟩;obtain⟨u1,u2⟩:=w6 L p8 s8;simp(disch:=omega)only[go_sem,e1];refine⟨l-(q+1),om,q+1,l,G,_,ap,L,aB rfl,om,o,om,a4,u,w,u1,A8,gZ F7 F8,λR r1 r2=>?_,rfl⟩;obtain⟨t1,t2⟩:=u2 R r1 r2;exact K R (permIn_trans _ _ _ c l P4 t1) t2
 ·simp(disch:=omega)only[go_sem,e1]
  refine (ih (l-(q+1)) om h7 S N (q+1) l G e5 s hN A7 om o (dT _) u w w5).mono ?_;rintro _ h8 ⟨L,A8,p8,s8,F8⟩;obtain⟨u1,u2⟩:=w7 L p8 s8;simp(disch:=omega)only[go_sem];refine⟨q-c,om,c,q,G,_,ap,L,aB rfl,om,om,a9,om,u,w,u1,A8,gZ F7 F8,λR r1 r2=>?_,rfl⟩;obtain⟨t1,t2⟩:=u2 R r1 r2;exact K R (permIn_trans _ _ _ c l P4 t1) t2
theorem Ww  {α:Type}[Inhabited α][O:bN α](n:Nat):ET (α:=α) n:=by
 induction n using Nat.strongRecOn with
 |_ n ih=>exact EZ n  ih
theorem Ly {α:Type}[Inhabited α][O:bN α](h:H)(S N:Nat)(d:Array α)(a:pY)(g:N<60000)(A:dY h S N d):
  Ev T (bN.ρ α 186) [.sl S 0 N a,.fn (bN.f α) [] []] h (λ_ h'=> ∃e,dY h' S N e/\PermIn 0 N d e/\SortedIn bN.lt 0 N e/\Fx (· =S) h h'):=by
 refine mX (wH (α:=α) dN.ok (by decide)) rfl ?_
 have k:bitsLen N<=16:=(bitsLen_le_iff _ 16).2 om
 simp(disch:=omega)only[go_sem,dN,aE,fS (n:=(N:Int)) om om]
 refine (CV N h om).mono ?_
 rintro _ b ⟨rfl,c⟩
 subst c
 simp(disch:=omega)only[go_sem]
 refine (Ww N b S N 0 N _ d a g A om om om om om (.inl rfl)).mono ?_
 rintro _ j ⟨e,i,p,s,F⟩
 simp(disch:=omega)only[go_sem]
 exact⟨e,i,p,s,F⟩
theorem Cw (a:Int)(h:H):Ev T 198 [aC a] h (λv h'=>v= .bool false/\h'=h):=by
 refine dW nY rfl ?_;have e:decide (a≠a)=false:=bI om;simp(disch:=omega)only[go_sem,nY,aE,e]
def sF (a b:Int):Int:=if a<b then -1 else if b<a then 1 else 0
theorem zF (a b:Int)(h:H):Ev T 147 [aC a,aC b] h (λv h'=>v= aC (sF a b)/\Fr h h'):=by
 refine dW vY rfl ?_;simp(disch:=omega)only[go_sem,vY,aE];refine (Cw a h).mono ?_;rintro _ c ⟨rfl,rfl⟩;simp(disch:=omega)only[go_sem];refine (Cw b c).mono ?_;rintro _ g ⟨rfl,rfl⟩;simp(disch:=omega)only[go_sem];unfold sF
 by_cases c:a<b
 ·have e:=cI c
  simp(disch:=omega)only[go_sem,e,bJ c];exact Fr.refl _
 ·have e:=bI c
  by_cases d:b<a
  ·have f:=cI d
   simp(disch:=omega)only[go_sem,e,f,bU c,bJ d];exact Fr.refl _
  ·have f:=bI d
   simp(disch:=omega)only[go_sem,e,f,bU c,bU d];exact Fr.refl _
def OT:List Int->Int
 | []=>0
 |x::r=>if x=0 then OT r else x
theorem UI {l:List Int}{i:Nat}(hi:i<l.length)(h:l.getD i 0=0):OT (l.drop i)=OT (l.drop (i+1)):=by
 rw[Zh hi];show (if l[i]=0 then _ else _)=_;rw[bJ (by rw[List.getD,dD hi] at h;exact h)]
theorem adR {l:List Int}{i:Nat}(hi:i<l.length)(h:l.getD i 0≠0):OT (l.drop i)=l.getD i 0:=by
 rw[Zh hi];show (if l[i]=0 then _ else l[i])=_;have e:l.getD i 0=l[i]:=by rw[List.getD,dD hi];rfl
 rw[bU (by rw[←e];exact h),e]
theorem ajQ (u:V)(l:List Int)(h:H)(A:l.length<1000000)(p:SI h u l):Ev T 191 [u] h (λv h'=>v= aC (OT l)/\Fr h h'):=by
 refine dW Ih rfl ?_;have t:=p.lens;obtain⟨id,k,z,m,y⟩:=p.open;simp(disch:=omega)only[go_sem,Ih,aE,t];refine aI (λq w r=> ∃(i:Nat),(∃g:Nat->V,w= [u,aC 0,aC 0,g 3,u,aC (l.length:Int),aC i,g 7,g 8])/\i<=l.length/\OT (l.drop i)=OT l/\Fr h r/\q=l.length-i) l.length
   ⟨0,aB rfl,iB _,rfl,Fr.refl h,rfl⟩ ?_
 rintro q o s ⟨i,⟨g,rfl⟩,hi,c,f,rfl⟩
 by_cases b:(i:Int)<(l.length:Int)
 ·have n:=cI b
  have a:i<l.length:=om
  have ci:s.cell id (k+i)=some (aC (l.getD i 0)):=by rw[f.cell (m om),y i a]
  generalize j:l.getD i 0=x at ci;simp(disch:=omega)only[go_sem,n,z.ixa,ci]
  by_cases d:x=0
  ·have e:decide (x≠0)=false:=bI (by simpa using d)
   simp(disch:=omega)only[go_sem,e];rw[fJ i];exact⟨l.length-(i+1),om,i+1,aB rfl,om,by rw[←UI a (j.trans d)];exact c,f.bH om,rfl⟩
  ·have e:=cI d
   simp(disch:=omega)only[go_sem,e];exact⟨by rw[←c,adR a (by rw[j];exact d),j],f.bH om⟩
 have n:=bI b;obtain rfl:i=l.length:=om
 simp(disch:=omega)only[go_sem,n];rw[List.drop_length] at c;exact⟨by rw[←c];rfl,f⟩
structure KE where
 rep:V
 ord:Nat
 size:Nat
 ranks:V
 fst:Nat
 hrep:rep.cells= [rep]/\rep.one=true/\dI rep rep=true
 hranks:ranks.cells= [ranks]/\ranks.one=true/\dI ranks ranks=true
instance:Inhabited KE:=⟨⟨.aD,0,0,.aD,0,⟨rfl,rfl,rfl⟩,⟨rfl,rfl,rfl⟩⟩⟩
def KE.enc (a:KE):List V:= [a.rep,aC (a.ord:Int),aC (a.size:Int),a.ranks]
def KE.cmp (a b:KE):Int:=OT [sF a.ord b.ord,sF a.size b.size,sF a.fst b.fst]
def KE.lt (a b:KE):Bool:=decide (a.cmp b<0)
theorem Hu (a:KE)(h:H):Ce h (.agg a.enc)=some (.ptr h.next 0,h.new (.cells false a.enc)):=lG h _ (by simp [KE.enc,a.hrep.2.1,a.hranks.2.1,show (aC (a.ord:Int)).one=true from rfl,show (aC (a.size:Int)).one=true from rfl])
theorem KT (a b:KE)(h:H):Ev T 188 [.agg a.enc,.agg b.enc] h (λv h'=>v= aC (sF a.ord b.ord)/\Fr h h'):=by
 refine dW qH rfl ?_;obtain⟨A,d⟩:=exI h.next;obtain⟨r,o,e,g,u,f⟩:=dK d a.enc;obtain⟨c,k,t,n,p,l⟩:=dK e b.enc;have j:c.get A=some (.cells false a.enc):=by rw[p _ om];exact g
 have q:c.cell A 1=some (aC (a.ord:Int)):=by rw[H.cell_of j];rfl
 have m:c.cell (A+1) 1=some (aC (b.ord:Int)):=by rw[H.cell_of n];rfl
 simp(disch:=omega)only[go_sem,qH,aE,Hu,d,o,e,k,q,m];refine (zF _ _ c).mono ?_;rintro _ s ⟨rfl,i⟩;simp(disch:=omega)only[go_sem];exact (f.trans l).trans i
theorem yB (a b:KE)(h:H):Ev T 189 [.agg a.enc,.agg b.enc] h (λv h'=>v= aC (sF a.size b.size)/\Fr h h'):=by
 refine dW rQ rfl ?_;obtain⟨A,d⟩:=exI h.next;obtain⟨r,o,e,g,u,f⟩:=dK d a.enc;obtain⟨c,k,t,n,p,l⟩:=dK e b.enc;have j:c.get A=some (.cells false a.enc):=by rw[p _ om];exact g
 have q:c.cell A 2=some (aC (a.size:Int)):=by rw[H.cell_of j];rfl
 have m:c.cell (A+1) 2=some (aC (b.size:Int)):=by rw[H.cell_of n];rfl
 simp(disch:=omega)only[go_sem,rQ,aE,Hu,d,o,e,k,q,m];refine (zF _ _ c).mono ?_;rintro _ s ⟨rfl,i⟩;simp(disch:=omega)only[go_sem];exact (f.trans l).trans i
def KE.At (h:H)(a:KE):Prop:= ∃id off n cap,a.ranks= .sl id off (n+1) cap/\id<h.next/\h.cell id off=some (aC (a.fst:Int))
theorem KA (a b:KE)(h:H)(t:a.At h)(Z:b.At h):Ev T 190 [.agg a.enc,.agg b.enc] h (λv h'=>v= aC (sF a.fst b.fst)/\Fr h h'):=by
 refine dW iT rfl ?_;obtain⟨A,q⟩:=exI h.next;obtain⟨h1,F,r,w,o1,L⟩:=dK q a.enc;obtain⟨c,P,n2,R,W,Q⟩:=dK r b.enc;obtain⟨g,j,B,Y,G,K,N⟩:=t;obtain⟨p,f,U,y,z,lb,J⟩:=Z;have F2:=L.trans Q;have x:c.get A=some (.cells false a.enc):=by rw[W _ om];exact w
 have o:c.cell A 3=some a.ranks:=by rw[H.cell_of x];rfl
 have i:c.cell (A+1) 3=some b.ranks:=by rw[H.cell_of R];rfl
 rw[G] at o;rw[z] at i;have u:c.cell g j=some (aC (a.fst:Int)):=by rw[F2.cell K];exact N
 have s:c.cell p f=some (aC (b.fst:Int)):=by rw[F2.cell lb];exact J
 simp(disch:=omega)only[go_sem,iT,aE,Hu,q,F,r,P,o,i,u,s];refine (zF _ _ _).mono ?_;rintro _ d ⟨rfl,O⟩;have e:Fr c d:=((Fr.refl c).bH om).trans O;have t:=F2.next;have k:d.cell A 3=some (.sl g j (B+1) Y):=by rw[e.cell om];exact o
 have l:d.cell (A+1) 3=some (.sl p f (U+1) y):=by rw[e.cell om];exact i
 have m:d.cell g j=some (aC (a.fst:Int)):=by rw[e.cell om];exact u
 have n:d.cell p f=some (aC (b.fst:Int)):=by rw[e.cell om];exact s
 simp(disch:=omega)only[go_sem,k,l,m,n];exact F2.trans e
theorem Cy {h:H}{A:Nat}{ro:Bool}{a:KE}(b:h.get A=some (.cells ro a.enc)):h.row A 0 4=some a.enc:=by
 simp [H.row,b,sub,KE.enc]
theorem Jm (a:KE):dI (.agg a.enc) (.agg a.enc)=true:=by
 show tG a.enc a.enc=true;simp [KE.enc,tG,dI,a.hrep.2.2,a.hranks.2.2]
theorem KE.At.fr {a:KE}{h h':H}(x:a.At h)(f:Fr h h'):a.At h':=by
 obtain⟨c,e,g,i,j,b,d⟩:=x;exact⟨c,e,g,i,j,jM b f.next,by rw[f.cell b];exact d⟩
theorem CW (h:H)(x y z:Int):mH h 1 [aC 0] 3 [(0,1,aC x),(1,1,aC y),(2,1,aC z)]=some (.sl h.next 0 3 (.kn 3),h.new (.cells false (ints [x,y,z]))):=rfl
theorem acT (a b:KE)(h:H)(R:a.At h)(W:b.At h):Ev T 187 [.agg a.enc,.agg b.enc] h (λv h'=>v= aC (a.cmp b)/\Fr h h'):=by
 refine dW Cf rfl ?_;obtain⟨A,r⟩:=exI h.next;obtain⟨h1,K,w,z,o1,N⟩:=dK r a.enc;obtain⟨f,P,n2,g,U,Q⟩:=dK w b.enc;have F2:=N.trans Q;have B:f.get A=some (.cells false a.enc):=by rw[U _ om];exact z
 simp(disch:=omega)only[go_sem,Cf,aE,Hu,r,K,w,P,Cy B,Cy g,Jm,H.BJ];have hn:=F2.next;refine (KT a b _).mono ?_;rintro _ j ⟨rfl,u⟩;have x:Fr f j:=((Fr.refl f).bH om).trans u;have n:j.get (A+1)=some (.cells false b.enc):=by rw[x.get _ om];exact g
 simp(disch:=omega)only[go_sem,Cy n,Jm];refine (yB a b _).mono ?_;rintro _ L ⟨rfl,y⟩;have i:=x.trans y;have m:L.get (A+1)=some (.cells false b.enc):=by rw[i.get _ om];exact g
 simp(disch:=omega)only[go_sem,Cy m,Jm];refine (KA a b _ (R.fr (F2.trans i)) (W.fr (F2.trans i))).mono ?_;rintro _ d ⟨rfl,t⟩;have q:=i.trans t;have p:d.get (A+1)=some (.cells false b.enc):=by rw[q.get _ om];exact g
 simp(disch:=omega)only[go_sem,Cy p,Jm];obtain⟨I,G⟩:=exI (f.next+9+9);have n5:=t.next;have n4:=y.next;have n3:f.next+9+12<=j.next:=u.next;simp(disch:=omega)only[go_sem,G,CW]
 obtain⟨e,c⟩: ∃e:H,e=H.mk ((H.mk d.tr I).new (Ob.cells false (ints [sF a.ord b.ord,sF a.size b.size,sF a.fst b.fst]))).tr d.next:=⟨_,rfl⟩
 rw[←c];have Z:e.get I=aF (ints [sF a.ord b.ord,sF a.size b.size,sF a.fst b.fst]):=by rw[c];exact H.aL (H.mk d.tr I) _
 have n6:e.next=d.next:=by rw[c]
 have F: ∀k,k≠I->e.get k=d.get k:=λk o=>by rw[c];exact H.bG (H.mk d.tr I) (by simpa using o) _
 have Y:Fr f e:=⟨by have:=q.next;omega,λk o=>by rw[F k om];exact q.get k o⟩
 refine (ajQ _ [sF a.ord b.ord,sF a.size b.size,sF a.fst b.fst] e (by simp) (SV.all (by simp [aP]) om Z _)).mono ?_;rintro _ O ⟨rfl,J⟩;have s:=Y.trans J;have l:O.get (A+1)=some (.cells false b.enc):=by rw[s.get _ om];exact g
 simp(disch:=omega)only[go_sem,Cy l,Jm];exact⟨rfl,F2.trans s⟩
theorem KE.lt_iff (a b:KE):a.lt b=true↔a.ord<b.ord∨a.ord=b.ord/\(a.size<b.size∨a.size=b.size/\a.fst<b.fst):=by
 unfold KE.lt KE.cmp OT OT OT OT sF;rw[decide_eq_true_eq]
 repeat' split
 all_goals omega
theorem agV:SWO KE.lt where
 irrefl x:=by rw[←Bool.not_eq_true,KE.lt_iff];omega
 trans x y z h1 h2:=by rw[KE.lt_iff] at*;omega
 ntrans x y z h1 h2:=by rw[←Bool.not_eq_true,KE.lt_iff] at*;omega
theorem yZ: ∀c:C,Jo (λk=>k) c=c
 | .skip=>rfl
 | .reg l=>congrArg C.reg ((Xa λi _=>show YR (λk=>k) i=id i from by
   obtain⟨d,g,a⟩:=i
   cases a<;>rfl).trans (List.map_id l))
 | .any k n l=>congrArg (C.any k n) ((Xa λi _=>show ahM (λk=>k) i=id i from by
   obtain⟨i,⟨d,g,a⟩,e,h⟩:=i
   cases a<;>rfl).trans (List.map_id l))
 | .seq a b=>by rw[Jo,yZ a,yZ b]
 | .ite x a b=>by rw[Jo,yZ a,yZ b]
 | .block i c=>by rw[Jo,yZ c]
 | .loop c=>by rw[Jo,yZ c]
 | .exit i=>rfl
 | .ret=>rfl
 | .range f p a b=>rfl
 | .fail=>rfl
theorem adE (o:Option Ay.Fn):o.map (Vt λk=>k)=o:=by
 cases o with
 |none=>rfl
 |some f=>
  show some (Vt _ f)=_;unfold Vt;rw[yZ]
def KE.Pp (hB:H)(b0 S:Nat)(a:KE):Prop:= ∃id off n cap,a.ranks= .sl id off (n+1) cap/\id<b0/\id≠S/\hB.cell id off=some (aC (a.fst:Int))
def Bb (hB:H)(b0 S:Nat)(h:H):Prop:=b0<=h.next/\ ∀q,q<b0->q≠S->h.get q=hB.get q
theorem KE.Pp.at {i h:H}{g S:Nat}{a:KE}(p:a.Pp i g S)(b:Bb i g S h):a.At h:=by
 obtain⟨id,d,n,c,e,f,k,j⟩:=p;refine⟨id,d,n,c,e,jM f b.1,?_⟩;rw[←j];unfold H.cell;rw[b.2 id f k]
@[reducible] def ajM (hB:H)(b0 S:Nat):bN KE where
 lt:=KE.lt
 enc:=KE.enc
 P:=KE.Pp hB b0 S
 B:=Bb hB b0 S
 f:=187
 b0:=b0
 S:=S
 swo:=agV
 len _:=rfl
 one a:=by simp [KE.enc,a.hrep.2.1,a.hranks.2.1,show (aC (a.ord:Int)).one=true from rfl,show (aC (a.size:Int)).one=true from rfl]
 eqv:=Jm
 cmp h a b hb pa pb:=(acT a b h (pa.at hb) (pb.at hb)).mono λv h' ⟨e,f⟩=>⟨_,e,rfl,f⟩
 bfr h h' b f:=⟨mY b.1 f.next,λq h1 h2=>by rw[f.get q (jM h1 b.1)];exact b.2 q h1 h2⟩
 bS h h' b f:=⟨mY b.1 f.next,λq h1 h2=>by rw[f.get q (jM h1 b.1) h2];exact b.2 q h1 h2⟩
 bR h h' R b hR f:=⟨mY b.1 f.next,λq h1 h2=>by rw[f.get q (jM h1 b.1) (λe=>by have:q=R:=e;omega)];exact b.2 q h1 h2⟩
 bn h b:=b.1
 ρ:=λk=>k
 hT:=λk _=>(adE _).symm
 s1:=rfl
 s2:=rfl
 s3:=rfl
theorem Qd {l:List KE}{N:Nat}(h:l.length=N){e:Array KE}(k:PermIn 0 N l.toArray e)(m:SortedIn KE.lt 0 N e):e.toList.Perm l/\e.toList.Pairwise (λa b=>KE.lt b a=false):=by
 obtain⟨o,t,s⟩:=k;have c:e.size=N:=by rw[o];simpa using h
 refine⟨?_,?_⟩
 ·have r:(e.extract 0 N).toList=e.toList:=by rw[←c];simp
  have p:(l.toArray.extract 0 N).toList=l:=by rw[←h];simp
  rwa [r,p] at s
 ·rw[GP]
  intro i j hi d g;have f:j<N:=by simpa [c] using d
  have:=m i j (iB _) g f;have n:e[i]! =e.toList[i]:=by simp at hi;simp [hi]
  have q:e[j]! =e.toList[j]:=by simp at d;simp [d]
  rw[n,q] at this;exact this
def rJ (l:List KE):List V:=l.flatMap KE.enc
theorem VF (h:H)(S d:Nat)(l:List KE)(f:pY)(o:l.length<60000)(j:h.get S=aF (rJ l))(g:S<h.next)(m:d<=h.next)(q: ∀a∈l,a.Pp h d S):
  Ev T 186 [.sl S 0 l.length f,.fn 187 [] []] h (λ_ h'=> ∃l',h'.get S=aF (rJ l')/\l'.Perm l/\l'.Pairwise (λa b=>KE.lt b a=false)/\Fx (· =S) h h'):=by
 letI:=ajM h d S
 have A:dY h S l.length l.toArray:=⟨j,by simp,g,rfl,⟨m,λ_ _ _=>rfl⟩,λi hi=>by
  have c:i<l.length:=by simpa using hi
  have:l.toArray[i]! =l[i]:=by simp [c]
  rw[this]
  exact q _ (xG c)⟩
 refine (Ly h S l.length l.toArray f o A).mono ?_
 rintro _ h' ⟨e,k,p,s,F⟩
 obtain⟨r,n⟩:=Qd rfl p s
 exact⟨e.toList,k.get,r,n,F⟩
end Go.Proofs.YtcdbmkidaecdiaaGreat.Cls
namespace Go.Proofs.YtcdbmkidaecdiaaGreat
open Go Go.Ay Go.Pm
set_option maxRecDepth 100000
section
variable {i j p:Nat} {S:LN} {Q:List Nat}
section
variable {n:Nat} {G:List Nat->Prop} {L:LN}
theorem wU {l:LN}(nd:l.Nodup)(hi:i<l.length)(b:j<l.length)(e:l.getD i []=l.getD j []):i=j:=by
 have d:l.getD i []=l[i]:=by rw[List.getD,dD hi];rfl
 have c:l.getD j []=l[j]:=by rw[List.getD,dD b];rfl
 rw[d,c] at e;have h:=GP.1 nd;rcases Nat.lt_trichotomy i j with a|a|a
 ·exact absurd e (h i j hi b a)
 ·exact a
 ·exact absurd e.symm (h j i b hi a)
def cR (G:List Nat->Prop)(L:LN)(i j:Nat):Prop:=cj G (L.getD i []) (L.getD j [])
open Classical in
noncomputable def kU (G:List Nat->Prop)(L:LN)(i:Nat):List Nat:=(List.range L.length).filter λj=>decide (cR G L i j)
theorem uQ:j∈kU G L i↔j<L.length/\cR G L i j:=by
 classical
 unfold kU;rw[Rq,Dj,Ak]
theorem Yg (i:Nat):(kU G L i).Pairwise (· < ·):=by
 classical
 unfold kU;exact List.Pairwise.filter _ List.pairwise_lt_range
theorem Qj (i:Nat):(kU G L i).Nodup:=by
 classical
 unfold kU;exact List.Pairwise.filter _ List.nodup_range
def GU (G:List Nat->Prop)(L:LN)(i:Nat):Prop:= ∀j,j<i-> ¬cR G L j i
open Classical in
noncomputable def kC (G:List Nat->Prop)(L:LN)(k:Nat):List Nat:=(List.range k).filter λj=>decide (GU G L j)
theorem Ny (k:Nat):(GU G L k->kC G L (k+1)=kC G L k++ [k])/\(¬GU G L k->kC G L (k+1)=kC G L k):=by
 classical
 unfold kC;rw[List.range_succ,List.filter_append];refine⟨λh=>?_,λh=>?_⟩
 ·rw[List.filter_cons_of_pos (by simpa using h)];rfl
 ·rw[List.filter_cons_of_neg (by simpa using h),List.filter_nil,tZ]
theorem jY {k:Nat}:i∈kC G L k↔i<k/\GU G L i:=by
 classical
 unfold kC;rw[Rq,Dj,Ak]
variable (hG:dO n G) (E:cZ G L)
include hG E
omit hG in
theorem pD (hi:i<L.length):G (L.getD i []):=(E.mem _).1 (bC hi)
theorem lE (hi:i<L.length):aY n (L.getD i []):=hG.bF (pD E hi)
theorem Ux (hi:i<L.length):cR G L i i:=abD hG (lE hG E hi)
theorem Mt (hi:i<L.length)(h:cR G L i j):cR G L j i:=acC hG (lE hG E hi) h
theorem yD {k:Nat}(hi:i<L.length)(h:cR G L i j)(h2:cR G L j k):cR G L i k:=QR hG (lE hG E hi) h h2
theorem Px (hi:i<L.length): ∃r,r<=i/\GU G L r/\cR G L r i:=by
 induction i using Nat.strongRecOn with
 |_ i ih=>
  by_cases h:GU G L i
  ·exact⟨i,dT _,h,Ux hG E hi⟩
  ·obtain⟨j,a,b⟩: ∃j,j<i/\cR G L j i:=Jj λd=>h λj a b=>d ⟨j,a,b⟩
   obtain⟨r,f,e,c⟩:=ih j a om;exact⟨r,om,e,yD hG E om c b⟩
theorem YA {r s:Nat}(a:r<L.length)(b:s<L.length)(e:GU G L r)(h2:GU G L s)(d:cR G L r i)(c:cR G L s i):r=s:=by
 have g:=yD hG E a d (Mt hG E b c);have f:=yD hG E b c (Mt hG E a d);rcases Nat.lt_trichotomy r s with h|h|h
 ·exact absurd g (h2 r h)
 ·exact h
 ·exact absurd f (e s h)
omit hG E in
structure BQ (G:List Nat->Prop)(L S:LN)(i:Nat)(Q:List Nat)(p:Nat):Prop where
 nd:Q.Nodup
 ne:0<Q.length
 hd:Q.getD 0 0=i
 mem: ∀j∈Q,j<L.length/\cR G L i j
 cl: ∀k,k<p-> ∀s∈S,∃j∈Q,L.getD j []=aT (L.getD (Q.getD k 0) []) s
omit hG E in
theorem BQ.len (b:BQ G L S i Q p):Q.length<=L.length:=by
 have h:Q ⊆ List.range L.length:=λj a=>Dj.2 (b.mem j a).1
 have:=List.Nodup.length_le_of_subset b.nd h;rwa [Xf] at this
theorem BQ.done (b:BQ G L S i Q p)(w:Q.length<=p)(hi:i<L.length)(u: ∀s∈S,G s)(a: ∀x,G x->bM n (λg=>g∈S) x)(j:Nat):j∈Q↔j<L.length/\cR G L i j:=by
 refine⟨b.mem j,λ⟨q,hc⟩=>?_⟩
 have d: ∃k∈Q,L.getD k []=L.getD j []:=by
  refine aiD (S:=λg=>g∈S) (λg h=>hG.bF (u g h)) a (P:=λy=> ∃k∈Q,L.getD k []=y) (lE hG E hi) ⟨i,by rw[←b.hd];exact bC b.ne,rfl⟩ ?_ hc;rintro y g Y ⟨k,c,rfl⟩ h;obtain⟨t,v,r⟩:=Ad.1 c;obtain⟨o,m,l⟩:=b.cl t om g h;have e:Q.getD t 0=k:=by rw[Pm.cW v,r]
  rw[e] at l;exact⟨o,m,l⟩
 obtain⟨k,c,e⟩:=d;have f:=(b.mem k c).1;rw[←wU E.nodup f q e];exact c
theorem BQ.sort (b:BQ G L S i Q p)(e:Q.length<=p)(hi:i<L.length)(f: ∀s∈S,G s)(a: ∀x,G x->bM n (λg=>g∈S) x){c:List Int}(d:c.Perm (zi Q))(h2:c.Pairwise (· <= ·)):c=zi (kU G L i):=by
 refine Yu (d.trans ?_) h2 ?_
 ·refine List.Perm.map _ ((List.perm_ext_iff_of_nodup b.nd (Qj i)).2 λj=>?_)
  rw[b.done hG E e hi f a j,uQ]
 ·unfold zi
  rw[List.pairwise_map];exact (Yg i).imp λh=>om
theorem Tr (hi:i<L.length)(g:GU G L i):0<(kU G L i).length/\(kU G L i).getD 0 0=i:=by
 have e:i∈kU G L i:=uQ.2 ⟨hi,Ux hG E hi⟩;have a:=Rl e;refine⟨a,?_⟩;have h:=uQ.1 (bC (d:=0) a);obtain⟨k,f,l⟩:=Ad.1 e;have b:=GP.1 (Yg (G:=G) (L:=L) i);rw[Pm.cW a] at*
 by_cases c:k=0
 ·subst c;exact l
 ·have m:=b 0 k a f om
  exact absurd (Mt hG E hi h.2) (g _ om)
end
end
end Go.Proofs.YtcdbmkidaecdiaaGreat
namespace Go.Ay
open Go
def RZ (o:Option Ob)(h:H)(id:Nat)(s:Gn)(k y:V):Option (V×H):=match o with
 |some (.wmap sh es)=>if s=sh/\isKey s k=true then
   some (V.undef,h.set id (some (.wmap sh (match iN k es with
    |some e=>es.set e.1 (k,y)
    |none=>es++ [(k,y)]))))
  else none
 |_=>none
def afQ (s:Gn)(h:H)(x k y:V):Option (V×H):=match x with
 | .mp id=>RZ (h.get id) h id s k y
 |_=>none
theorem adA (ρ:X->V)(h:H)(s:Gn)(x k y:X):fC ρ h (.msw s x k y)=afQ s h (ρ x) (ρ k) (ρ y):=by
 simp only[fC,afQ,RZ];cases ρ x<;>try rfl
theorem abQ (s:Gn)(h:H)(id:Nat)(k y:V):afQ s h (.mp id) k y=RZ (h.get id) h id s k y:=rfl
def PM (o:Option Ob)(s:Gn)(zero:V)(ok:Bool)(k:V):Option V:=match o with
 |some (.wmap sh es)=>if s=sh/\isKey s k=true then
   match iN k es with
   |some e=>some (if ok then .tup [e.2,.bool true] else e.2)
   |none=>some (if ok then .tup [zero,.bool false] else zero)
  else none
 |_=>none
def ahY (s:Gn)(zero:V)(ok:Bool)(h:H)(x k:V):Option V:=match x with
 | .mp id=>PM (h.get id) s zero ok k
 |_=>none
theorem acM (ρ:X->V)(h:H)(s:Gn)(zero:V)(ok:Bool)(x k:X):fC ρ h (.lkw s zero ok x k)=(ahY s zero ok h (ρ x) (ρ k)).map (·,h):=by
 simp only[fC,ahY,PM];cases ρ x<;>try rfl
 rename_i id;simp only
 cases hg:h.get id with
 |none=>rfl
 |some o=>
  cases o<;>try rfl
  rename_i b c;simp only
  by_cases a:s=b/\isKey s (ρ k)=true
  ·rw[bJ a,bJ a]
   cases iN (ρ k) c<;>rfl
  ·rw[bU a,bU a];rfl
theorem ZV (s:Gn)(zero:V)(ok:Bool)(h:H)(id:Nat)(k:V):ahY s zero ok h (.mp id) k=PM (h.get id) s zero ok k:=rfl
attribute [go_sem] adA abQ acM ZV
end Go.Ay
namespace Go.Proofs.YtcdbmkidaecdiaaGreat
open Go Go.Ay Go.Pm
set_option maxRecDepth 100000
def Jl (L:LN)(k:Nat):List (V×V):=(List.range k).map λi=>(V.str (L.getD i []),aC i)
theorem Ka (k:V): ∀(a b:List (V×V)),iN k a=none->iN k (a++b)=(iN k b).map λq=>(q.1+a.length,q.2)
 | [],b,_=>by
  cases h:iN k b<;>simp [h]
 |e::a,b,h=>by
  show (if dI k e.1 then some (0,e.2) else (iN k (a++b)).map λq=>(q.1+1,q.2))=_;have c:(if dI k e.1 then some (0,e.2) else (iN k a).map λq=>(q.1+1,q.2))=none:=h;split at c
  ·cases c
  ·rename_i d
   rw[bU d,Ka k a b (by cases h2:iN k a with|none=>rfl|some x=>rw[h2] at c;cases c),Option.map_map]
   rfl
theorem Nc (L:LN)(k:Nat):Jl L (k+1)=Jl L k++ [(V.str (L.getD k []),aC k)]:=by
 unfold Jl;rw[List.range_succ,List.map_append];rfl
theorem Oh {L:LN}{w:List Nat}: ∀{k:Nat},(∀i,i<k->L.getD i []≠w)->iN (.str w) (Jl L k)=none
 |0,_=>rfl
 |k+1,h=>by
  rw[Nc,Ka _ _ _ (Oh λi hi=>h i om)]
  have:(dI (.str w) (.str (L.getD k [])))=false:=by
   have:=h k om;simp only[dI,beq_eq_false_iff_ne,ne_eq];exact λe=>this e.symm
  show Option.map _ (if dI (.str w) (.str (L.getD k [])) then _ else _)=_;rw[bU (by rw[this];simp)];rfl
theorem Xx {L:LN}(nd:L.Nodup): ∀{k i:Nat},k<=L.length->i<k->iN (.str (L.getD i [])) (Jl L k)=some (i,aC i)
 |0,i,_,h=>om
 |k+1,i,hk,h=>by
  rw[Nc]
  by_cases e:i=k
  ·subst e
   rw[Ka _ _ _ (Oh λj l e=>by have:=wU nd om om e;omega)];show Option.map _ (if dI (.str (L.getD i [])) (.str (L.getD i [])) then some (0,aC i) else _)=_;rw[bJ (by simp [dI])];simp [Jl]
  ·have g:=Xx nd (k:=k) om (show i<k by omega)
   have d: ∀(a b:List (V×V)) (x:V) (r:Nat×V),iN x a=some r->iN x (a++b)=some r:=by
    intro a
    induction a with
    |nil=>intro b x r h;cases h
    |cons y a ih2=>
     intro b x r h;show (if dI x y.1 then some (0,y.2) else (iN x (a++b)).map λq=>(q.1+1,q.2))=_;have c:(if dI x y.1 then some (0,y.2) else (iN x a).map λq=>(q.1+1,q.2))=some r:=h
     by_cases f:dI x y.1=true
     ·rw[bJ f] at c ⊢;exact c
     ·rw[bU f] at c ⊢
      cases h2:iN x a with
      |none=>rw[h2] at c;cases c
      |some r2=>rw[h2] at c;rw[ih2 b x r2 h2];exact c
   exact d _ _ _ _ g
theorem zJ {w:List Nat}(b:w.length<=1000)(h2: ∀x∈w,x<256):isKey .str (.str w)=true:=by
 have e:(decide (w.length<2^62)&&w.all λn=>decide (n<256))=true:=by
  rw[sE,decide_eq_true_eq,zP];exact⟨om,λx a=>by simpa using h2 x a⟩
 exact e
theorem AJ {L:LN}(nd:L.Nodup){k:Nat}(b:k<L.length)(a:isKey .str (.str (L.getD k []))=true)(hh:H)(M:Nat):
  RZ (some (.wmap .str (Jl L k))) hh M .str (.str (L.getD k [])) (aC k)=some (.undef,hh.set M (some (.wmap .str (Jl L (k+1))))):=by
 have e:iN (.str (L.getD k [])) (Jl L k)=none:=Oh λj c e=>by have:=wU nd om b e;omega
 simp only[RZ]
 rw[bJ ⟨trivial,a⟩,e,Nc]
theorem Gg {L:LN}(nd:L.Nodup){i:Nat}(hi:i<L.length)(a:isKey .str (.str (L.getD i []))=true)(z:V):
  PM (some (.wmap .str (Jl L L.length))) .str z false (.str (L.getD i []))=some (aC i):=by
 simp only[PM]
 rw[bJ ⟨trivial,a⟩,Xx nd (dT _) hi];rfl
end Go.Proofs.YtcdbmkidaecdiaaGreat
namespace Go.Proofs.YtcdbmkidaecdiaaGreat
open Go Go.Ay Go.Pm
set_option maxRecDepth 100000
section
variable {G:List Nat->Prop} {L:LN} {i j n:Nat} {Q:List Nat} {h:H} {v:V}
theorem NU {a:V}(b:a.cells= [a])(c:a.one=true)(M N m:Nat):qU [.aD,.nilm,.aD,.aD] [(0,1,a),(1,1,.mp M),(3,1,.sl N 0 m (.kn m))]=some (.agg [a,.mp M,.aD,.sl N 0 m (.kn m)]):=by
 simp [qU,iK,putAt,b,c,show (V.mp M).cells= [V.mp M] from rfl,show (V.sl N 0 m (.kn m)).cells= [V.sl N 0 m (.kn m)] from rfl,show (V.mp M).one=true from rfl,show (V.sl N 0 m (.kn m)).one=true from rfl]
theorem OB {a:V}(b:a.one=true)(M N m:Nat)(h:H):Ce h (.agg [a,.mp M,.aD,.sl N 0 m (.kn m)])=some (.ptr h.next 0,h.new (.cells false [a,.mp M,.aD,.sl N 0 m (.kn m)])):=lG h _ (by simp [b,show (V.mp M).one=true from rfl,show (V.sl N 0 m (.kn m)).one=true from rfl,show V.aD.one=true from rfl])
open Classical in
noncomputable def Jh (G:List Nat->Prop)(L:LN)(i:Nat)(Q:List Nat)(j:Nat):Bool:=decide ((∃i0,i0<i/\cR G L i0 j)∨j∈Q)
theorem nV:Jh G L i Q j=true↔(∃i0,i0<i/\cR G L i0 j)∨j∈Q:=by classical unfold Jh;simp only[decide_eq_true_eq]
theorem QX (G:List Nat->Prop)(L:LN)(j:Nat):Jh G L 0 [] j=false:=by
 rw[←Bool.not_eq_true,nV];rintro (⟨a,h,_⟩|h)
 ·omega
 ·cases h
theorem Za {k:Nat}:Jh G L i (Q++ [k]) j=if j=k then true else Jh G L i Q j:=by
 by_cases e:j=k
 ·rw[bJ e,nV];exact .inr (by simp [e])
 ·rw[bU e,DW,nV,nV]
  simp [e]
theorem uJ {p:Nat->Option Ay.Fn}{rd:Option Nat}{a:C}{k:Nat}{b:List V}{Q:E->List V->H->Prop}(J:List V->H->Prop)(c:Wp p rd (.loop a) b h (λe v h'=>e= .exit k/\J v h'))(h2: ∀v h',J v h'->Q .norm v h'):Wp p rd (.loop a) b h (xE k Q):=
 c.mono λe v h' x=>by
  obtain⟨rfl,x⟩:=x;rw[Cb];exact h2 v h' x
theorem dH.ge {sz id off b:Nat}{ws:List V}(o:dH h v sz ws b)(a:ws.length=n*sz)(g:0<sz)(s:Sl v sz n id off)(f:0<n):b<=id:=by
 have k:=s.ixa .i64 0 om om;rcases o.sv with ⟨_,rfl⟩|⟨m,c,len,l,r,t,e,d,_⟩
 ·have:=Nat.mul_pos f g
  simp at a;omega
 ·have q:=(o.in _ _ _ _ e).2.1
  subst e
  have u:0<len:=by
   have:=Nat.mul_pos f g;refine Nat.pos_of_ne_zero λp=>?_
   subst p;simp at d;rw[d] at a;simp at a;omega
  rw[Il om om] at k;simp only[Option.some.injEq,V.ptr.injEq] at k;omega
theorem TA (o:dO n G)(E:cZ G L)(hi:i<L.length)(g: ¬GU G L i)(j:Nat):Jh G L i [] j=Jh G L (i+1) [] j:=by
 obtain⟨m,l,c⟩: ∃j,j<i/\cR G L j i:=Jj λf=>g λj k c=>f ⟨j,k,c⟩
 rw[DW,nV,nV];constructor
 ·rintro (⟨b,d,a⟩|h)
  ·exact .inl ⟨b,om,a⟩
  ·cases h
 ·rintro (⟨b,d,a⟩|h)
  ·by_cases e:b=i
   ·subst e;exact .inl ⟨m,l,yD o E om c a⟩
   ·exact .inl ⟨b,om,a⟩
  ·cases h
theorem UA {S:LN}(m:dO n G)(E:cZ G L)(hi:i<L.length)(b:BQ G L S i Q Q.length)(l: ∀s∈S,G s)(a: ∀x,G x->bM n (λg=>g∈S) x)(k:j<L.length):Jh G L i Q j=Jh G L (i+1) [] j:=by
 rw[DW,nV,nV];constructor
 ·rintro (⟨d,f,c⟩|h)
  ·exact .inl ⟨d,om,c⟩
  ·exact .inl ⟨i,om,(b.mem j h).2⟩
 ·rintro (⟨d,f,c⟩|h)
  ·by_cases e:d=i
   ·subst e;exact .inr ((b.done m E (dT _) hi l a j).2 ⟨k,c⟩)
   ·exact .inl ⟨d,om,c⟩
  ·cases h
theorem MF (a:v.cells= [v])(b:v.one=true)(x y:Int):qU [.aD,aC 0,aC 0] [(0,1,v),(1,1,aC x),(2,1,aC y)]=some (.agg [v,aC x,aC y]):=by
 simp [qU,iK,putAt,a,b,show ∀z,(aC z).cells= [aC z] from λ_=>rfl,show ∀z,(aC z).one=true from λ_=>rfl]
theorem MB {w:V}(c:v.one=true)(a:w.cells= [w])(b:w.one=true)(x y:Int):qU [.aD,aC 0,aC 0,.aD] [(0,3,.agg [v,aC x,aC y]),(3,1,w)]=some (.agg [v,aC x,aC y,w]):=by
 simp [qU,iK,putAt,a,c,b,show ∀l,(V.agg l).cells=l from λ_=>rfl,show ∀z,(aC z).one=true from λ_=>rfl]
theorem LR {w:V}(b:v.one=true)(a:w.one=true)(x y:Int)(h:H):mH h 4 [.aD,aC 0,aC 0,.aD] 1 [(0,4,.agg [v,aC x,aC y,w])]=some (.sl h.next 0 1 (.kn 1),h.new (.cells false [v,aC x,aC y,w])):=by
 have e:dP [V.aD,aC 0,aC 0,.aD] 4= [V.aD,aC 0,aC 0,.aD]:=rfl;simp [mH,iK,putAt,e,b,a,show ∀l,(V.agg l).cells=l from λ_=>rfl,show ∀z,(aC z).one=true from λ_=>rfl]
theorem Dk (k:Nat):(kC G L k).length<=k:=by
 classical
 unfold kC;exact mY (List.length_filter_le _ _) (by rw[Xf];exact dT _)
theorem Sv (ks:List Cls.KE):(Cls.rJ ks).length=ks.length*4:=by
 induction ks with
 |nil=>rfl
 |cons a r ih=>
  show (a.enc++Cls.rJ r).length=_;rw[iV,ih,List.length_cons];show 4+_=_;omega
theorem NJ {a b c d:V}(hh:H)(id:Nat)(y:V):eU (some (.cells false [a,b,c,d])) hh id 2 [y]=some (hh.set id (some (.cells false [a,b,y,d]))):=by
 simp [eU,putAt]
theorem afJ {sz:Nat}{ws:List V}(s:SV h v sz ws):Ej (λq=>h.next<=q) v:=by
 cases v with
 |sl id off len cap=>exact λa=>by have:=s.in _ _ _ _ rfl;omega
 |_=>trivial
structure KO (n:Nat)(G:List Nat->Prop)(L:LN)(X:Nat)(W:Nat->Prop)(hh:H)(a:Cls.KE)(r:Nat):Prop where
 fst:a.fst=r
 ord:a.ord=oJ (L.getD r []) n
 size:a.size=(kU G L r).length
 rep:PV (λq=>X<=q) hh a.rep (L.getD r [])
 ranks:PV W hh a.ranks (kU G L r)
theorem KO.go {X:Nat}{W W':Nat->Prop}{h':H}{a:Cls.KE}{r:Nat}(k:KO n G L X W h a r)(f:Fx W h h')(l:X<=h.next)(g: ∀q,W q->X<=q)(e: ∀q,q<h.next->W' q->W q):KO n G L X W' h' a r:=
 ⟨k.fst,k.ord,k.size,k.rep.fx ⟨f.next,λq b d=>f.get q b λc=>d (g q c)⟩,PV.go k.ranks f e⟩
structure OfJ (n:Nat)(G:List Nat->Prop)(L:LN)(X D:Nat)(vL:V)(h5:H)(i:Nat)(hh:H):Prop where
 ex: ∃vK ks W,hh.get (X+8)=some (.cells false [vL,.mp (X+3),vK,.sl (X+6) 0 L.length (.kn L.length)])/\dH hh vK 4 (Cls.rJ ks) (D+1)/\aN (KO n G L X W hh) ks (kC G L i)/\Ik W vK/\W D/\W (X+8)/\W (X+6)/\(∀q,W q->q<hh.next)/\(∀q,W q->X<=q)/\(ks= []∨ ∃id cap,vK= .sl id 0 ks.length cap/\hh.get id=some (.cells false (Cls.rJ ks)))
 gD:hh.get D=some (.cells false (rc L.length λj=> .bool (Jh G L i [] j)))
 old:Fx (λq=>q=X+8∨D<=q) h5 hh
 nx:D<hh.next
def VZ (n:Nat):C->Bool
 | .block k _=>k==n
 | .seq _ b=>VZ n b
 |_=>false
def Ve (n:Nat):C->C
 | .seq a b=>if VZ n a then b else Ve n b
 |c=>c
structure OfE (n:Nat)(G:List Nat->Prop)(L:LN)(X D:Nat)(vL:V)(h h2 h5 h7:H):Prop where
 el:cZ G L
 le:L.length<=5040
 f2:Fr h h2
 x2:h2.next=X
 sp:SP h2 vL L
 f25:Fr h2 h5
 xD:X+10<=D
 n5:h5.next=D
 gM:h5.get (X+3)=some (.wmap .str (Jl L L.length))
 gN:h5.get (X+6)=some (.cells false (rc L.length λ_=> aC 0))
 j:OfJ n G L X D vL h5 L.length h7
theorem aaT {W0:Nat->Prop}(vc:V)(n:Nat)(O:LN)(R:jJ)(G:List Nat->Prop)(h:H)(gc:GC W0 h vc n O R G)(P:V->H->Prop)
  (hk: ∀L X D vL h2 h5 h7 A (g:Nat->V),dM O R n 0 (aX n)=L->OfE n G L X D vL h h2 h5 h7->Wp T none (Ve 2 mU.fn.body) ([g 0,.ptr A 0,.nilp,aC 0,vL,g 5,.ptr (X+8) 0,g 7,g 8,g 9,g 10,g 11,g 12,g 13,g 14,g 15,g 16,g 17,g 18,g 19,g 20,g 21,g 22,g 23,g 24,g 25,g 26,g 27,g 28,g 29,g 30,g 31,g 32,g 33,g 34,g 35,g 36,g 37,g 38,g 39,g 40,g 41,g 42,g 43,g 44,g 45]) h7 (LX mU.fn.results P)):
  Ev T 139 [vc] h P:=by
 obtain⟨vO,vR,e,sO,sR⟩:=gc.ch
 subst e
 refine dW mU rfl ?_
 have i2:vO.one=true:=BX sO
 have i4:vR.one=true:=Up sR
 obtain⟨A,hA⟩:=exI h.next
 obtain⟨d,e1,n1,g1,o1,f1⟩:=dK hA [aC n,vO,vR]
 have bx:=bV h (v:= aC n) (u:=vO) (w:=vR) rfl i2 i4
 have rB:=aJ g1
 obtain⟨L,hL⟩:=exI (dM O R n 0 (aX n))
 obtain⟨E,ll⟩:=dB gc.cY gc.isc
 have r2:=jE gc
 rw[hL] at E ll
 have hG:=gc.cY
 have n7:=gc.n7
 have n0:=gc.n0
 simp(disch:=omega)only[go_sem,mU,aE,bx,hA,e1,rB]
 refine (Wb _ n O R G d (gc.mono f1)).mono ?_
 rw[hL]
 rintro _ h2 ⟨vL,rfl,nw⟩
 obtain⟨wL,W,c1,j9,r1,W1⟩:=nw.ex
 have g4:=aN.length j9
 obtain⟨m,hm⟩:=exI L.length
 rw[hm] at g4
 have e3:=dH.lens c1 g4
 have c9:=c1.sv.cT.2.1
 have f2:=nw.fr
 simp(disch:=omega)only[go_sem,e3]
 refine bA (λhc=>(hc rfl).elim) (λ_=>?_)
 obtain⟨X,hX⟩:=exI h2.next
 simp(disch:=omega)only[go_sem,e3,tY _ m om,hX,NU c1.sv.cT.1 c9,OB c9]
 obtain⟨h3,a1⟩: ∃h3:H,h3=H.mk ((H.mk ((H.mk ((H.mk h2.tr (X+3)).new (Ob.wmap Gn.str [])).tr (X+6)).new (Ob.cells false (rc m λ_=>aC 0))).tr (X+8)).new (Ob.cells false [vL,.mp (X+3),.aD,.sl (X+6) 0 m (.kn m)])).tr (X+10):=⟨_,rfl⟩
 rw[←a1]
 have n3:h3.next=X+10:=by rw[a1]
 have gB:h3.get (X+8)=some (.cells false [vL,.mp (X+3),.aD,.sl (X+6) 0 m (.kn m)]):=by rw[a1];exact H.aL (H.mk _ (X+8)) _
 have gN:h3.get (X+6)=some (.cells false (rc m λ_=>aC 0)):=by
  rw[a1];exact (H.bG (H.mk _ (X+8)) (show X+6≠X+8 by omega) _).trans (H.aL (H.mk _ (X+6)) _)
 have gM:h3.get (X+3)=some (.wmap .str (Jl L 0)):=by
  rw[a1];exact (H.bG (H.mk _ (X+8)) (show X+3≠X+8 by omega) _).trans ((H.bG (H.mk _ (X+6)) (show X+3≠X+6 by omega) _).trans (H.aL (H.mk _ (X+3)) _))
 have f3:Fr h2 h3:=⟨om,λq hq=>by
  rw[a1]
  exact (H.bG (H.mk _ (X+8)) (show q≠X+8 by omega) _).trans ((H.bG (H.mk _ (X+6)) (show q≠X+6 by omega) _).trans (H.bG (H.mk _ (X+3)) (show q≠X+3 by omega) _))⟩
 clear a1
 have a0: ∀i,i<m->(L.getD i []).length<=1000/\ ∀x∈L.getD i [],x<256:=λi hi=>by
  have P:=lE hG E (show i<L.length by omega);exact⟨by rw[P.len];omega,λx hx=>by have:=P.lt x hx;omega⟩
 obtain⟨p0,k0,c7,k8,i6⟩:=SV.shape c1.sv m om om
 have f4: ∀i,i<m-> ∃vx,(∀h',Fr h2 h'->h'.cell p0 (k0+i)=some vx)/\SI h2 vx (zi (L.getD i [])):=λi hi=>by
  obtain⟨v,d,b4⟩:=dZ.at j9 (i:=i) om;exact⟨v,λh' f=>by rw[f.cell (k8 om),i6 i om,d],b4.si⟩
 have hK: ∀i,i<m->isKey .str (.str (L.getD i []))=true:=λi hi=>zJ (a0 i hi).1 (a0 i hi).2
 refine bQ (λvs B=>(∃g:Nat->V,vs= [g 0,.ptr A 0,.nilp,aC 0,vL,g 5,.ptr (X+8) 0,g 7,g 8,g 9,g 10,g 11,g 12,g 13,g 14,g 15,g 16,g 17,g 18,g 19,g 20,g 21,g 22,g 23,g 24,g 25,g 26,g 27,g 28,g 29,g 30,g 31,g 32,g 33,g 34,g 35,g 36,g 37,g 38,g 39,g 40,g 41,g 42,g 43,g 44,g 45])/\B.get (X+3)=some (.wmap .str (Jl L m))/\Fx (· =X+3) h3 B) ?_ ?_
 ·refine aI (λk' vs B=> ∃(i:Nat),(∃g:Nat->V,vs= [g 0,.ptr A 0,.nilp,aC 0,vL,g 5,.ptr (X+8) 0,g 7,g 8,g 9,g 10,g 11,g 12,g 13,g 14,g 15,g 16,g 17,g 18,g 19,g 20,g 21,g 22,vL,aC m,aC i,g 26,g 27,g 28,g 29,g 30,g 31,g 32,g 33,g 34,g 35,g 36,g 37,g 38,g 39,g 40,g 41,g 42,g 43,g 44,g 45])/\i<=m/\B.get (X+3)=some (.wmap .str (Jl L i))/\Fx (· =X+3) h3 B/\k'=m-i) m
   ⟨0,aB rfl,iB _,gM,Fx.refl _ h3,rfl⟩ ?_
  rintro k' F h4 ⟨i,⟨g,rfl⟩,hi,a8,F4,rfl⟩
  by_cases b3:(i:Int)<(m:Int)
  case neg=>
   have d4:=bI b3;obtain rfl:i=m:=om
   simp(disch:=omega)only[go_sem,d4];exact⟨aB rfl,a8,F4⟩
  have d4:=cI b3
  have a4:i<m:=om
  have b8:Fr h2 h4:=⟨by have:=F4.next;omega,λq hq=>by rw[F4.get q om om];exact f3.get q hq⟩
  have c0:h4.get (X+8)=some (.cells false [vL,.mp (X+3),.aD,.sl (X+6) 0 m (.kn m)]):=by rw[F4.get _ om om];exact gB
  obtain⟨vx,cx,sx⟩:=f4 i a4
  have c2:h4.cell (X+8) 1=some (.mp (X+3)):=by rw[H.cell_of c0];rfl
  simp(disch:=omega)only[go_sem,d4,c7.ixa,cx h4 b8,c2]
  refine (IQ vx (L.getD i []) _ (a0 i a4).1 (a0 i a4).2 (sx.mono (b8.trans ((Fr.refl h4).bH om)))).mono ?_
  rintro _ h5 ⟨rfl,f5⟩
  have c4:Fr h4 h5:=((Fr.refl h4).bH om).trans f5
  have n4:=F4.next
  have p2:h5.get (X+3)=some (.wmap .str (Jl L i)):=by rw[c4.get _ om];exact a8
  have p8:h5.cell (X+8) 1=some (.mp (X+3)):=by rw[c4.cell om];exact c2
  have pt:=λB=>AJ E.nodup (show i<L.length by omega) (hK i a4) B (X+3)
  simp(disch:=omega)only[go_sem,p8,p2,pt]
  rw[fJ i]
  refine⟨by simp [dI],m-(i+1),om,i+1,aB rfl,om,rfl,⟨by have:=c4.next;show h3.next<=h5.next;omega,λq d h2=>by rw[H.aH _ (λe=>h2 e),c4.get q om];exact F4.get q d h2⟩,rfl⟩
 rintro F h4 ⟨⟨g,rfl⟩,a8,F4⟩
 have n4:=F4.next
 have b8:Fr h2 h4:=⟨om,λq hq=>by rw[F4.get q om om];exact f3.get q hq⟩
 have c0:h4.get (X+8)=some (.cells false [vL,.mp (X+3),.aD,.sl (X+6) 0 m (.kn m)]):=by rw[F4.get _ om om];exact gB
 have l1:h4.get (X+6)=some (.cells false (rc m λ_=>aC 0)):=by rw[F4.get _ om om];exact gN
 have g0:=f2.trans b8
 have rA:=aJ (h:=h4) (id:=A) (ro:=false) (by rw[g0.get _ om];exact g1)
 simp(disch:=omega)only[go_sem,rA]
 refine (Sd _ n O R G h4 (gc.mono (f1.trans g0))).mono ?_
 rintro _ h5 ⟨vS,rfl,nS⟩
 have f5:=nS.fr
 obtain⟨D,hD⟩:=exI h5.next
 obtain⟨h6,e6,n6,g6,o6,f6⟩:=dK hD (rc m λ_=>V.bool false)
 simp(disch:=omega)only[go_sem,e3,Tv,hD,e6]
 have e4:=b8.trans f5
 have q5:=e4.next
 have n5:=f5.next
 obtain⟨wS,WS,e7,d7,q2,l9⟩:=nS.ex
 obtain⟨S,hS⟩:=exI (bP R)
 rw[hS] at d7
 have m8:=aN.length d7
 have a2: ∀s∈S,G s:=λs hs=>bE gc.isc (by rw[hS];exact hs)
 have b0: ∀x,G x->bM n (λg=>g∈S) x:=λx hx=>by rw[←hS];exact oG hG gc.isc hx
 obtain⟨sl,d3⟩:=exI S.length
 have q1:sl<=49:=by
  have d: ∀j,j<R.length->(R.getD j []).length<=n:=λj U=>by
   have c3:j<n:=by rw[←gc.isc.lr];exact U
   rw[gc.isc.rl j c3];have:=tK (λx hx=>hG.bF hx) c3 (gc.isc.asc j c3) (gc.isc.mem j c3);omega
  have h2:=uG (n:=n) (R:=R) (dT _) d;rw[List.take_length,hS,d3,gc.isc.lr] at h2;have:n*n<=7*7:=Nat.mul_le_mul n7 n7;omega
 have l7:=dH.lens e7 (m8.trans d3)
 obtain⟨b1,j0,i9,j5,q0⟩:=SV.shape e7.sv sl om om
 have l8:=dH.ge e7 (n:=sl) om om i9
 have o7: ∀t,t<sl-> ∃vy,(∀B,Fx (λq=>q=X+8∨D<=q) h5 B->B.cell b1 (j0+t)=some vy)/\PV (λq=>q=X+8∨D<=q) h5 vy (S.getD t []):=λt ht=>by
  obtain⟨v,d,b4⟩:=dZ.at d7 (i:=t) om;have hi:=j5 om;have q7:h4.next<=b1:=l8 om;refine⟨v,λB f=>?_,b4.kO λid r0 hw=>l9 id ?_⟩
  ·have e:B.get b1=h5.get b1:=f.get b1 hi om
   unfold H.cell;rw[e];have:=q0 t om;rw[d] at this;exact this
  ·rcases hw with e|e
   ·omega
   ·omega
 have J0:OfJ n G L X D vL h5 0 h6:=
  ⟨⟨.aD, [],λq=>q=D∨q=X+8∨q=X+6,by rw[f6.get _ om,f5.get _ om,hm];exact c0,dH.aD _ _ _,trivial,λ_ _ _ _ e=>(by cases e),.inl rfl,.inr (.inl rfl),.inr (.inr rfl),λq h=>by rcases h with h|h|h<;>omega,λq h=>by rcases h with h|h|h<;>omega,.inl rfl⟩,
   by rw[g6,hm,show (λj=>V.bool (Jh G L 0 [] j))=λ_=>V.bool false from funext λj=>by rw[QX]],Fx.of f6,om⟩
 refine bQ (λvs B=>(∃g:Nat->V,vs= [g 0,.ptr A 0,.nilp,aC 0,vL,g 5,.ptr (X+8) 0,g 7,g 8,g 9,g 10,g 11,g 12,g 13,g 14,g 15,g 16,g 17,g 18,g 19,g 20,g 21,g 22,g 23,g 24,g 25,g 26,g 27,g 28,g 29,g 30,g 31,g 32,g 33,g 34,g 35,g 36,g 37,g 38,g 39,g 40,g 41,g 42,g 43,g 44,g 45])/\OfJ n G L X D vL h5 m B) ?_ ?_
 ·refine aI (λk' vs B=> ∃(i:Nat),(∃g:Nat->V,vs= [g 0,.ptr A 0,.nilp,aC 0,vL,g 5,.ptr (X+8) 0,g 7,g 8,vS,.sl D 0 m (.kn m),g 11,g 12,g 13,g 14,g 15,g 16,g 17,g 18,g 19,g 20,g 21,g 22,g 23,g 24,g 25,g 26,vL,aC m,aC i,g 30,g 31,g 32,g 33,g 34,g 35,g 36,g 37,g 38,g 39,g 40,g 41,g 42,g 43,g 44,g 45])/\i<=m/\OfJ n G L X D vL h5 i B/\k'=m-i) m
   ⟨0,aB rfl,iB _,J0,rfl⟩ ?_
  clear J0
  rintro k' F h7 ⟨i,⟨g,rfl⟩,hi,J,rfl⟩
  by_cases b3:(i:Int)<(m:Int)
  case neg=>
   have d4:=bI b3;obtain rfl:i=m:=om
   simp(disch:=omega)only[go_sem,d4];exact⟨aB rfl,J⟩
  have d4:=cI b3
  have a4:i<m:=om
  have nD:=J.nx
  have a6:Fr h2 h7:=⟨om,λq hq=>by rw[J.old.get q om om];exact e4.get q hq⟩
  obtain⟨vx,cx,sx⟩:=f4 i a4
  have cD:=tF J.gD (i:=i) om
  by_cases hr:GU G L i
  case neg=>
   have d6:Jh G L i [] i=true:=by
    rw[nV];exact .inl (Jj λhn=>hr λj U hc=>hn ⟨j,U,hc⟩)
   rw[d6] at cD;simp(disch:=omega)only[go_sem,d4,c7.ixa,cx h7 a6,cD];rw[fJ i];refine⟨m-(i+1),om,i+1,aB rfl,om,?_,rfl⟩;refine⟨?_,?_,J.old,J.nx⟩
   ·rw[(Ny i).2 hr];exact J.ex
   ·rw[J.gD,dJ λj _=>by rw[TA hG E (show i<L.length by omega) hr j]]
  have d6:Jh G L i [] i=false:=by
   rw[←Bool.not_eq_true,nV];rintro (⟨j,U,hc⟩|h)
   ·exact hr j U hc
   ·cases h
  rw[d6] at cD
  obtain⟨h8,e8,n8,g8,o8⟩:=mV h7 D ((rc L.length λj=> .bool (Jh G L i [] j)).set i (.bool true))
  obtain⟨Z,hZ⟩:=exI h8.next
  obtain⟨h9,e9,n9,g9,o9,f9⟩:=dK hZ [aC i]
  have pt:=bT (vs:=rc L.length λj=> .bool (Jh G L i [] j)) (off:=i) (by rw[iQ];omega)
  clear bx gc sO sR rB rA i6 l1 c0 g1 o1 f1 f3 gB gN gM
  simp(disch:=omega)only[go_sem,d4,c7.ixa,cx h7 a6,cD,J.gD,pt,e8,cK h8 (z:= aC 0) (v:= aC i) rfl rfl,hZ,e9]
  have q3:h7.next=Z:=om
  have b5:(rc L.length λj=>V.bool (Jh G L i [] j)).set i (.bool true)=rc L.length λj=> .bool (Jh G L i [i] j):=by
   rw[lH]
   exact dJ λj _=>by
    rw[show [i]= []++ [i] from rfl,Za]
    by_cases e:j=i
    ·rw[bJ e,bJ e]
    ·rw[bU e,bU e]
  have d9:Fx (· =D) h7 h9:=⟨om,λq d h2=>by rw[o9 q om,o8 q h2]⟩
  have B0:BQ G L S i [i] 0:=⟨by simp,by simp,rfl,λj U=>by
   obtain rfl:j=i:=by simpa using U
   exact⟨om,Ux hG E om⟩,λk hk=>om⟩
  refine bQ (λvs B=> ∃(Q:List Nat) (q:Nat) (o:pY),(∃g:Nat->V,vs= [g 0,.ptr A 0,.nilp,aC 0,vL,g 5,.ptr (X+8) 0,g 7,g 8,vS,.sl D 0 m (.kn m),aC i,vx,.sl q 0 Q.length o,g 14,g 15,g 16,g 17,g 18,g 19,g 20,g 21,g 22,g 23,g 24,g 25,g 26,vL,aC m,aC i,g 30,g 31,g 32,g 33,g 34,g 35,g 36,g 37,g 38,g 39,g 40,g 41,g 42,g 43,g 44,g 45])/\
    BQ G L S i Q Q.length/\(o= .un 1∨o= .kn Q.length)/\B.get q=some (.cells false (ints (zi Q)))/\Z<=q/\q<B.next/\B.get D=some (.cells false (rc L.length λj=> .bool (Jh G L i Q j)))/\Fx (· =D) h7 B) ?_ ?_
  ·refine aI (λk' vs B=> ∃(Q:List Nat) (q:Nat) (o:pY) (p:Nat),(∃g:Nat->V,vs= [g 0,.ptr A 0,.nilp,aC 0,vL,g 5,.ptr (X+8) 0,g 7,g 8,vS,.sl D 0 m (.kn m),aC i,vx,.sl q 0 Q.length o,aC p,g 15,g 16,g 17,g 18,g 19,g 20,g 21,g 22,g 23,g 24,g 25,g 26,vL,aC m,aC i,g 30,g 31,g 32,g 33,g 34,g 35,g 36,g 37,g 38,g 39,g 40,g 41,g 42,g 43,g 44,g 45])/\
    p<=Q.length/\BQ G L S i Q p/\(o= .un 1∨o= .kn Q.length)/\B.get q=some (.cells false (ints (zi Q)))/\Z<=q/\q<B.next/\B.get D=some (.cells false (rc L.length λj=> .bool (Jh G L i Q j)))/\Fx (· =D) h7 B/\k'=m-p) m
    ⟨[i],Z,_,0,aB rfl,iB _,B0,.inr rfl,g9,dT _,om,by rw[o9 _ om,g8,b5],d9,rfl⟩ ?_
   clear d9 B0 e8 n8 g8 o8 hZ e9 n9 g9 o9 f9 pt b5
   rintro k' F ha ⟨Q,q,o,p,⟨g2,rfl⟩,hp,l,K,gq,hq,nq,gD,Fa,rfl⟩
   have b7:=l.len
   by_cases c6:(p:Int)<(Q.length:Int)
   case neg=>
    have d5:=bI c6;obtain rfl:p=Q.length:=om
    simp(disch:=omega)only[go_sem,d5];exact⟨Q,q,o,aB rfl,l,K,gq,hq,nq,gD,Fa⟩
   have d5:=cI c6
   have N:p<Q.length:=om
   simp(disch:=omega)only[go_sem,d5,l7]
   obtain⟨c,hc⟩:=exI (Q.getD p 0)
   obtain⟨j4,p5⟩:=l.mem c (by rw[←hc];exact bC N)
   have Cp:=lE hG E j4
   refine uJ (λvs B=> ∃(Q:List Nat) (q:Nat) (o:pY),(∃g:Nat->V,vs= [g 0,.ptr A 0,.nilp,aC 0,vL,g 5,.ptr (X+8) 0,g 7,g 8,vS,.sl D 0 m (.kn m),aC i,vx,.sl q 0 Q.length o,aC p,g 15,g 16,g 17,g 18,g 19,g 20,g 21,g 22,g 23,g 24,g 25,g 26,vL,aC m,aC i,g 30,g 31,g 32,g 33,g 34,g 35,g 36,g 37,g 38,g 39,g 40,g 41,g 42,g 43,g 44,g 45])/\
     p<Q.length/\BQ G L S i Q (p+1)/\(o= .un 1∨o= .kn Q.length)/\B.get q=some (.cells false (ints (zi Q)))/\Z<=q/\q<B.next/\B.get D=some (.cells false (rc L.length λj=> .bool (Jh G L i Q j)))/\Fx (· =D) h7 B) ?_ ?_
   ·refine aI (λk' vs B=> ∃(Q:List Nat) (q:Nat) (o:pY) (t:Nat),(∃g:Nat->V,vs= [g 0,.ptr A 0,.nilp,aC 0,vL,g 5,.ptr (X+8) 0,g 7,g 8,vS,.sl D 0 m (.kn m),aC i,vx,.sl q 0 Q.length o,aC p,g 15,g 16,g 17,g 18,g 19,g 20,g 21,g 22,g 23,g 24,g 25,g 26,vL,aC m,aC i,g 30,g 31,g 32,vS,aC sl,aC t,g 36,g 37,g 38,g 39,g 40,g 41,g 42,g 43,g 44,g 45])/\
     p<Q.length/\t<=sl/\BQ G L S i Q p/\Q.getD p 0=c/\(∀s∈S.take t,∃j∈Q,L.getD j []=aT (L.getD c []) s)/\(o= .un 1∨o= .kn Q.length)/\B.get q=some (.cells false (ints (zi Q)))/\Z<=q/\q<B.next/\B.get D=some (.cells false (rc L.length λj=> .bool (Jh G L i Q j)))/\Fx (· =D) h7 B/\k'=sl-t) sl
     ⟨Q,q,o,0,aB rfl,N,iB _,l,hc,λs hs=>(by simp at hs),K,gq,hq,nq,gD,Fa,rfl⟩ ?_
    clear l K gq hq nq gD Fa hc N b7 c6 d5 hp
    clear Q q o
    rintro k' F hb ⟨Q,q,o,t,⟨g3,rfl⟩,N,ht,l,hc,f7,K,gq,hq,nq,gD,Fb,rfl⟩
    by_cases j8:(t:Int)<(sl:Int)
    case neg=>
     have d5:=bI j8;obtain rfl:t=sl:=om
     simp(disch:=omega)only[go_sem,d5];refine⟨Q,q,o,aB rfl,N,⟨l.nd,l.ne,l.hd,l.mem,λk hk s hs=>?_⟩,K,gq,hq,nq,gD,Fb⟩
     by_cases e:k=p
     ·subst e
      rw[hc];exact f7 s (by rw[←d3,List.take_length];exact hs)
     ·exact l.cl k om s hs
    have d5:=cI j8
    have o4:t<sl:=om
    have b7:=l.len
    have nb:=Fb.next
    have d1:Fx (λq=>q=X+8∨D<=q) h5 hb:=⟨by have:=J.old.next;omega,λq d h2=>by rw[Fb.get q om (λe=>h2 (.inr (by have:q=D:=e;omega)))];exact J.old.get q d h2⟩
    have c5:Fr h2 hb:=⟨om,λq hq=>by rw[Fb.get q om (λe=>by have:q=D:=e;omega)];exact a6.get q hq⟩
    obtain⟨vy,cy,py⟩:=o7 t o4
    obtain⟨vz,cz,sz⟩:=f4 c om
    obtain⟨s,hs⟩:=exI (S.getD t [])
    rw[hs] at py
    have c8:s∈S:=by rw[←hs];exact bC om
    have Sp:=hG.bF (a2 s c8)
    have cq:hb.cell q p=some (aC c):=by rw[H.cell_of gq,Ff N,hc]
    simp(disch:=omega)only[go_sem,d5,i9.ixa,cy hb d1,cq,c7.ixa,cz hb c5]
    refine (Df vP.ok vy n s _ om Sp ((py.fx d1).si.mono ((Fr.refl hb).bH om))).mono ?_
    rintro m3 k1 j1
    have K1:Fr hb k1:=((Fr.refl hb).bH om).trans j1.fr
    have p3:k1.cell q p=some (aC c):=by rw[K1.cell nq];exact cq
    have ez:=sz.dI
    simp(disch:=omega)only[go_sem,p3,cz k1 (c5.trans K1),ez]
    refine (AU m3 vz (bZ s) (L.getD c []) k1 (by rw[jU,Sp.len];omega) (j1.pv (W:=λ_=>False) id).si (sz.mono (c5.trans K1)) (λj U=>by rw[Cp.len];exact Sp.inv.fX (by rw[←Sp.inv.len];exact U))).mono ?_
    rintro o3 k2 j7
    have K2:=K1.trans j7.fr
    have P2:=Sp.inv.mul Cp
    simp(disch:=omega)only[go_sem]
    refine (AU o3 vy _ s k2 (by rw[P2.len];omega) (j7.pv (W:=λ_=>False) id).si ((py.fx d1).si.mono K2) (λj U=>by rw[Sp.len];exact P2.fX (by rw[←P2.len];exact U))).mono ?_
    rintro l5 k3 l0
    have K3:=K2.trans l0.fr
    have P3:=P2.mul Sp
    have n2:k3.cell q p=some (aC c):=by rw[K3.cell nq];exact cq
    have d8:=(l0.pv (W:=λ_=>False) id).si
    have r3:=d8.cT.2.1
    have f0: ∃vK,k3.get (X+8)=some (.cells false [vL,.mp (X+3),vK,.sl (X+6) 0 L.length (.kn L.length)]):=by
     obtain⟨vK,_,_,gB,_⟩:=J.ex;exact⟨vK,by rw[K3.get _ om,Fb.get _ om (λe=>by have:X+8=D:=e;omega)];exact gB⟩
    obtain⟨vK,f0⟩:=f0
    have i8:k3.cell (X+8) 1=some (.mp (X+3)):=by rw[H.cell_of f0];rfl
    obtain⟨j,U,ej⟩: ∃j,j<L.length/\L.getD j []=aT (L.getD c []) s:=by
     have m0:aT (L.getD c []) s∈L:=(E.mem _).2 (hG.mul (hG.mul (hG.inv (a2 s c8)) (pD E j4)) (a2 s c8));obtain⟨j,U,ej⟩:=Ad.1 m0;exact⟨j,U,by rw[List.getD,dD U,←ej];rfl⟩
    have p6:aM (aM (bZ s) (L.getD c [])) s=L.getD j []:=ej.symm
    rw[p6] at d8
    simp(disch:=omega)only[go_sem,n2,cz k3 (c5.trans K3),i8,ez]
    refine (IQ l5 (L.getD j []) _ (a0 j om).1 (a0 j om).2 (d8.mono ((Fr.refl k3).bH om))).mono ?_
    rintro _ k4 ⟨rfl,p9⟩
    have i5:Fr k3 k4:=((Fr.refl k3).bH om).trans p9
    have K4:=K3.trans i5
    have q4:=K3.next
    have d0:k4.get (X+3)=some (.wmap .str (Jl L L.length)):=by
     rw[K4.get _ om,Fb.get _ om (λe=>by have:X+3=D:=e;omega),J.old.get _ om om,f5.get _ om,hm];exact a8
    have k9:k4.cell (X+8) 1=some (.mp (X+3)):=by rw[i5.cell om];exact i8
    have lk:=λz=>Gg E.nodup U (hK j om) z
    have b9:k4.cell D j=some (.bool (Jh G L i Q j)):=by rw[K4.cell om];exact tF gD U
    have f8:cR G L i j:=yD hG E om p5 ⟨s,a2 s c8,ej.symm⟩
    have h0:S.take (t+1)=S.take t++ [s]:=by rw[eY [] om,hs]
    have i7:k4.get q=some (.cells false (ints (zi Q))):=by rw[K4.get _ nq];exact gq
    have i3:k4.get D=some (.cells false (rc L.length λj=> .bool (Jh G L i Q j))):=by rw[K4.get _ om];exact gD
    have i1:Fx (· =D) h7 k4:=⟨by have:=K4.next;omega,λq d h2=>by rw[K4.get q om];exact Fb.get q d h2⟩
    cases hsn2:Jh G L i Q j with
    |true=>
     rw[hsn2] at b9
     have d2:j∈Q:=by
      rcases nV.1 hsn2 with ⟨i0,d,b4⟩|d
      ·exact absurd (yD hG E om b4 (Mt hG E om f8)) (hr i0 d)
      ·exact d
     simp(disch:=omega)only[go_sem,k9,d0,lk,b9];rw[fJ t];refine⟨by simp [dI],sl-(t+1),om,Q,q,o,t+1,aB rfl,N,om,l,hc,?_,K,i7,hq,by have:=K4.next;omega,i3,i1,rfl⟩;rw[h0];intro s' b6;rcases oD.1 b6 with d|d
     ·exact f7 s' d
     ·obtain rfl:s'=s:=by simpa using d
      exact⟨j,d2,ej⟩
    |false=>
     rw[hsn2] at b9;have d2:j∉Q:=λd=>by rw[nV.2 (.inr d)] at hsn2;cases hsn2
     obtain⟨k5,e5,m5,g5,o5⟩:=mV k4 D ((rc L.length λj=> .bool (Jh G L i Q j)).set j (.bool true));obtain⟨Y,hY⟩:=exI k5.next;obtain⟨k6,o2,m6,l4,e0,r5⟩:=dK hY [aC j];have pt:=bT (vs:=rc L.length λj=> .bool (Jh G L i Q j)) (off:=j) (by rw[iQ];exact U);have nk:=K4.next;have m2:k6.get q=some (.cells false (ints (zi Q))):=by rw[e0 _ om,o5 _ om];exact i7
     have p4:dH k6 (.sl q 0 Q.length o) 1 (ints (zi Q)) 0:= .inr ⟨q,Q.length,o, [],rfl,by rw[aP,aS];simp,by rcases K with d|d;exact .inl d;exact .inr ⟨d,rfl⟩,iB _,om,by rw[tZ];exact m2⟩;obtain⟨k7,a7,p7⟩:=p4.push (bytes:=8) (SV.one (v:= aC j) (id:=Y) om l4 (.kn 1)) (n:=Q.length) (m:=1) (by rw[aP,aS];simp) rfl om om om;simp(disch:=omega)only[go_sem,k9,d0,lk,b9,i3,pt,e5,cK k5 (z:= aC 0) (v:= aC j) rfl rfl,hY,o2,a7];rw[fJ t];have el:ints (zi (Q++ [j]))=ints (zi Q)++ [aC j]:=by simp [zi,ints]
     have m7:=p7.next;have o0:dR (.sl q 0 Q.length o) D:=λid off n c e e2=>by cases e;omega
     have b5:(rc L.length λj'=>V.bool (Jh G L i Q j')).set j (.bool true)=rc L.length λj'=> .bool (Jh G L i (Q++ [j]) j'):=by
      rw[lH]
      exact dJ λj' _=>by
       rw[Za]
       by_cases e:j'=j
       ·rw[bJ e,bJ e]
       ·rw[bU e,bU e]
     refine⟨by simp [dI],sl-(t+1),om,Q++ [j],k6.next,.un 1,t+1,by rw[iV];exact aB rfl,by rw[iV];omega,om,⟨?_,by rw[iV];simp,?_,?_,?_⟩,?_,?_,.inl rfl,by rw[el];exact p7.get,om,om,?_,?_,rfl⟩
     ·rw[List.nodup_append]
      exact⟨l.nd,by simp,λx hx y hy e=>by
       obtain rfl:y=j:=by simpa using hy
       exact d2 (e▸hx)⟩
     ·rw[List.getD,Dt l.ne];exact l.hd
     ·intro x hx
      rcases oD.1 hx with d|d
      ·exact l.mem x d
      ·obtain rfl:x=j:=by simpa using d
       exact⟨U,f8⟩
     ·intro k hk s' b6
      obtain⟨y,hy,ey⟩:=l.cl k hk s' b6;refine⟨y,oD.2 (.inl hy),?_⟩;rw[ey,List.getD,List.getD,List.getD,List.getD,Dt om]
     ·rw[List.getD,Dt N];exact hc
     ·rw[h0]
      intro s' b6;rcases oD.1 b6 with d|d
      ·obtain⟨y,hy,ey⟩:=f7 s' d
       exact⟨y,oD.2 (.inl hy),ey⟩
      ·obtain rfl:s'=s:=by simpa using d
       exact⟨j,oD.2 (.inr (by simp)),ej⟩
     ·rw[p7.old D om o0,e0 D om,g5,b5]
     ·refine⟨om,λx d h2=>?_⟩
      rw[p7.old x om (λid off n c e e2=>by cases e;omega),e0 x om,o5 x h2];exact i1.get x d h2
   clear l K gq hq nq gD Fa hc c6 d5 hp N b7
   clear Q q o
   rintro F hb ⟨Q,q,o,⟨g3,rfl⟩,N,a3,K,gq,hq,nq,gD,Fb⟩
   have b7:=a3.len
   simp(disch:=omega)only[go_sem]
   rw[fJ p]
   exact⟨m-(p+1),om,Q,q,o,p+1,aB rfl,om,a3,K,gq,hq,nq,gD,Fb,rfl⟩
  clear d9 B0 e8 n8 g8 o8 hZ e9 n9 g9 o9 f9 pt b5
  rintro F hb ⟨Q,q,o,⟨g3,rfl⟩,a3,K,gq,hq,nq,gD,Fb⟩
  have b7:=a3.len
  have nb:=Fb.next
  have srt:=Mw hb q (zi Q) o (by rw[aS];omega) gq nq
  rw[aS] at srt
  simp(disch:=omega)only[go_sem]
  refine srt.mono ?_
  rintro _ ka ⟨l',gl,pl,al,Fa⟩
  obtain rfl:=a3.sort hG E (dT _) om a2 b0 pl al
  have g7:Q.length=(kU G L i).length:=by have:=pl.length_eq;rw[aS,aS] at this;exact this.symm
  have na:=Fa.next
  have m4:Fr h2 ka:=⟨om,λx hx=>by rw[Fa.get x om (λe=>by have:x=q:=e;omega),Fb.get x om (λe=>by have:x=D:=e;omega)];exact a6.get x hx⟩
  have X1:=lE hG E (show i<L.length by omega)
  simp(disch:=omega)only[go_sem]
  refine (XM vx n (L.getD i []) ka n0 n7 X1 (sx.mono m4)).mono ?_
  rintro _ kb ⟨rfl,fb⟩
  have r4:=fb.next
  obtain⟨vK,ks,WK,gB,a9,aK,bK,wD,wB,wN,wn,wX,_⟩:=J.ex
  have q9:=aN.length aK
  have j2:kb.get (X+8)=some (.cells false [vL,.mp (X+3),vK,.sl (X+6) 0 L.length (.kn L.length)]):=by
   rw[fb.get _ om,Fa.get _ om (λe=>by have:X+8=q:=e;omega),Fb.get _ om (λe=>by have:X+8=D:=e;omega)];exact gB
  have c2:kb.cell (X+8) 2=some vK:=by rw[H.cell_of j2];rfl
  have b2:=sx.cT.2.1
  have q8:=a9.sv.dI
  obtain⟨Y,hY⟩:=exI kb.next
  obtain⟨kc,ec,mc,l3,oc,fc⟩:=dK hY [vx,aC (oJ (L.getD i []) n:Nat),aC (Q.length:Int),.sl q 0 Q.length o]
  have a5: ∀x,x<Z->x≠D->kc.get x=h7.get x:=λx d h2=>by
   rw[oc x om,fb.get x om,Fa.get x om (λe=>by have:x=q:=e;omega),Fb.get x om h2]
  have l2:dH kc vK 4 (Cls.rJ ks) (D+1):=a9.mono om λid off n' c e d h2=>a5 id om om
  have lr:=Dk (G:=G) (L:=L) i
  obtain⟨kd,ad,pd⟩:=l2.push (bytes:=64) (y:= .sl Y 0 1 (.kn 1)) (us:= [vx,aC (oJ (L.getD i []) n:Nat),aC (Q.length:Int),.sl q 0 Q.length o]) (SV.all rfl om l3 _) (n:=ks.length) (m:=1) (Sv ks) rfl om om om
  have md:=pd.next
  have m1:dR vK (X+8):=λid off n' c e e2=>by have:=(a9.in _ _ _ _ e).2.1;omega
  have m9:kd.get (X+8)=some (.cells false [vL,.mp (X+3),vK,.sl (X+6) 0 L.length (.kn L.length)]):=by
   rw[pd.old _ om m1,oc _ om];exact j2
  obtain⟨ke,ee,me,ge,oe⟩:=mV kd (X+8) [vL,.mp (X+3),.sl kc.next 0 (ks.length+1) (.un 4),.sl (X+6) 0 L.length (.kn L.length)]
  simp(disch:=omega)only[go_sem,c2,MF sx.cT.1 b2,MB b2 (w:= .sl q 0 Q.length o) rfl rfl,LR b2 (w:= .sl q 0 Q.length o) rfl,hY,ec,ad,m9,NJ,ee]
  rw[fJ i]
  have j6: ∀x,x<Z-> ¬WK x->ke.get x=h7.get x:=λx d h2=>by
   rw[oe x (λe=>h2 (e▸wB)),pd.old x om (λid off n' c e e2=>h2 (e2▸bK _ _ _ _ e)),a5 x d (λe=>h2 (e▸wD))]
  have FK:Fx WK h7 ke:=⟨om,λx d h2=>j6 x om h2⟩
  have p1:Fr h2 ke:=⟨om,λx hx=>by rw[j6 x om (λd=>by have:=wX x d;omega)];exact a6.get x hx⟩
  have j3:Cls.rJ (ks++ [⟨vx,oJ (L.getD i []) n,Q.length,.sl q 0 Q.length o,i,⟨sx.cT.1,b2,sx.dI⟩,⟨rfl,rfl,by simp [dI]⟩⟩])=Cls.rJ ks++ [vx,aC (oJ (L.getD i []) n:Nat),aC (Q.length:Int),.sl q 0 Q.length o]:=by
   simp [Cls.rJ,Cls.KE.enc]
  refine⟨m-(i+1),om,i+1,aB rfl,om,⟨⟨_,ks++ [⟨vx,oJ (L.getD i []) n,Q.length,.sl q 0 Q.length o,i,⟨sx.cT.1,b2,sx.dI⟩,⟨rfl,rfl,by simp [dI]⟩⟩],λx=>WK x∨x=kc.next,ge,?_,?_,λid off n' c e=>by cases e;exact .inr rfl,   .inl wD,.inl wB,.inl wN,λx h=>by rcases h with h|h;have:=wn x h;omega;omega,λx h=>by rcases h with h|h;exact wX x h;omega,.inr ⟨_,_,by rw[iV];rfl,?_⟩⟩,?_,?_,om⟩,rfl⟩
  ·rw[j3]
   exact (pd.own (b:=D+1) (Sv ks) rfl om).mono om λid off n' c e d h2=>by cases e;exact oe _ om
  ·rw[(Ny i).1 hr]
   refine aN.append (aK.mono λa r k=>k.go FK om wX λx d h2=>by rcases h2 with h2|h2;exact h2;omega) ⟨⟨rfl,rfl,g7,⟨sx.mono p1,?_⟩,⟨?_,?_⟩⟩,trivial⟩
   ·rw[←hX];exact afJ sx
   ·rw[g7]
    refine SV.all (ro:=false) (by rw[aP,aS,tW]) om ?_ _
    rw[oe q om,pd.old q om (λid off n' c e e2=>by have:=wn _ (bK _ _ _ _ e);omega),oc q om,fb.get q om]
    exact gl
   ·exact λh=>by rcases h with h|h;have:=wn _ h;omega;omega
  ·rw[j3,oe _ om];exact pd.get
  ·rw[oe D om,pd.old D om (λid off n' c e e2=>by have:=(a9.in _ _ _ _ e).2.1;omega),oc D om,fb.get D om,Fa.get D om (λe=>by have:D=q:=e;omega),gD,dJ λj U=>by rw[UA hG E (show i<L.length by omega) a3 a2 b0 U]]
  ·refine⟨by have:=J.old.next;omega,λx d h2=>?_⟩
   have l6:x≠X+8:=λe=>h2 (.inl e)
   have q6:x<D:=om
   rw[oe x l6,pd.old x om (λid off n' c e e2=>by have:=(a9.in _ _ _ _ e).2.1;omega),a5 x om om]
   exact J.old.get x d h2
 rintro F h7 ⟨⟨g,rfl⟩,J⟩
 exact hk L X D vL h2 h5 h7 A g hL ⟨E,om,f1.trans f2,hX,nw.sp,e4,om,hD,by rw[f5.get _ om,hm];exact a8,by rw[f5.get _ om,hm];exact l1,by rw[hm];exact J⟩
end
open Classical in
noncomputable def NK (G:List Nat->Prop)(L:LN)(K:List Nat)(j:Nat):Nat:=K.findIdx λr=>decide (cR G L r j)
structure KR (n:Nat)(G:List Nat->Prop)(L:LN)(hh:H)(a:Cls.KE)(r:Nat):Prop where
 fst:a.fst=r
 ord:a.ord=oJ (L.getD r []) n
 size:a.size=(kU G L r).length
 rep:SI hh a.rep (zi (L.getD r []))
 ranks:SI hh a.ranks (zi (kU G L r))
theorem KR.mono {n:Nat}{G:List Nat->Prop}{L:LN}{h h':H}{a:Cls.KE}{r:Nat}(k:KR n G L h a r)(f:Fr h h'):KR n G L h' a r:=⟨k.fst,k.ord,k.size,k.rep.mono f,k.ranks.mono f⟩
def Pa (n:Nat)(G:List Nat->Prop)(L:LN)(r s:Nat):Prop:=oJ (L.getD r []) n<oJ (L.getD s []) n∨oJ (L.getD r []) n=oJ (L.getD s []) n/\((kU G L r).length<(kU G L s).length∨(kU G L r).length=(kU G L s).length/\r<s)
structure Ab (n:Nat)(G:List Nat->Prop)(L:LN)(K:List Nat):Prop where
 perm:K.Perm (kC G L L.length)
 asc:K.Pairwise (Pa n G L)
structure abG (n:Nat)(G:List Nat->Prop)(L:LN)(K:List Nat)(hh:H)(v:V):Prop where
 ex: ∃B M N S cp vL ks,v= .ptr B 0/\B<hh.next/\M<hh.next/\N<hh.next/\S<hh.next/\hh.get B=some (.cells false [vL,.mp M,.sl S 0 K.length cp,.sl N 0 L.length (.kn L.length)])/\
  hh.get M=some (.wmap .str (Jl L L.length))/\hh.get N=some (.cells false (rc L.length λj=> aC (NK G L K j:Nat)))/\hh.get S=some (.cells false (Cls.rJ ks))/\aN (KR n G L hh) ks K/\SP hh vL L
theorem abG.mono {n:Nat}{G:List Nat->Prop}{L:LN}{K:List Nat}{h h':H}{v:V}(g:abG n G L K h v)(f:Fr h h'):abG n G L K h' v:=by
 obtain⟨B,M,N,S,l,b,m,e,q,d,o,i,j,c,r,p,a,sp⟩:=g.ex;have s:=f.next;exact⟨B,M,N,S,l,b,m,e,om,om,om,om,by rw[f.get _ q];exact j,by rw[f.get _ d];exact c,by rw[f.get _ o];exact r,by rw[f.get _ i];exact p,a.mono λ_ _ k=>k.mono f,sp.mono f⟩
section
variable {n:Nat} {G:List Nat->Prop} {L:LN} {K:List Nat} (hG:dO n G) (E:cZ G L)
include hG E
omit hG E in
theorem Ng (a:0<L.length):0∈kC G L L.length:=jY.2 ⟨a,λj b=>om⟩
theorem adP (g:K.Perm (kC G L L.length)){k:Nat}(d:k<K.length){j:Nat}(p:j∈kU G L (K.getD k 0)):NK G L K j=k:=by
 classical
 obtain⟨m,e⟩:=uQ.1 p;have a:K.Nodup:=g.nodup_iff.2 (by unfold kC;exact List.Pairwise.filter _ List.nodup_range);have l: ∀r∈K,r<L.length/\GU G L r:=λr o=>jY.1 (g.mem_iff.1 o)
 unfold NK;rw[List.findIdx_eq d];have q:K.getD k 0=K[k]:=Pm.cW d;rw[q] at e;refine⟨by simpa using e,λi hi=>?_⟩;simp only[decide_eq_false_iff_not];intro b;have f:=l K[i] (xG _);have h:=l K[k] (xG _);have:=YA hG E f.1 h.1 f.2 h.2 b e;have c:=GP.1 a i k om d hi;exact c this
theorem NO (f:K.Perm (kC G L L.length)){j:Nat}(b:j<L.length): ∃k,k<K.length/\j∈kU G L (K.getD k 0):=by
 obtain⟨r,h,d,c⟩:=Px hG E b;have e:r∈K:=f.mem_iff.2 (jY.2 ⟨om,d⟩);obtain⟨k,a,g⟩:=Ad.1 e;exact⟨k,a,uQ.2 ⟨b,by rw[Pm.cW a,g];exact c⟩⟩
end
open Classical in
noncomputable def Ki (G:List Nat->Prop)(L:LN)(K:List Nat)(k t j:Nat):Nat:=if (∃k0,k0<k/\j∈kU G L (K.getD k0 0))∨j∈(kU G L (K.getD k 0)).take t then NK G L K j else 0
theorem UX (G:List Nat->Prop)(L:LN)(K:List Nat)(j:Nat):Ki G L K 0 0 j=0:=by
 classical
 unfold Ki;rw[bU];rintro (⟨a,h,_⟩|h)
 ·omega
 ·simp at h
theorem VE (G:List Nat->Prop)(L:LN)(K:List Nat)(k j:Nat):Ki G L K k (kU G L (K.getD k 0)).length j=Ki G L K (k+1) 0 j:=by
 classical
 unfold Ki;rw[List.take_length,List.take_zero]
 have e:((∃a,a<k/\j∈kU G L (K.getD a 0))∨j∈kU G L (K.getD k 0))↔((∃a,a<k+1/\j∈kU G L (K.getD a 0))∨j∈([]:List Nat)):=by
  constructor
  ·rintro (⟨a,c,b⟩|h)
   ·exact .inl ⟨a,om,b⟩
   ·exact .inl ⟨k,om,h⟩
  ·rintro (⟨a,c,b⟩|h)
   ·by_cases e:a=k
    ·subst e;exact .inr b
    ·exact .inl ⟨a,om,b⟩
   ·cases h
 by_cases h:((∃a,a<k/\j∈kU G L (K.getD a 0))∨j∈kU G L (K.getD k 0))
 ·rw[bJ h,bJ (e.1 h)]
 ·rw[bU h,bU (λx=>h (e.2 x))]
theorem UT {n:Nat}{G:List Nat->Prop}{L:LN}{K:List Nat}(hG:dO n G)(E:cZ G L)(d:K.Perm (kC G L L.length)){k:Nat}(b:k<K.length){t:Nat}(a:t<(kU G L (K.getD k 0)).length)(j:Nat):
  Ki G L K k (t+1) j=if j=(kU G L (K.getD k 0)).getD t 0 then k else Ki G L K k t j:=by
 classical
 by_cases e:j=(kU G L (K.getD k 0)).getD t 0
 ·rw[bJ e]
  have c:j∈kU G L (K.getD k 0):=by rw[e];exact bC a
  unfold Ki
  rw[bJ (.inr (by rw[eY 0 a,e];simp))]
  exact adP hG E d b c
 ·rw[bU e]
  unfold Ki
  rw[eY 0 a]
  simp only[oD,List.mem_singleton,e,or_false]
theorem QV {n:Nat}{G:List Nat->Prop}{L:LN}{K:List Nat}(hG:dO n G)(E:cZ G L)(d:K.Perm (kC G L L.length)){j:Nat}(c:j<L.length):Ki G L K K.length 0 j=NK G L K j:=by
 classical
 obtain⟨k,a,b⟩:=NO hG E d c;unfold Ki;rw[bJ (.inl ⟨k,a,b⟩)]
theorem Jr {h:H}{S:Nat}{ro:Bool}: ∀{ks:List Cls.KE} {pre:List V},h.get S=some (.cells ro (pre++Cls.rJ ks))-> ∀{i:Nat} (hi:i<ks.length),h.row S (pre.length+i*4) 4=some ks[i].enc
 | [],_,_,_,hi=>by simp at hi
 |a::r,pre,g,0,_=>by
  unfold H.row;rw[g];show sub (pre++(a.enc++Cls.rJ r)) (pre.length+0*4) 4=some a.enc;simp only[sub,Nat.zero_mul,Nat.add_zero];have:a.enc.length=4:=rfl;rw[bJ (by rw[iV,iV];omega),List.drop_left,List.take_append,Ro om,this];simp
 |a::r,pre,g,i+1,hi=>by
  have b:h.get S=some (.cells ro ((pre++a.enc)++Cls.rJ r)):=by rw[g,Lz];rfl
  have:=Jr b (i:=i) (by simpa using hi);rw[iV,show a.enc.length=4 from rfl] at this;rw[show pre.length+(i+1)*4=pre.length+4+i*4 by omega];simpa using this
theorem VA (h:H)(id off:Nat)(a:Cls.KE):Wz h 4 (.ptr id off) (.agg a.enc)=eU (h.get id) h id off a.enc:=Di h id off 4 _ rfl (by simp [Cls.KE.enc,a.hrep.2.1,a.hranks.2.1,show (aC (a.ord:Int)).one=true from rfl,show (aC (a.size:Int)).one=true from rfl])
theorem QY (hh:H)(id:Nat)(a:Cls.KE)(x y z w:V):eU (some (.cells false [x,y,z,w])) hh id 0 a.enc=some (hh.set id (some (.cells false a.enc))):=by
 simp [eU,putAt,Cls.KE.enc]
theorem aN.ex {α β:Type}{R:α->β->Prop}{d:List α}{c:List β}(h:aN R d c){a:α}(e:a∈d): ∃b∈c,R a b:=by
 obtain⟨i,hi,rfl⟩:=Ad.1 e;have f:=aN.length h;exact⟨c[i]'om,xG _,aN.get h i hi om⟩
theorem SI.lit {h:H}{v:V}{l:List Int}(s:SI h v l)(t:0<l.length): ∃id off m cap,v= .sl id off (m+1) cap/\m+1=l.length/\id<h.next/\ ∀i,i<l.length->h.cell id (off+i)=some (aC (l.getD i 0)):=by
 obtain⟨id,off,p,j,k⟩:=s.open;rcases s with ⟨_,g⟩|⟨b,a,len,cap,q,r,e,f,d,_⟩
 ·have:l.length=0:=by rw[←aP,g];rfl
  omega
 ·rw[aP,tW] at f
  have c:=p.ixa .i64 0 om om;subst e;rw[Il om om] at c;simp only[Option.some.injEq,V.ptr.injEq] at c;obtain⟨rfl,u⟩:=c;have o:a=off:=om
  subst o;exact⟨b,a,l.length- 1,cap,by rw[show l.length- 1+1=len by omega],om,d,k⟩
theorem ajC {W0:Nat->Prop}(vc:V)(n:Nat)(O:LN)(R:jJ)(G:List Nat->Prop)(h:H)(gc:GC W0 h vc n O R G):
  Ev T 139 [vc] h (λv h'=> ∃p K,v= .tup [p,aC 0]/\abG n G (dM O R n 0 (aX n)) K h' p/\Ab n G (dM O R n 0 (aX n)) K/\Fr h h'):=by
 refine aaT vc n O R G h gc _ λL X D vL s h5 P A g hL e=>?_
 rw[hL]
 have hG:=gc.cY
 have E:=e.el
 obtain⟨vK,N,WK,gB,c7,aK,bK,wD,wB,wN,wn,wX,xK⟩:=e.j.ex
 have Q:=aN.length aK
 obtain⟨m,hm⟩:=exI L.length
 have h0:0<L.length:=Rl ((E.mem _).2 hG.one)
 have d2:0<N.length:=by rw[Q];exact Rl (Ng h0)
 obtain⟨S,cp,rfl,gS⟩: ∃id a4,vK= .sl id 0 N.length a4/\P.get id=some (.cells false (Cls.rJ N)):=by
  rcases xK with l|l
  ·subst l;simp at d2
  ·exact l
 have wS:=bK _ _ _ _ rfl
 have nS:=wn _ wS
 have e0:P.cell (X+8) 2=some (.sl S 0 N.length cp):=by rw[H.cell_of gB];rfl
 show Wp T none (Ve 2 mU.fn.body) _ P _
 simp(disch:=omega)only[go_sem,Ve,VZ,mU,e0]
 have hR: ∀r∈kC G L L.length,r<L.length/\GU G L r:=λr J=>jY.1 J
 have d6: ∀a∈N,a.Pp P P.next S:=λa Z=>by
  obtain⟨r,J,k⟩:=aN.ex aK Z;obtain⟨a2,a3⟩:=hR r J;obtain⟨l1,l2⟩:=Tr hG E a2 a3;obtain⟨id,off,m',a4,e1,e2,e3,e4⟩:=SI.lit k.ranks.si (by rw[aS];exact l1);have ho:=k.ranks.off;rw[e1] at ho;refine⟨id,off,m',a4,e1,e3,λl=>ho (l▸wS),?_⟩;have:=e4 0 (by rw[aS];exact l1);rw[Nat.add_zero] at this;rw[this,zi,oI _ (d:=0) l1,l2,k.fst]
 refine (Cls.VF P S P.next N cp (by rw[Q];have:=Dk (G:=G) (L:=L) L.length;have:=e.le;omega) gS nS (dT _) d6).mono ?_
 rintro _ y ⟨o,b3,pm,srt,F8⟩
 obtain⟨K,hK⟩:=exI (o.map (λa:Cls.KE=>a.fst))
 have a0:K.length=N.length:=by rw[←hK,iA];exact pm.length_eq
 have c6:N.map (λa:Cls.KE=>a.fst)=kC G L L.length:=by
  refine List.ext_getElem (by rw[iA];exact Q) λi l s=>?_
  rw[List.getElem_map];exact (aN.get aK i (by simpa using l) s).fst
 have pK:K.Perm (kC G L L.length):=by rw[←hK,←c6];exact pm.map _
 have kK: ∀a∈o,KO n G L X WK P a a.fst:=λa Z=>by
  obtain⟨r,J,k⟩:=aN.ex aK (pm.mem_iff.1 Z);rw[k.fst];exact k
 have FK:Fx WK P y:=⟨F8.next,λq l s=>F8.get q l λh3=>s (by have:q=S:=h3;rw[this];exact wS)⟩
 have c1: ∀a∈o,KO n G L X WK y a a.fst:=λa Z=>(kK a Z).go FK (by have:=wX S wS;omega) wX λ_ _ l=>l
 have e8:=(c7.in _ _ _ _ rfl).2.1
 have xD:=e.xD
 have n8:=F8.next
 have U:y.get (X+8)=some (.cells false [vL,.mp (X+3),.sl S 0 N.length cp,.sl (X+6) 0 L.length (.kn L.length)]):=by
  rw[F8.get _ (wn _ wB) (λl=>by have:X+8=S:=l;omega)];exact gB
 have b7:y.cell (X+8) 2=some (.sl S 0 N.length cp):=by rw[H.cell_of U];rfl
 have c9:P.get (X+6)=some (.cells false (rc L.length λ_=> aC 0)):=by
  rw[e.j.old.get _ (by rw[e.n5];omega) om];exact e.gN
 have c5:y.get (X+6)=some (.cells false (rc L.length λj=> aC (Ki G L K 0 0 j:Nat))):=by
  rw[F8.get _ (wn _ wN) (λl=>by have:X+6=S:=l;omega),c9,show (λj=>aC (Ki G L K 0 0 j:Nat))=λ_=>aC 0 from funext λj=>by rw[UX];rfl]
 have b8: ∀k,k<K.length-> ∃a,o[k]? =some a/\KO n G L X WK y a (K.getD k 0):=λk hk=>by
  have w:k<o.length:=by rw[pm.length_eq,←a0];exact hk
  refine⟨o[k],dD w,?_⟩;have:=c1 _ (xG w);have e2:K.getD k 0=(o[k]).fst:=by rw[Pm.cW hk];subst hK;rw[List.getElem_map]
  rw[e2];exact this
 have le:=e.le
 have e7:K.length<=L.length:=by rw[a0,Q];exact Dk _
 have nN:=wn _ wN
 rw[←a0] at b7 U
 simp(disch:=omega)only[go_sem,b7]
 refine bQ (λvs u=>(∃g:Nat->V,vs= [g 0,g 1,.nilp,aC 0,g 4,g 5,.ptr (X+8) 0,g 7,g 8,g 9,g 10,g 11,g 12,g 13,g 14,g 15,g 16,g 17,g 18,g 19,g 20,g 21,g 22,g 23,g 24,g 25,g 26,g 27,g 28,g 29,g 30,g 31,g 32,g 33,g 34,g 35,g 36,g 37,g 38,g 39,g 40,g 41,g 42,g 43,g 44,g 45])/\u.get (X+6)=some (.cells false (rc L.length λj=> aC (Ki G L K K.length 0 j:Nat)))/\Fx (· =X+6) y u) ?_ ?_
 ·refine aI (λk' vs u=> ∃(k:Nat),(∃g:Nat->V,vs= [g 0,g 1,.nilp,aC 0,g 4,g 5,.ptr (X+8) 0,g 7,g 8,g 9,g 10,g 11,g 12,g 13,g 14,g 15,g 16,g 17,g 18,g 19,g 20,g 21,g 22,g 23,g 24,g 25,g 26,g 27,g 28,g 29,g 30,g 31,g 32,g 33,g 34,g 35,g 36,g 37,.sl S 0 K.length cp,aC (K.length:Int),aC k,g 41,g 42,g 43,g 44,g 45])/\k<=K.length/\u.get (X+6)=some (.cells false (rc L.length λj=> aC (Ki G L K k 0 j:Nat)))/\Fx (· =X+6) y u/\k'=K.length-k) K.length
   ⟨0,aB rfl,iB _,c5,Fx.refl _ _,rfl⟩ ?_
  rintro k' F h9 ⟨k,⟨g,rfl⟩,hk,B,z,rfl⟩
  have n9:=z.next
  by_cases a9:(k:Int)<(K.length:Int)
  case neg=>
   have d4:=bI a9;obtain rfl:k=K.length:=om
   simp(disch:=omega)only[go_sem,d4];exact⟨aB rfl,B,z⟩
  have d4:=cI a9
  have w:k<K.length:=om
  obtain⟨a,ea,ko⟩:=b8 k w
  have b6:k<o.length:=by rw[pm.length_eq,←a0];exact w
  have a5:o[k]=a:=by rw[dD b6] at ea;simpa using ea
  have c2:h9.get S=some (.cells false (Cls.rJ o)):=by rw[z.get _ om (λl=>by have:S=X+6:=l;omega)];exact b3
  have b9:h9.row S (k*4) 4=some a.enc:=by
   have:=Jr (pre:= []) (by simpa using c2) b6;rw[a5] at this;simpa using this
  obtain⟨Y,hY⟩:=exI h9.next
  obtain⟨Z,c0,na,ga,oa,fa⟩:=dK hY [.aD,aC 0,aC 0,.aD]
  obtain⟨hb,b2,nb,gb,ob⟩:=mV Z Y a.enc
  have b0:hb.cell Y 3=some a.ranks:=by rw[H.cell_of gb];rfl
  have lr:=ko.ranks.si.lens
  rw[aS] at lr
  obtain⟨r,J⟩:=exI (K.getD k 0)
  rw[J] at ko lr
  simp(disch:=omega)only[go_sem,d4,b9,hY,c0,VA,ga,QY,b2,b0,lr]
  have d8:r∈kC G L L.length:=by rw[←J];exact pK.mem_iff.1 (bC w)
  obtain⟨a2,a3⟩:=hR r d8
  obtain⟨l1,l2⟩:=Tr hG E a2 a3
  obtain⟨W,a1,mR,a7,e1,e2,e3,e4⟩:=SI.lit ko.ranks.si (by rw[aS];exact l1)
  have ho:=ko.ranks.off
  rw[e1] at ho
  have d1:W≠X+6:=λl=>ho (l▸wN)
  obtain⟨c,hc⟩:=exI ((kU G L r).length)
  rw[aS,hc] at e2 e4
  have e9:c<=L.length:=by
   rw[←hc];have:=List.Nodup.length_le_of_subset (Qj (G:=G) (L:=L) r) (l₂:=List.range L.length) λj hj=>Dj.2 (uQ.1 hj).1
   rwa [Xf] at this
  rw[hc,e1]
  have Fb:Fx (· =X+6) y hb:=⟨om,λq l s=>by rw[ob q om,oa q om];exact z.get q l s⟩
  have b1:hb.get (X+6)=some (.cells false (rc L.length λj=> aC (Ki G L K k 0 j:Nat))):=by rw[ob _ om,oa _ om];exact B
  have d7: ∀u,Fx (· =X+6) y u->u.cell (X+8) 3=some (.sl (X+6) 0 L.length (.kn L.length)):=λu f=>by
   have:u.get (X+8)=y.get (X+8):=f.get _ (by have:=wn _ wB;omega) om;rw[H.cell_of (this.trans U)];rfl
  refine uJ (λvs u=>(∃g:Nat->V,vs= [g 0,g 1,.nilp,aC 0,g 4,g 5,.ptr (X+8) 0,g 7,g 8,g 9,g 10,g 11,g 12,g 13,g 14,g 15,g 16,g 17,g 18,g 19,g 20,g 21,g 22,g 23,g 24,g 25,g 26,g 27,g 28,g 29,g 30,g 31,g 32,g 33,g 34,g 35,g 36,g 37,.sl S 0 K.length cp,aC (K.length:Int),aC k,g 41,g 42,g 43,g 44,g 45])/\u.get (X+6)=some (.cells false (rc L.length λj=> aC (Ki G L K (k+1) 0 j:Nat)))/\Fx (· =X+6) y u) ?_ ?_
  ·refine aI (λk' vs u=> ∃(t:Nat),(∃g:Nat->V,vs= [g 0,g 1,.nilp,aC 0,g 4,g 5,.ptr (X+8) 0,g 7,g 8,g 9,g 10,g 11,g 12,g 13,g 14,g 15,g 16,g 17,g 18,aC k,g 20,g 21,g 22,g 23,g 24,g 25,g 26,g 27,g 28,g 29,g 30,g 31,g 32,g 33,g 34,g 35,g 36,g 37,.sl S 0 K.length cp,aC (K.length:Int),aC k,g 41,.sl W a1 (mR+1) a7,aC c,aC t,g 45])/\t<=c/\u.get (X+6)=some (.cells false (rc L.length λj=> aC (Ki G L K k t j:Nat)))/\Fx (· =X+6) y u/\k'=c-t) c
    ⟨0,aB rfl,iB _,b1,Fb,rfl⟩ ?_
   clear b1 Fb gb ob b0 nb b2 ga oa fa na c0 b9 B z n9
   rintro k' F b5 ⟨t,⟨g2,rfl⟩,ht,a8,Fc,rfl⟩
   by_cases b4:(t:Int)<(c:Int)
   case neg=>
    have d5:=bI b4;obtain rfl:t=c:=om
    simp(disch:=omega)only[go_sem,d5];refine⟨aB rfl,?_,Fc⟩;rw[a8,show (λj=>aC (Ki G L K k t j:Nat))=λj=>aC (Ki G L K (k+1) 0 j:Nat) from funext λj=>by rw[←VE,J,hc]]
   have d5:=cI b4
   have c8:t<c:=om
   obtain⟨x,hx⟩:=exI ((kU G L r).getD t 0)
   have e6:x<L.length:=by rw[←hx];exact (uQ.1 (bC om)).1
   have d0:b5.cell W (a1+t)=some (aC x):=by
    have e5:=e4 t c8;unfold H.cell at e5 ⊢;rw[Fc.get W e3 d1,e5,zi,oI _ (d:=0) om,hx]
   have pt:=bT (vs:=rc L.length λj=> aC (Ki G L K k t j:Nat)) (off:=x) (by rw[iQ];exact e6)
   have tl:(t:Int).toNat=t:=rfl
   simp(disch:=omega)only[go_sem,d5,d0,d7 b5 Fc,a8,pt]
   rw[fJ t]
   refine⟨c-(t+1),om,t+1,aB rfl,om,?_,⟨Fc.next,λq l s=>by rw[H.aH _ s];exact Fc.get q l s⟩,rfl⟩
   rw[lH,dJ λj hj=>?_]
   rw[UT hG E pK w (by rw[J];omega),J,hx]
   by_cases ej:j=x
   ·rw[bJ ej,bJ ej]
   ·rw[bU ej,bU ej]
  rintro F hd ⟨⟨g2,rfl⟩,c4,Fd⟩
  simp(disch:=omega)only[go_sem]
  rw[fJ k]
  exact⟨K.length-(k+1),om,k+1,aB rfl,om,c4,Fd,rfl⟩
 rintro F h9 ⟨⟨g,rfl⟩,B,z⟩
 have n9:=z.next
 simp(disch:=omega)only[go_sem]
 have n2:=e.x2
 have o9: ∀q,q<D->q≠X+8->q≠X+6->h9.get q=h5.get q:=λq l s h3=>by
  rw[z.get q (by have:=e.j.nx;omega) h3,F8.get q (by have:=e.j.nx;omega) (λh4=>by have:q=S:=h4;omega),e.j.old.get q (by rw[e.n5];exact l) (λh4=>by rcases h4 with h4|h4;exact s h4;omega)]
 have nx:=e.j.nx
 have a6:Fr s h9:=⟨om,λq hq=>by rw[o9 q om om om];exact e.f25.get q hq⟩
 have d3:Fx WK y h9:=⟨z.next,λq l s=>z.get q l λh3=>s (by have:q=X+6:=h3;rw[this];exact wN)⟩
 have d9:K.Nodup:=pK.nodup_iff.2 (by classical exact (by unfold kC;exact List.Pairwise.filter _ List.nodup_range))
 have c3:o.length=K.length:=by rw[←hK,iA]
 refine⟨.ptr (X+8) 0,K,rfl,⟨X+8,X+3,X+6,S,cp,vL,o,rfl,om,om,om,om,?_,?_,?_,?_,?_,e.sp.mono a6⟩,⟨pK,?_⟩,e.f2.trans a6⟩
 ·rw[z.get _ om om];exact U
 ·rw[o9 _ om om om];exact e.gM
 ·rw[B,dJ λj hj=>by rw[QV hG E pK hj]]
 ·rw[z.get _ om om];exact b3
 ·refine aN.eM c3 λi l s=>?_
  obtain⟨a,ea,ko⟩:=b8 i s
  have a5:o[i]=a:=by rw[dD l] at ea;simpa using ea
  have k9:=ko.go d3 om wX λ_ _ l=>l
  rw[Pm.cW s] at k9
  rw[a5]
  exact⟨k9.fst,k9.ord,k9.size,k9.rep.si,k9.ranks.si⟩
 ·have l:o.Pairwise λa b=>a.fst≠b.fst:=by
   have:=d9;rw[←hK] at this;exact List.pairwise_map.1 this
  rw[←hK,List.pairwise_map];refine List.Pairwise.imp_of_mem ?_ (List.Pairwise.and srt l);rintro a b Z hb ⟨s,h3⟩;have ka:=kK a Z;have kb:=kK b hb;have h4: ¬(b.lt a=true):=by rw[s];simp
  rw[Cls.KE.lt_iff] at h4;unfold Pa;rw[←ka.ord,←kb.ord,←ka.size,←kb.size];omega
theorem MW {n:Nat}{G:List Nat->Prop}{L:LN}{r s:Nat}(a:Pa n G L r s)(b:Pa n G L s r):False:=by
 unfold Pa at a b;omega
theorem Ab.uniq {n:Nat}{G:List Nat->Prop}{L:LN}{K c:List Nat}(a:Ab n G L K)(b:Ab n G L c):K=c:=
 (a.perm.trans b.perm.symm).eq_of_pairwise (λ_ _ _ _ d e=>(MW d e).elim) a.asc b.asc
noncomputable def aeK (G:List Nat->Prop)(L:LN)(K:List Nat):List Nat:=(List.range L.length).map (NK G L K)
def sX (ks:List Cls.KE):List V:=ks.flatMap λa=> [a.rep,aC (a.ord:Int),aC (a.size:Int)]
theorem tX (ks:List Cls.KE):(sX ks).length=ks.length*3:=by
 induction ks with
 |nil=>rfl
 |cons a r ih=>
  show ([a.rep,aC (a.ord:Int),aC (a.size:Int)]++sX r).length=_;rw[iV,ih];show 3+r.length*3=(r.length+1)*3;omega
theorem abC {h:H}{Y:Nat}{ro:Bool}{a:Cls.KE}(g:h.get Y=some (.cells ro a.enc)):h.row Y 0 3=some [a.rep,aC (a.ord:Int),aC (a.size:Int)]:=by
 simp [H.row,g,sub,Cls.KE.enc]
theorem JM {v:V}(a:v.one=true)(x y:Int)(h:H):mH h 3 [.aD,aC 0,aC 0] 1 [(0,3,.agg [v,aC x,aC y])]=some (.sl h.next 0 1 (.kn 1),h.new (.cells false [v,aC x,aC y])):=by
 have e:dP [V.aD,aC 0,aC 0] 3= [V.aD,aC 0,aC 0]:=rfl;simp [mH,iK,putAt,e,a,show ∀l,(V.agg l).cells=l from λ_=>rfl,show ∀z,(aC z).one=true from λ_=>rfl]
theorem QC {W0:Nat->Prop}(vc:V)(n:Nat)(O:LN)(R:jJ)(G:List Nat->Prop)(h:H)(t:GC W0 h vc n O R G)(L:LN)(hL:dM O R n 0 (aX n)=L):
  Ev T 100 [vc] h (λv h'=> ∃vl K ks,v= .tup [vl,aC 0]/\Ab n G L K/\SV h' vl 3 (sX ks)/\aN (KR n G L h') ks K/\Fr h h'):=by
 obtain⟨vO,vR,e,sO,sR⟩:=t.ch
 subst e
 refine dW Cr rfl ?_
 have x:vO.one=true:=BX sO
 have z:vR.one=true:=Up sR
 obtain⟨A,hA⟩:=exI h.next
 obtain⟨h1,e1,n1,g1,o1,f1⟩:=dK hA [aC n,vO,vR]
 have bx:=bV h (v:= aC n) (u:=vO) (w:=vR) rfl x z
 have rB:=aJ g1
 simp(disch:=omega)only[go_sem,Cr,aE,bx,hA,e1,rB]
 refine (ajC _ n O R G h1 (t.mono f1)).mono ?_
 rw[hL]
 rintro _ d ⟨p,K,rfl,go,ik,f2⟩
 obtain⟨B,M,N,S,cp,vL,ks,rfl,hB,hM,hN,hS,gB,gM,gN,gS,aK,sp⟩:=go.ex
 have c2:d.cell B 2=some (.sl S 0 K.length cp):=by rw[H.cell_of gB];rfl
 have a5:=aN.length aK
 have a4:K.length<=5040:=by
  have h1:=ik.perm.length_eq;have d:=Dk (G:=G) (L:=L) L.length;have h3:=jE t;have h4:=(dB t.cY t.isc).2;rw[hL] at h4;omega
 simp(disch:=omega)only[go_sem]
 refine bA (λhc=>(hc rfl).elim) (λ_=>?_)
 simp(disch:=omega)only[go_sem,c2]
 refine bQ (λvs i=> ∃b,(∃g:Nat->V,vs= [g 0,g 1,g 2,g 3,g 4,g 5,b,g 7,g 8,g 9,g 10,g 11,g 12])/\SV i b 3 (sX ks)/\Fr d i) ?_ ?_
 ·refine aI (λk' vs i=> ∃(k:Nat) (b:V),(∃g:Nat->V,vs= [g 0,g 1,g 2,g 3,.ptr B 0,g 5,b,g 7,g 8,.sl S 0 K.length cp,aC (K.length:Int),aC k,g 12])/\k<=K.length/\dH i b 3 (sX (ks.take k)) d.next/\Fr d i/\k'=K.length-k) K.length
   ⟨0,.aD,aB rfl,iB _,dH.aD _ _ _,Fr.refl _,rfl⟩ ?_
  rintro k' r s ⟨k,b,⟨g,rfl⟩,hk,J,f,rfl⟩
  by_cases j:(k:Int)<(K.length:Int)
  case neg=>
   have d4:=bI j;obtain rfl:k=K.length:=om
   simp(disch:=omega)only[go_sem,d4];rw[Ro om] at J;exact⟨b,aB rfl,J.sv,f⟩
  have d4:=cI j
  have a7:k<K.length:=om
  have o:k<ks.length:=om
  obtain⟨a,ea⟩:=exI (ks[k])
  have a0:s.get S=aF (Cls.rJ ks):=by rw[f.get _ hS];exact gS
  have a2:s.row S (k*4) 4=some a.enc:=by
   have:=Jr (pre:= []) (by simpa using a0) o;rw[ea] at this;simpa using this
  obtain⟨Y,hY⟩:=exI s.next
  obtain⟨ha,a3,na,ga,oa,fa⟩:=dK hY [.aD,aC 0,aC 0,.aD]
  obtain⟨hb,a1,nb,gb,ob⟩:=mV ha Y a.enc
  obtain⟨Z,hZ⟩:=exI hb.next
  obtain⟨l,W,nc,U,oc,fc⟩:=dK hZ [a.rep,aC (a.ord:Int),aC (a.size:Int)]
  have F:Fr s l:=⟨om,λq hq=>by rw[oc q om,ob q om,oa q om]⟩
  have Q:dH l b 3 (sX (ks.take k)) d.next:=J.fr F
  obtain⟨hd,ad,pd⟩:=Q.push (bytes:=40) (y:= .sl Z 0 1 (.kn 1)) (us:= [a.rep,aC (a.ord:Int),aC (a.size:Int)]) (SV.all rfl om U _) (n:=k) (m:=1) (by rw[tX,zO];omega) rfl om om om
  simp(disch:=omega)only[go_sem,d4,a2,hY,a3,VA,ga,QY,a1,abC gb,JM a.hrep.2.1,hZ,W,ad]
  rw[fJ k]
  have el:sX (ks.take (k+1))=sX (ks.take k)++ [a.rep,aC (a.ord:Int),aC (a.size:Int)]:=by
   rw[List.take_succ_eq_append_getElem o,ea];simp [sX]
  have n9:=f.next
  have nd:=pd.next
  have P:Fr d hd:=⟨om,λq hq=>by rw[pd.old q om (λid a6 n' c e e2=>by have:=(J.in _ _ _ _ e).2.1;omega),F.get q om];exact f.get q hq⟩
  exact⟨K.length-(k+1),om,k+1,_,aB rfl,om,by rw[el];exact pd.own (by rw[tX,zO];omega) rfl om,P,rfl⟩
 rintro r s ⟨b,⟨g,rfl⟩,sv,f⟩
 simp(disch:=omega)only[go_sem]
 exact⟨b,K,ks,rfl,ik,sv,aK.mono λ_ _ k=>k.mono f,(f1.trans f2).trans f⟩
set_option maxRecDepth 100000
set_option maxRecDepth 100000
theorem SN {n:Nat}{a:List Nat}(A:aY n a)(h:n<=7):oJ a n∣420:=by
 unfold oJ;rw[Cq];intro c f;obtain⟨l,e,rfl⟩:=pH.1 f;obtain⟨i,hi,rfl⟩:=pH.1 e;have b:i<n:=by unfold Pd at hi;exact Dj.1 (Rq.1 hi).1
 rw[zB];have d:=(nJ A b).1;have g:=Wo A b;have: ∀k,k<8->0<k->k∣420:=by decide
 exact this _ om d
set_option maxRecDepth 100000
set_option maxRecDepth 100000
set_option maxRecDepth 100000
set_option maxRecDepth 100000
def NC (n:Nat)(A B:List Nat->Prop)(x:List Nat):Prop:= ∀H:List Nat->Prop,dO n H->(∀a,A a->H a)->(∀y b,H y->B b->H (aT y b))->H x
section
variable {n:Nat} {A B A' B' H:List Nat->Prop}
theorem NC.le {x:List Nat}(h:NC n A B x)(e:dO n H)(d: ∀a,A a->H a)(c: ∀y b,H y->B b->H (aT y b)):H x:=h H e d c
theorem NC.of {a:List Nat}(h:A a):NC n A B a:=λ_ _ b _=>b a h
theorem NC.cj {x b:List Nat}(h:NC n A B x)(e:B b):NC n A B (aT x b):=λH c d a=>a _ _ (h H c d a) e
theorem abH (n:Nat):dO n (aY n):=⟨λh=>h,aY.one n,λa b=>a.mul b,λa=>a.inv⟩
theorem NC.cY (d: ∀a,A a->aY n a)(f: ∀b,B b->aY n b):dO n (NC n A B):=
 ⟨λh=>h _ (abH n) d λy b Y e=>dC Y (f b e),λ_ c _ _=>c.one,λh k _ c a b=>c.mul (h _ c a b) (k _ c a b),λh _ c a b=>c.inv (h _ c a b)⟩
theorem NC.same (j: ∀a,A a->aY n a)(m: ∀b,B b->aY n b)(e: ∀a,A' a->aY n a)(d: ∀b,B' b->aY n b)
  (i: ∀a,A a->A' a∨a=aX n) (k: ∀a,A' a->A a∨a=aX n) (o: ∀a,B a->B' a∨a=aX n) (l: ∀a,B' a->B a∨a=aX n) (x:List Nat):NC n A B x↔NC n A' B' x:=by
 have c: ∀{A B A' B':List Nat->Prop},(∀a,A' a->aY n a)->(∀b,B' b->aY n b)->(∀a,A a->A' a∨a=aX n)->(∀a,B a->B' a∨a=aX n)->NC n A B x->NC n A' B' x:=λ{A B A' B'} p q a b h=>
  h.le (NC.cY p q) (λz g=>by
   rcases a z g with h|rfl
   ·exact NC.of h
   ·exact (NC.cY p q).one) (λy z f g=>by
   rcases b z g with h|rfl
   ·exact f.cj h
   ·rw[iZ ((NC.cY p q).bF f)];exact f)
 exact⟨c e d i o,c j m k l⟩
theorem Nu (d:dO n H)(c: ∀b,B b->aY n b)(e: ∀y b,H y->B b->H (aT y b)){g:List Nat}(f:bM n B g): ∀y,H y->H (aT y g):=by
 induction f with
 |one=>intro y a;rw[iZ (d.bF a)];exact a
 | @mul z k hz hk ih=>intro y a;rw[gW (d.bF a) (hz.bF c) (c _ hk)];exact e _ _ (ih y a) hk
end
def cU (x y:List Nat):List Nat:=aM (aM (bZ x) (bZ y)) (aM x y)
section
variable {n:Nat} {x y:List Nat}
theorem qV (X:aY n x)(Y:aY n y):aY n (cU x y):=(X.inv.mul Y.inv).mul (X.mul Y)
theorem To (X:aY n x):cU x (aX n)=aX n:=by
 unfold cU;rw[oX,aZ X.inv,aZ X,dL X]
theorem Sy (Y:aY n y):cU (aX n) y=aX n:=by
 unfold cU;rw[oX,bX Y.inv,bX Y,dL Y]
theorem oH (X:aY n x)(Y:aY n y):cU x y=aM (bZ x) (aT x y):=by
 unfold cU aT;rw[aG X.inv Y.inv (X.mul Y),aG Y.inv X Y]
end
def oV (n:Nat)(R R':jJ):List Nat->Prop:=NC n (λx=> ∃p,p∈bP R/\ ∃q,q∈bP R'/\x=cU p q) (λb=>b∈bP R∨b∈bP R')
section
variable {n:Nat} {G K:List Nat->Prop} {O O':LN} {R R':jJ}
theorem oV.cY (f:dO n G)(g:dO n K)(c:aV n G O R)(d:aV n K O' R'):dO n (oV n R R'):=
 NC.cY (λa ⟨_,hp,_,hq,e⟩=>by rw[e];exact qV (f.bF (bE c hp)) (g.bF (bE d hq))) (λb h=>h.elim (λh=>f.bF (bE c h)) λh=>g.bF (bE d h))
theorem oV.le (e:dO n G)(l:dO n K)(c:aV n G O R)(d:aV n K O' R')(g: ∀y b,G y->K b->G (aT y b)){x:List Nat}(h:oV n R R' x):G x:=by
 refine NC.le h e ?_ ?_
 ·rintro a ⟨p,j,q,k,rfl⟩
  have P:=bE c j;have Q:=bE d k;rw[oH (e.bF P) (l.bF Q)];exact e.mul (e.inv P) (g _ _ P Q)
 ·rintro y b i (f|f)
  ·have:=bE c f
   exact e.mul (e.mul (e.inv this) i) this
  ·exact g _ _ i (bE d f)
theorem oV.self (a:dO n G)(c:aV n G O R){x:List Nat}(h:oV n R R x):G x:=
 oV.le a a c c (λy b e d=>a.mul (a.mul (a.inv d) e) d) h
theorem oV.norm (i:dO n G)(f:dO n K)(c:aV n G O R)(d:aV n K O' R'){y b:List Nat}(e:oV n R R' y)(a:K b):oV n R R' (aT y b):=
 Nu (B:=λg=>g∈bP R') (oV.cY i f c d) (λb h=>f.bF (bE d h)) (λy b e a=>NC.cj e (.inr a)) (oG f d a) y e
end
set_option maxHeartbeats 8000000
theorem Kj (h:H){v w:V}(a:v.cells= [v]/\v.one=true)(b:w.cells= [w]/\w.one=true):mH h 1 [.aD] 2 [(0,1,v),(1,1,w)]=some (.sl h.next 0 2 (.kn 2),h.new (.cells false [v,w])):=by
 have e:List.range 2= [0,1]:=rfl;simp [mH,qU,iK,putAt,a.1,a.2,b.1,b.2,dP,e]
theorem Oq {n:Nat}{u w:V}{a b:List Nat}{h h':H}(A:aY n a)(B:aY n b)(c:SI h u (zi a))(d:SI h w (zi b))(f:Fr h h'): ∀i,i< [u,w].length-> ∃a,aY n a/\SI h' (([u,w]:List V).getD i .undef) (zi a):=λi hi=>by
 match i,hi with
 |0,_=>exact⟨a,A,c.mono f⟩
 |1,_=>exact⟨b,B,d.mono f⟩
theorem La {n:Nat}{a b:List Nat}(A:aY n a)(B:aY n b): ∀i,i<a.length->a.getD i 0<b.length:=λi hi=>by
 rw[B.len];exact A.fX (by rw[←A.len];exact hi)
theorem aaS (u w:V)(n:Nat)(a b:List Nat)(h:H)(o:1<=n)(r:n<=64)(A:aY n a)(B:aY n b)(e:SI h u (zi a))(d:SI h w (zi b)):
  Ev T 209 [u,w] h (λv h'=> ∃x,v= .tup [x,aC 0]/\PV (λq=>q<h.next) h' x (aM a b)/\Fr h h'):=by
 refine dW Ql rfl ?_
 have j:=SV.cT e
 have i:=SV.cT d
 obtain⟨k,s,z,l,F,f⟩:=dK (h:=h) rfl [u,w]
 simp(disch:=omega)only[go_sem,Ql,aE,Kj h (v:=u) (w:=w) ⟨j.1,j.2.1⟩ ⟨i.1,i.2.1⟩,s]
 refine (Bc _ [u,w] n k o r (by simp) (SV.all rfl om l _) (Oq A B e d f)).mono ?_
 rintro _ m ⟨rfl,p⟩
 have c:=f.trans p
 simp(disch:=omega)only[go_sem]
 refine bA (λt=>(t rfl).elim) (λ_=>?_)
 simp(disch:=omega)only[go_sem]
 refine (nZ qN.ok u w a b m (by rw[A.len];omega) (e.mono c) (d.mono c) (La A B)).mono ?_
 rintro x y g
 have:=c.next
 simp(disch:=omega)only[go_sem]
 exact⟨x,rfl,g.pv om,c.trans g.fr⟩
theorem aeE (u:V)(n:Nat)(a:List Nat)(h:H)(l:1<=n)(o:n<=64)(A:aY n a)(c:SI h u (zi a)):
  Ev T 208 [u] h (λv h'=> ∃x,v= .tup [x,aC 0]/\PV (λq=>q<h.next) h' x (bZ a)/\Fr h h'):=by
 refine dW Ps rfl ?_
 have f:=SV.cT c
 obtain⟨g,p,t,j,w,d⟩:=dK (h:=h) rfl [u]
 simp(disch:=omega)only[go_sem,Ps,aE,cK h (z:= .aD) f.1 f.2.1,p]
 refine (Bc _ [u] n g l o (by simp) (SV.one om j (.kn 1)) (λi hi=>⟨a,A,?_⟩)).mono ?_
 ·have:i=0:=by simpa using hi
  subst this
  exact c.mono d
 rintro _ k ⟨rfl,m⟩
 have b:=d.trans m
 simp(disch:=omega)only[go_sem]
 refine bA (λr=>(r rfl).elim) (λ_=>?_)
 simp(disch:=omega)only[go_sem]
 refine (Df zM.ok u n a k om A (c.mono b)).mono ?_
 rintro x s e
 have:=b.next
 simp(disch:=omega)only[go_sem]
 exact⟨x,rfl,e.pv om,b.trans e.fr⟩
theorem WU (u w:V)(n:Nat)(a b:List Nat)(h:H)(F:1<=n)(J:n<=64)(A:aY n a)(B:aY n b)(j:SI h u (zi a))(i:SI h w (zi b)):
  Ev T 207 [u,w] h (λv h'=> ∃x,v= .tup [x,aC 0]/\PV (λq=>q<h.next) h' x (aT a b)/\Fr h h'):=by
 refine dW Lc rfl ?_
 have o:=SV.cT j
 have m:=SV.cT i
 obtain⟨p,K,O,s,P,k⟩:=dK (h:=h) rfl [u,w]
 simp(disch:=omega)only[go_sem,Lc,aE,Kj h (v:=u) (w:=w) ⟨o.1,o.2.1⟩ ⟨m.1,m.2.1⟩,K]
 refine (Bc _ [u,w] n p F J (by simp) (SV.all rfl om s _) (Oq A B j i k)).mono ?_
 rintro _ t ⟨rfl,G⟩
 have e:=k.trans G
 simp(disch:=omega)only[go_sem]
 refine bA (λL=>(L rfl).elim) (λ_=>?_)
 simp(disch:=omega)only[go_sem]
 refine (Df zM.ok w n b t om B (i.mono e)).mono ?_
 rintro x r l
 have d:=e.trans l.fr
 simp(disch:=omega)only[go_sem]
 refine (nZ qN.ok x u (bZ b) a r (by rw[B.inv.len];omega) (l.pv (W:=λ_=>False) id).si (j.mono d) (La B.inv A)).mono ?_
 rintro y N g
 have c:=d.trans g.fr
 simp(disch:=omega)only[go_sem]
 refine (nZ qN.ok y w (aM (bZ b) a) b N (by rw[(B.inv.mul A).len];omega) (g.pv (W:=λ_=>False) id).si (i.mono c) (La (B.inv.mul A) B)).mono ?_
 rintro z Q f
 have:=c.next
 simp(disch:=omega)only[go_sem]
 exact⟨z,rfl,f.pv om,c.trans f.fr⟩
theorem VC (u w:V)(n:Nat)(a b:List Nat)(h:H)(Y:1<=n)(O:n<=64)(A:aY n a)(B:aY n b)(m:SI h u (zi a))(l:SI h w (zi b)):
  Ev T 123 [u,w] h (λv h'=> ∃x,v= .tup [x,aC 0]/\PV (λq=>q<h.next) h' x (cU a b)/\Fr h h'):=by
 refine dW Lw rfl ?_
 have r:=SV.cT m
 have G:=SV.cT l
 obtain⟨J,P,n1,L,o1,F⟩:=dK (h:=h) rfl [u,w]
 simp(disch:=omega)only[go_sem,Lw,aE,Kj h (v:=u) (w:=w) ⟨r.1,r.2.1⟩ ⟨G.1,G.2.1⟩,P]
 refine (Bc _ [u,w] n J Y O (by simp) (SV.all rfl om L _) (Oq A B m l F)).mono ?_
 rintro _ N ⟨rfl,Z⟩
 have j:=F.trans Z
 simp(disch:=omega)only[go_sem]
 refine bA (λQ=>(Q rfl).elim) (λ_=>?_)
 simp(disch:=omega)only[go_sem]
 refine (Df zM.ok u n a N om A (m.mono j)).mono ?_
 rintro x K p
 have i:=j.trans p.fr
 simp(disch:=omega)only[go_sem]
 refine (Df zM.ok w n b K om B (l.mono i)).mono ?_
 rintro y U d
 have o:=i.trans d.fr
 simp(disch:=omega)only[go_sem]
 refine (nZ qN.ok x y (bZ a) (bZ b) U (by rw[A.inv.len];omega) ((p.pv (W:=λ_=>False) id).si.mono d.fr) (d.pv (W:=λ_=>False) id).si (La A.inv B.inv)).mono ?_
 rintro z R k
 have c:=o.trans k.fr
 simp(disch:=omega)only[go_sem]
 refine (nZ qN.ok u w a b R (by rw[A.len];omega) (m.mono c) (l.mono c) (La A B)).mono ?_
 rintro s h6 e
 have g:=c.trans e.fr
 simp(disch:=omega)only[go_sem]
 refine (nZ qN.ok z s (aM (bZ a) (bZ b)) (aM a b) h6 (by rw[(A.inv.mul B.inv).len];omega) ((k.pv (W:=λ_=>False) id).si.mono e.fr) (e.pv (W:=λ_=>False) id).si (La (A.inv.mul B.inv) (A.mul B))).mono ?_
 rintro t h7 f
 have:=g.next
 simp(disch:=omega)only[go_sem]
 exact⟨t,rfl,f.pv om,g.trans f.fr⟩
theorem aN.ajN {α β:Type}{P:α->β->Prop}: ∀{a:List α} {b:List β},aN P a b->aN P (a.drop 1) (b.drop 1)
 | [], [],h=>h
 |_::_,_::_,h=>h.2
 | [],_::_,h=>h.elim
 |_::_, [],h=>h.elim
theorem Ml {n:Nat}{G:List Nat->Prop}{O:LN}{R:jJ}(b:dO n G)(a:aV n G O R){i:Nat}(hi:i<n):1<=(R.getD i []).length/\(R.getD i []).length<=n:=by
 rw[a.rl i hi];have:=(a.mem i hi i).2 ⟨aX n,b.one,Fix.one n i om,fM hi⟩;exact⟨Rl this,mY (tK (λx c=>b.bF c) hi (a.asc i hi) (a.mem i hi)) om⟩
theorem rT {n:Nat}{G:List Nat->Prop}{O:LN}{R:jJ}(c:dO n G)(a:aV n G O R):(bP R).length<=n*n:=by
 have:=uG (n:=n) (R:=R) (i:=n) (by rw[a.lr];exact dT _) (λj b=>(Ml c a b).2);rwa [Ro (by rw[a.lr];exact dT _)] at this
theorem zA {W:Nat->Prop}(vc:V)(n:Nat)(O:LN)(R:jJ)(G:List Nat->Prop)(r h:H)(s:GC W r vc n O R G)(f0:Fr r h):
  Ev T 122 [vc] h (λv h'=> ∃ws,dH h' v 1 ws h.next/\dZ W r ws (bP R)/\Fr h h'):=by
 obtain⟨vO,t,a1,l,rfl,sO,oO,pO,Q,oR,aR⟩:=s.cw
 refine dW xV rfl ?_
 have o:=(SV.cT sO).2.1
 have p:=(SV.cT Q).2.1
 have a:=s.isc
 have hG:=s.cY
 have n7:=s.n7
 have lR:=aN.length aR
 rw[a.lr] at lR
 obtain⟨B,hB⟩:=exI h.next
 obtain⟨Y,e1,n1,g1,o1,z⟩:=dK hB [aC n,vO,t]
 have bx:=bV h (v:= aC n) (u:=vO) (w:=t) rfl o p
 have U:bL t=some (aC n):=by unfold bL;rw[SV.len Q (n:=n) om om];rfl
 obtain⟨P,d,x,k,cR⟩:=SV.shape Q n om om
 simp(disch:=omega)only[go_sem,xV,aE,bx,hB,e1,H.cell_of g1,U]
 refine aI (λk' c q=> ∃(i:Nat) (y:V) (ws:List V),(∃g:Nat->V,c= [g 0,g 1,g 2,y,g 4,t,aC n,aC i,g 8])/\i<=n/\dH q y 1 ws Y.next/\dZ W r ws (bP (R.take i))/\Fr Y q/\k'=n-i) n
  ⟨0,.aD, [],aB rfl,iB _,dH.aD _ _ _,trivial,Fr.refl _,rfl⟩ ?_
 rintro k' c q ⟨i,y,ws,⟨g,rfl⟩,hi,ow,pv,F,rfl⟩
 have nF:=F.next
 by_cases f:(i:Int)<(n:Int)
 case neg=>
  have J:=bI f;obtain rfl:i=n:=om
  rw[Ro (by rw[a.lr];exact dT _)] at pv;simp(disch:=omega)only[go_sem,J];exact⟨ws,ow.le om,pv,z.trans F⟩
 have J:=cI f
 have b:i<n:=om
 obtain⟨wr,Z,L,K,e⟩:=aN.get aR i om (by rw[a.lr];exact b)
 have er:R[i]'(by rw[a.lr];exact b)=R.getD i []:=by rw[List.getD,dD (by rw[a.lr];exact b)];rfl
 rw[er] at K
 have lw:=aN.length K
 obtain⟨r1,r2⟩:=Ml hG a b
 have ci:q.cell P (d+i)=some (l[i]'om):=by
  rw[(f0.trans (z.trans F)).cell (k om),cR i om,dD om]
 generalize l[i]'om=vr at Z L e ci
 obtain⟨vt,N,tt⟩:=GA Z e om
 have a0:=aN.length pv
 have sl:(bP (R.take i)).length<=i*n:=uG (by rw[a.lr];omega) (λj hj=>(Ml hG a om).2)
 have a2:i*n<=7*7:=Nat.mul_le_mul om n7
 obtain⟨v2,h2,ea,A⟩:=dH.app (bytes:=24) ow nF (tt.mono (f0.trans (z.trans F))) (n:=ws.length) (m:=wr.length- 1) om (by rw[Gb];omega) om om
 simp(disch:=omega)only[go_sem,J,x.ixa,ci,N,ea]
 rw[fJ i]
 refine⟨n-(i+1),om,i+1,v2,_,aB rfl,om,A.own,?_,A.fr _ F (dT _),rfl⟩
 rw[Be (by rw[a.lr];exact b)]
 exact aN.append pv (aN.ajN K)
theorem sD {α:Type}{l:List α}{i:Nat}{d:α}(hi:i<l.length):l[i]=l.getD i d:=by rw[List.getD,dD hi];rfl
theorem HA {W:Nat->Prop}(D:Nat)(u vO vR:V)(n:Nat)(O:LN)(R:jJ)(G:List Nat->Prop)(x:List Nat)(h:H)(Q:GC W h (.agg [aC n,vO,vR]) n O R G)(hD:D<h.next)(gD:h.get D=some (.cells false [aC n,vO,vR]))(X:aY n x)(hu:SI h u (zi x)):
  Ev T 165 [.ptr D 0,u] h (λv h'=> ∃b,v= .bool b/\(b=true↔G x)/\Fr h h'):=by
 obtain⟨c0,b9,a1,L,e,sO,oO,pO,sR,oR,aR⟩:=Q.cw
 cases e
 refine dW qC rfl ?_
 have c:=Q.isc
 have o:=Q.cY
 have n7:=Q.n7
 have n0:=Q.n0
 have lR:=aN.length aR
 have lO:=aN.length pO
 rw[c.lr] at lR
 rw[c.lo] at lO
 have b8:bL vR=some (aC n):=by unfold bL;rw[SV.len sR (n:=n) om om];rfl
 obtain⟨b5,t,a4,J,cR⟩:=SV.shape sR n om om
 obtain⟨b7,K,b4,a0,cO⟩:=SV.shape sO n om om
 have a8: ∀d,Fr h d->d.get D=some (.cells false [aC n,vO,vR]):=λd f=>by rw[f.get D hD];exact gD
 simp(disch:=omega)only[go_sem,qC,aE,H.cell_of gD,b8]
 refine aI (λk' m d=> ∃(i:Nat) (vx:V) (y:List Nat),(∃g:Nat->V,m= [.ptr D 0,vx,g 2,g 3,g 4,g 5,g 6,g 7,vR,aC n,aC i,g 11,g 12])/\i<=n/\SI d vx (zi y)/\aY n y/\Fix i y/\(G y↔G x)/\Fr h d/\k'=n-i) n
  ⟨0,u,x,aB rfl,iB _,hu,X,λk hk=>om,Iff.rfl,Fr.refl _,rfl⟩ ?_
 rintro k' m d ⟨i,vx,y,⟨g,rfl⟩,hi,sy,Y,l,q,F,rfl⟩
 by_cases A:(i:Int)<(n:Int)
 case neg=>
  have d1:=bI A;obtain rfl:i=n:=om
  simp(disch:=omega)only[go_sem,d1];exact⟨true,rfl,⟨λ_=>q.1 (by rw[Fix.all Y l];exact o.one),λ_=>rfl⟩,F⟩
 have d1:=cI A
 have a:i<n:=om
 obtain⟨wr,tr,b0,pr,a6⟩:=aN.get aR i om (by rw[c.lr];exact a)
 have er:R[i]'(by rw[c.lr];exact a)=R.getD i []:=sD _
 rw[er] at pr
 have lw:=aN.length pr
 obtain⟨r1,r2⟩:=Ml o c a
 have ci: ∀d,Fr h d->d.cell b5 (t+i)=some (L[i]'om):=λd f=>by
  rw[f.cell (J om),cR i om,dD om]
 generalize L[i]'om=vr at tr b0 a6 ci
 have po:=aN.get pO i om (by rw[c.lo];exact a)
 have eo:O[i]'(by rw[c.lo];exact a)=O.getD i []:=sD _
 rw[eo] at po
 have co:d.cell b7 (K+i)=some (a1[i]'om):=by
  rw[F.cell (a0 om),cO i om,dD om]
 generalize a1[i]'om=vo at po co
 obtain⟨a7,w,B,N,P⟩:=sy.open
 rw[aS,Y.len] at B N P
 obtain⟨p,hp⟩:=exI (y.getD i 0)
 have cy:d.cell a7 (w+i)=some (aC p):=by rw[P i a];congr 2;simp [zi,Y.len,a,←hp]
 have c1:(O.getD i []).length<=n:=mY (tK (λx hx=>o.bF hx) a (c.asc i a) (c.mem i a)) om
 have fb:Fr d (H.mk d.tr (d.next+18)):=(Fr.refl d).bH om
 simp(disch:=omega)only[go_sem,d1,a4.ixa,ci d F,H.cell_of (a8 d F),b4.ixa,co,B.ixa,cy]
 refine (Gi _ (O.getD i []) p _ om (c.asc i a) (po.si.mono (F.trans fb))).mono ?_
 rintro _ h2 ⟨k,f,rfl,a3,b2,f2⟩
 have r:=fb.trans f2
 have F2:=F.trans r
 cases f with
 |false=>
  have b3: ¬G x:=λhx=>by
   have:=a3.2 ((c.mem i a p).2 ⟨y,q.2 hx,l,hp⟩);cases this
  simp(disch:=omega)only[go_sem];exact⟨false,rfl,⟨λh=>(by cases h),λh=>absurd h b3⟩,F2⟩
 |true=>
  obtain⟨hk,b1⟩:=b2 rfl;have j:=c.rep i a k hk;rw[b1] at j;obtain⟨z,hz⟩:=exI ((R.getD i []).getD k []);rw[hz] at j;have Z:=o.bF j.mem;have a9:k<(R.getD i []).length:=by rw[c.rl i a];exact hk
  have pz:=aN.get pr k om a9;rw[show (R.getD i [])[k]=z from by rw[←hz];exact sD _] at pz;obtain⟨b6,U,a2,s,a5⟩:=tr.shape (R.getD i []).length om om;have ck:h2.cell b6 (U+k)=some (wr[k]'om):=by rw[F2.cell (s om),a5 k om,dD om]
  generalize wr[k]'om=vz at pz ck;simp(disch:=omega)only[go_sem,a2.ixa,ck];refine (aeE vz n z h2 n0 om Z (pz.si.mono F2)).mono ?_;rintro _ h3 ⟨vi,rfl,pi,f3⟩;simp(disch:=omega)only[go_sem];refine (aaS vx vi n y (bZ z) h3 n0 om Y Z.inv (sy.mono (r.trans f3)) pi.si).mono ?_;rintro _ h4 ⟨vm,rfl,pm,f4⟩;simp(disch:=omega)only[go_sem];rw[fJ i];refine⟨n-(i+1),om,i+1,vm,aM y (bZ z),aB rfl,om,pm.si,Y.mul Z.inv,?_,?_,F.trans (r.trans (f3.trans f4)),rfl⟩
  ·refine (Fix.mul Y om l (Fix.inv Z om j.fix)).succ ?_
   rw[dE (by rw[Y.len];exact a),hp];have:=wY Z a;rwa [j.maps] at this
  ·rw[←q]
   refine⟨λhm=>?_,λhy=>o.mul hy (o.inv j.mem)⟩;have:=o.mul hm j.mem;rwa [aG Y Z.inv Z,dL Z,aZ Y] at this
section
variable {W W':Nat->Prop} {h h':H} {n D:Nat} {O l:LN} {G:List Nat->Prop}
theorem GC.congr {c:V}{R:jJ}{G':List Nat->Prop}(g:GC W h c n O R G)(e: ∀x,G x↔G' x):GC W h c n O R G':=
 ⟨g.cw,g.isc.congr e,⟨λh=>g.cY.bF ((e _).2 h),(e _).1 g.cY.one,λa b=>(e _).1 (g.cY.mul ((e _).2 a) ((e _).2 b)),λa=>(e _).1 (g.cY.inv ((e _).2 a))⟩,g.n0,g.n7⟩
theorem GC.kO {a:V}{R:jJ}(g:GC W h a n O R G)(b: ∀id,id<h.next->W' id->W id):GC W' h a n O R G:=g.go (Fx.refl _ _) b
structure Qz (W:Nat->Prop)(h:H)(D n:Nat)(G:List Nat->Prop):Prop where
 ex: ∃vO vR O R,h.get D=some (.cells false [aC n,vO,vR])/\GC (λid=>W id∨id=D) h (.agg [aC n,vO,vR]) n O R G
 nx:D<h.next
 nW: ¬W D
theorem Qz.go (r:Qz W h D n G)(f:Fx W h h')(c: ∀q,q<h.next->W' q->W q):Qz W' h' D n G:=by
 obtain⟨i,e,O,R,g,d⟩:=r.ex;exact⟨⟨i,e,O,R,by rw[f.get D r.nx r.nW];exact g,d.go ⟨f.next,λid a b=>f.get id a λh=>b (.inl h)⟩ λq a b=>b.imp_left (c q a)⟩,jM r.nx f.next,λh=>r.nW (c _ r.nx h)⟩
theorem Qz.fx (r:Qz W h D n G)(f:Fx W h h'):Qz W h' D n G:=r.go f λ_ _ h=>h
theorem Qz.fr (r:Qz W h D n G)(f:Fr h h'):Qz W h' D n G:=r.fx (Fx.of f)
theorem Qz.kO (r:Qz W h D n G)(a: ∀q,q<h.next->W' q->W q):Qz W' h D n G:=r.go (Fx.refl _ _) a
theorem Qz.congr {G':List Nat->Prop}(r:Qz W h D n G)(e: ∀x,G x↔G' x):Qz W h D n G':=by
 obtain⟨a,c,O,R,g,b⟩:=r.ex;exact⟨⟨a,c,O,R,g,b.congr e⟩,r.nx,r.nW⟩
theorem ahF {x y z:V}(b:x.one=true)(a:y.one=true)(c:z.one=true):qU [aC 0,.aD,.aD] [(0,3,.agg [x,y,z])]=some (.agg [x,y,z]):=by
 simp [qU,iK,putAt,V.cells,b,a,c]
theorem OZ (n:Nat)(h:H)(Q:1<=n)(s:n<=7):
  Ev T 161 [aC n] h (λv h'=> ∃D,v= .ptr D 0/\h.next<=D/\Qz (λq=>q<h.next) h' D n (λx=>x=aX n)/\Fr h h'):=by
 refine dW An rfl ?_
 simp(disch:=omega)only[go_sem,An,aE]
 refine (Ms .aD n [] h Q s (by decide) ⟨[],SV.aD _ _,trivial⟩ (λ_ h=>by cases h)).mono ?_
 rintro _ k ⟨vc,O,R,rfl,p,o⟩
 obtain⟨g,f,a0,Z,e,J,oO,pO,K,oR,aR⟩:=p.cw
 subst e
 have c:=(SV.cT J).2.1
 have d:=(SV.cT K).2.1
 obtain⟨A,m⟩:=exI k.next
 obtain⟨j,Y,n2,g2,o2,f2⟩:=dK m [aC 0,.aD,.aD]
 obtain⟨i,z,n3,N,L⟩:=mV j A [aC n,g,f]
 obtain⟨P,B,n4,U,r,f4⟩:=dK (h:=i) rfl [aC n,g,f]
 simp(disch:=omega)only[go_sem,m,Y,cF j A 0 (v:= aC n) (u:=g) (w:=f) rfl c d,g2,cH,z,aJ N,ahF (x:= aC n) rfl c d,bV i (v:= aC n) (u:=g) (w:=f) rfl c d,B]
 have n1:=o.next
 have F:Fr k P:=⟨om,λq hq=>by rw[r q om,L q om,o2 q om]⟩
 refine⟨i.next,rfl,om,⟨⟨g,f,O,R,U,?_⟩,om,om⟩,o.trans F⟩
 have t:=p.congr (G':=λx=>x=aX n) λx=>⟨λy=>bM.le (G:=λx=>x=aX n) ⟨λe=>e▸aY.one n,rfl,λa b=>by rw[a,b,bX (aY.one n)],λa=>by rw[a,oX]⟩ (λ_ h=>by cases h) y,λe=>by rw[e];exact .one⟩
 exact (t.kO (W':=λid=>id<h.next∨id=i.next) λid k j=>j.elim (λh=>h) λe=>om).mono F
def Jn (n:Nat)(G:List Nat->Prop)(l:LN):List Nat->Prop:=bM n (λg=>G g∨g∈l)
theorem Jn.cY (b:dO n G)(a: ∀g∈l,aY n g):dO n (Jn n G l):=bM.cY λg h=>h.elim (λh=>b.bF h) (a g)
theorem Jn.nil (a:dO n G)(x:List Nat):G x↔Jn n G [] x:=
 ⟨λh=>bM.of (λg h=>h.elim (λh=>a.bF h) λh=>by cases h) (.inl h),λh=>bM.le a (λg h=>h.elim (λh=>h) λh=>by cases h) h⟩
theorem Jn.in {x:List Nat}(b:dO n G)(a: ∀g∈l,aY n g)(d:Jn n G l x)(y:List Nat):Jn n G l y↔Jn n G (l++ [x]) y:=by
 have c:=Jn.cY b a;have e: ∀g∈l++ [x],aY n g:=λg h=>(oD.1 h).elim (a g) λh=>by rw[List.mem_singleton.1 h];exact c.bF d
 refine⟨λh=>bM.mono (λg h=>h.imp_right λh=>oD.2 (.inl h)) h,λh=>bM.le c (λg h=>?_) h⟩;rcases h with h|h
 ·exact bM.of (λg h=>h.elim (λh=>b.bF h) (a g)) (.inl h)
 ·rcases oD.1 h with h|h
  ·exact bM.of (λg h=>h.elim (λh=>b.bF h) (a g)) (.inr h)
  ·rw[List.mem_singleton.1 h];exact d
theorem Jn.push {x:List Nat}{R:jJ}(d:dO n G)(e: ∀g∈l,aY n g)(X:aY n x)(c:aV n (Jn n G l) O R)(y:List Nat):bM n (· ∈bP R++ [x]) y↔Jn n G (l++ [x]) y:=by
 have i:=Jn.cY d e;have b: ∀g∈l++ [x],aY n g:=λg h=>(oD.1 h).elim (e g) λh=>by rw[List.mem_singleton.1 h];exact X
 have f: ∀g,g∈bP R++ [x]->aY n g:=λg h=>(oD.1 h).elim (λh=>i.bF (bE c h)) λh=>by rw[List.mem_singleton.1 h];exact X
 constructor
 ·refine λh=>bM.le (Jn.cY d b) (λg h=>?_) h
  rcases oD.1 h with h|h
  ·exact bM.mono (λg h=>h.imp_right λh=>oD.2 (.inl h)) (bE c h)
  ·exact bM.of (λg h=>h.elim (λh=>d.bF h) (b g)) (.inr (oD.2 (.inr h)))
 ·refine λh=>bM.le (bM.cY f) (λg h=>?_) h
  have a: ∀g,Jn n G l g->bM n (· ∈bP R++ [x]) g:=λg h=>bM.mono (λg h=>oD.2 (.inl h)) (oG i c h)
  rcases h with h|h
  ·exact a g (bM.of (λg h=>h.elim (λh=>d.bF h) (e g)) (.inl h))
  ·rcases oD.1 h with h|h
   ·exact a g (bM.of (λg h=>h.elim (λh=>d.bF h) (e g)) (.inr h))
   ·exact bM.of f (oD.2 (.inr h))
end
theorem KW (h:H)(a m:Nat)(ws:List V): ∃h',H.mk ((H.mk h.tr a).new (.cells false ws)).tr m=h'/\h'.next=m/\h'.get a=some (.cells false ws)/\ ∀q,q≠a->h'.get q=h.get q:=by
 obtain⟨f,d,i,b,e,g⟩:=dK (h:=H.mk h.tr a) rfl ws;rw[d];exact⟨_,rfl,rfl,b,λq c=>e q c⟩
theorem Ct (v:V):Ej (λ_=>False) v:=by cases v<;>first|exact id|trivial
theorem dZ.LO {W:Nat->Prop}{h:H}{v:V}{ws:List V}{l:LN}(sv:SV h v 1 ws)(p:dZ W h ws l):SP h v l:=by
 have a:=aN.length p
 exact⟨ws,sv,aN.eM (by simpa using a) λi hi b=>by
  have:=(aN.get p i hi om).si
  simpa using this⟩
theorem Yx {W:Nat->Prop}(D:Nat)(vl:V)(ws:List V)(n:Nat)(G:List Nat->Prop)(l:LN)(h:H)(n0:1<=n)(n7:n<=7)(hG:dO n G)(hP: ∀g∈l,aY n g)(hl:l.length<1000000)(hW: ∀q,W q->q<h.next)(hr:Qz W h D n G)(sv:SV h vl 1 ws)(a7:Ej (· =D) vl)(pv:dZ (· =D) h ws l):
  Ev T 162 [.ptr D 0,vl] h (λv h'=>v= .ptr D 0/\Qz W h' D n (Jn n G l)/\Fx (· =D) h h'):=by
 refine dW pE rfl ?_
 have lw:=aN.length pv
 have b1:bL vl=some (aC (l.length:Int)):=by unfold bL;rw[SV.len sv (n:=l.length) om om];rfl
 simp(disch:=omega)only[go_sem,pE,aE,b1]
 refine aI (λk' j L=> ∃(i:Nat),(∃g:Nat->V,j= [.ptr D 0,g 1,g 2,g 3,vl,aC (l.length:Int),aC i,g 7,g 8])/\i<=l.length/\Qz W L D n (Jn n G (l.take i))/\Fx (· =D) h L/\k'=l.length-i) l.length
  ⟨0,aB rfl,iB _,hr.congr λx=>by rw[List.take_zero];exact Jn.nil hG x,Fx.refl _ _,rfl⟩ ?_
 rintro k' j L ⟨i,⟨g,rfl⟩,hi,r,F,rfl⟩
 by_cases Q:(i:Int)<(l.length:Int)
 case neg=>
  have d1:=bI Q;obtain rfl:i=l.length:=om
  simp(disch:=omega)only[go_sem,d1];exact⟨by rw[List.take_length] at r;exact r,F⟩
 have d1:=cI Q
 have p:i<l.length:=om
 obtain⟨id,Z,sh,b7,hc⟩:=(sv.fx a7 F).shape l.length om om
 have J:=(aN.get pv i om p).fx F
 obtain⟨x,hx⟩:=exI (l.getD i [])
 rw[show l[i]=x from by rw[←hx];exact sD _] at J
 have cx:L.cell id (Z+i)=some (ws[i]'om):=by rw[hc i om,dD om]
 generalize ws[i]'om=vx at J cx
 have X:aY n x:=by rw[←hx];exact hP _ (bC p)
 have o: ∀g∈l.take i,aY n g:=λg hg=>hP g (List.mem_of_mem_take hg)
 have tk:l.take (i+1)=l.take i++ [x]:=by rw[←hx];exact eY [] p
 obtain⟨A,t,O,R,gD,gc⟩:=r.ex
 have nD:=r.nx
 have nF:=F.next
 simp(disch:=omega)only[go_sem,d1,sh.ixa,cx]
 refine (HA D vx A t n O R _ x L gc nD gD X J.si).mono ?_
 rintro _ a ⟨bb,rfl,b6,B⟩
 have r2:=r.fr B
 have F2:Fx (· =D) h a:=F.trans (Fx.of (W:=(· =D)) B) λ_ _ h=>h
 cases bb with
 |true=>
  simp(disch:=omega)only[go_sem];rw[fJ i];exact⟨l.length-(i+1),om,i+1,aB rfl,om,r2.congr λy=>by rw[tk];exact Jn.in hG o (b6.1 rfl) y,F2,rfl⟩
 |false=>
  have b0:=gc.mono B;have d:a.get D=some (.cells false [aC n,A,t]):=by rw[B.get D nD];exact gD
  have n2:=B.next;have fb:Fr a (H.mk a.tr (a.next+21)):=(Fr.refl a).bH om;simp(disch:=omega)only[go_sem,H.cell_of d,aJ d];refine (zA _ n O R _ a (H.mk a.tr (a.next+21)) b0 fb).mono ?_;rintro vs h3 ⟨us,ow,pu,f3⟩;have a3:=fb.trans f3;have n3:a.next+21<=h3.next:=f3.next;have b5:h3.get D=some (.cells false [aC n,A,t]):=by rw[a3.get D om];exact d
  obtain⟨h4,e4,n4,g4,o4⟩:=KW h3 (a.next+12) h3.next [vx]
  have a2:Fr a h4:=⟨om,λq s=>by rw[o4 q om];exact a3.get q s⟩
  have lu:=aN.length pu;have gl:=Jn.cY hG o;have b8:=rT gl gc.isc;have nn:n*n<=7*7:=Nat.mul_le_mul n7 n7;have wx:=SV.cT J.si;have U:dH h4 vs 1 us (a.next+21):=ow.mono om λq _ _ _ _ K _=>o4 q (by have:a.next+21<=q:=K;omega)
  obtain⟨P,a5,p5⟩:=U.push (bytes:=24) (SV.one (v:=vx) (id:=a.next+12) om g4 (.kn 1)) (n:=us.length) (m:=1) om rfl om om om;have n5:=p5.next;have ap: ∀k,k<a.next+21->dR vs k:=λk hk a4 Z m c e=>by have:a.next+21<=a4:=(U.in _ _ _ _ e).2.1;omega
  have f:Fr a P:=⟨om,λq s=>by rw[p5.old q om (ap q om)];exact a2.get q s⟩
  have b3:h4.get D=some (.cells false [aC n,A,t]):=by rw[a2.get D om];exact d
  have a6:SP P (.sl h4.next 0 (us.length+1) (.un 1)) (bP R++ [x]):=dZ.LO (W:=λ_=>False) (p5.own om rfl (b:=0) om).sv
   (aN.append (aN.mono (λ_ _ k=>⟨(k.si.mono f),Ct _⟩) pu) ⟨⟨J.si.mono (B.trans f),Ct _⟩,trivial⟩)
  have Y:P.get D=some (.cells false [aC n,A,t]):=by rw[f.get D om];exact d
  have a9:SW (P.cell D 0) (aC n)=true:=by rw[H.cell_of Y];simp [SW,dI]
  simp(disch:=omega)only[go_sem,H.cell_of b5,cK _ (z:= .aD) wx.1 wx.2.1,e4,H.cell_of b3,a5];refine⟨a9,?_⟩;refine (Ms _ n (bP R++ [x]) P n0 n7 (by rw[iV];simp;omega) a6 (λg hg=>(oD.1 hg).elim (λh=>gl.bF (bE gc.isc h)) λh=>by rw[List.mem_singleton.1 h];exact X)).mono ?_;rintro _ h6 ⟨vc,O2,R2,rfl,N,f6⟩;obtain⟨uO,uR,_,_,e,sO,_,_,sR,_,_⟩:=N.cw;subst e;have a0:=(SV.cT sO).2.1;have a1:=(SV.cT sR).2.1;have b2:=f.trans f6;have n6:=f6.next;have a8:h6.get D=some (.cells false [aC n,A,t]):=by rw[f6.get D om];exact Y
  obtain⟨h7,e7,b9,g7,o7⟩:=mV h6 D [aC n,uO,uR];simp(disch:=omega)only[go_sem,cF h6 D 0 (v:= aC n) (u:=uO) (w:=uR) rfl a0 a1,a8,cH,e7];rw[fJ i]
  have F7:Fx (· =D) a h7:=⟨om,λq K s=>by rw[o7 q s,b2.get q K]⟩
  refine⟨l.length-(i+1),om,i+1,aB rfl,om,⟨⟨uO,uR,O2,R2,g7,?_⟩,om,r.nW⟩,F2.trans F7 λ_ _ h=>h,rfl⟩;have b4:=(N.congr (G':=Jn n G (l.take (i+1))) λy=>by rw[tk];exact Jn.push hG o X gc.isc y).kO (W':=λid=>W id∨id=D) λid K a=>a.elim (λh=>by have:=hW _ h;omega) λe=>om
  exact b4.go ⟨om,λq K s=>o7 q λe=>s (.inr e)⟩ λ_ _ h=>h
section
variable {n:Nat}
theorem gX {x y b:List Nat}(X:aY n x)(Y:aY n y)(B:aY n b):aT (aM x y) b=aM (aT x b) (aT y b):=by
 unfold aT;have i:=B.inv;rw[aG (i.mul X) B ((i.mul Y).mul B),←aG B (i.mul Y) B,←aG B i Y,cG B,bX Y,←aG i X Y,aG (i.mul X) Y B]
theorem mN {b:List Nat}(B:aY n b):aT (aX n) b=aX n:=by
 unfold aT;rw[aZ B.inv,dL B]
theorem GY {l:LN}{b:List Nat}(a: ∀g∈l,aY n g)(B:aY n b)(h: ∀x∈l,bM n (· ∈l) (aT x b)){x:List Nat}(c:bM n (· ∈l) x):bM n (· ∈l) (aT x b):=by
 induction c with
 |one=>rw[mN B];exact .one
 |mul c hg ih=>rw[gX (c.bF a) (a _ hg) B];exact ih.app a (h _ hg)
theorem JR {c l B:LN}(f: ∀b∈B,aY n b)(o: ∀g∈c,aY n g)(d: ∀g∈l,aY n g)(k: ∀g∈c,g∈l)(j: ∀g∈l,NC n (· ∈c) (· ∈B) g)(p: ∀x∈l,∀b∈B,bM n (· ∈l) (aT x b))(x:List Nat):bM n (· ∈l) x↔NC n (· ∈c) (· ∈B) x:=
 ⟨λh=>bM.le (NC.cY o f) j h,λh=>h.le (bM.cY d) (λa i=>bM.of d (k a i)) λ_ b m e=>GY d (f b e) (λz q=>p z q b e) m⟩
end
theorem RN (id Q O P:Nat)(p:V)(B:LN)(n M:Nat)(n0:1<=n)(hn:n<=64)(hB: ∀b∈B,aY n b)(a6:B.length<1000000)(hM:M<10000000)(h:H)(J:Nat->Nat->LN->H->Prop)(l0:LN)(r:J 0 0 l0 h)
  (jF: ∀i k l hh,J i k l hh->hh.get Q=aF [.ptr P 0]/\hh.get O=aF [p]/\(∃vl ws,hh.get P=aF [vl]/\SV hh vl 1 ws/\aN (λv x=>SI hh v (zi x)) ws l)/\SP hh p B/\l.length<=M/\ ∀g∈l,aY n g)
  (jf: ∀i k l hh h',J i k l hh->Fr hh h'->J i k l h')
  (jn: ∀i l hh,J i B.length l hh->J (i+1) 0 l hh)
  (hy: ∀i k l r hh v,i<l.length->k<B.length->J i k l r->Fr r hh->PV (λq=>q<r.next) hh v (aT (l.getD i []) (B.getD k []))->Ey T id [v] hh (λv h'=>v= .bool true/\ ∃l',i<l'.length/\J i (k+1) l' h')):
  Ev T 206 [.yl id,.ptr Q 0,.ptr O 0] h (λ_ h'=> ∃l,J l.length 0 l h'):=by
 refine dW pV rfl ?_
 simp(disch:=omega)only[go_sem,pV,aE]
 refine aI (λu a hh=> ∃(i:Nat) (l:LN),(∃g:Nat->V,a= [.yl id,.ptr Q 0,.ptr O 0,aC i,g 4,g 5,g 6,g 7,g 8,g 9,g 10,g 11])/\i<=l.length/\J i 0 l hh/\u=M-i) M
  ⟨0,l0,aB rfl,iB _,r,rfl⟩ ?_
 rintro u a h1 ⟨i,l,⟨g,rfl⟩,hi,j1,rfl⟩
 obtain⟨c,m,⟨vl,ws,L,sv,A⟩,sB,lM,hP⟩:=jF _ _ _ _ j1
 have lw:=aN.length A
 have o:bL vl=some (aC (l.length:Int)):=by unfold bL;rw[SV.len sv (n:=l.length) om om];rfl
 by_cases j:(i:Int)<(l.length:Int)
 case neg=>
  have N:=bI j;obtain rfl:i=l.length:=om
  simp(disch:=omega)only[go_sem,H.cell_of c,H.cell_of L,o,N];exact⟨l,j1⟩
 have N:=cI j
 have K:=sB.lens
 rw[iA] at K
 simp(disch:=omega)only[go_sem,H.cell_of c,H.cell_of L,o,N,H.cell_of m,K]
 refine aI (λu a hh=> ∃(k:Nat) (l:LN),(∃g:Nat->V,a= [.yl id,.ptr Q 0,.ptr O 0,aC i,g 4,g 5,g 6,p,aC (B.length:Int),aC k,g 10,g 11])/\k<=B.length/\i<l.length/\J i k l hh/\u=B.length-k) B.length
  ⟨0,l,aB rfl,iB _,om,j1,rfl⟩ ?_
 clear c m L sv A o N j
 rintro u a U ⟨k,l,⟨g,rfl⟩,hk,f,Z,rfl⟩
 obtain⟨c,m,⟨vl,ws,L,sv,A⟩,sB,lM,hP⟩:=jF _ _ _ _ Z
 by_cases y:(k:Int)<(B.length:Int)
 case neg=>
  have W:=bI y;obtain rfl:k=B.length:=om
  simp(disch:=omega)only[go_sem,W];rw[fJ i];exact⟨M-(i+1),om,i+1,l,aB rfl,om,jn _ _ _ Z,rfl⟩
 have W:=cI y
 have e:k<B.length:=om
 have lw:=aN.length A
 obtain⟨a2,F,a0,a4,a3⟩:=sv.shape l.length om om
 have R:=aN.get A i om f
 rw[show l[i]=l.getD i [] from sD _] at R
 have cl:U.cell a2 (F+i)=some (ws[i]'om):=by rw[a3 i om,dD om]
 generalize ws[i]'om=vx at R cl
 obtain⟨a8,a5,us,z,s,a7,a1,G⟩:=sB.open
 rw[iA] at z s
 have cB:=a1 k (by rw[iA];exact e)
 have sb:=xJ G e
 generalize us.getD k V.undef=vb at cB sb
 have X:=hP _ (bC (d:= []) f)
 have Y:=hB _ (bC (d:= []) e)
 simp(disch:=omega)only[go_sem,W,z.ixa,cB,H.cell_of c,H.cell_of L,a0.ixa,cl]
 refine (WU vx vb n _ _ U n0 hn X Y R sb).mono ?_
 rintro _ h3 ⟨w,rfl,pw,f3⟩
 simp(disch:=omega)only[go_sem]
 refine (hy i k l U h3 w f e Z f3 pw).mono ?_
 rintro _ h4 ⟨rfl,l',t,j4⟩
 simp(disch:=omega)only[go_sem]
 rw[fJ k]
 exact⟨B.length-(k+1),om,k+1,l',aB rfl,om,t,j4,rfl⟩
set_option maxRecDepth 100000
set_option maxRecDepth 100000
structure Plc (l:LN)(x:List Nat)(k:Nat):Prop where
 le:k<=l.length
 lo: ∀i,i<k->sQ (l.getD i []) x=true
 hi: ∀i,k<=i->i<l.length->sQ (l.getD i []) x=false
theorem WO (L z:V)(n:Nat)(l:LN)(x:List Nat)(h:H)(hn:n<1000)(hl:l.length<1000000)(hP: ∀g∈l,aY n g)(X:aY n x)(W:l.Pairwise Lt)(hv:SP h L l)(hx:SI h z (zi x)):
  Ev T 93 [L,z] h (λv h'=> ∃k:Nat,v= .tup [aC k,.bool (decide (x∈l))]/\Plc l x k/\(x∈l->k<l.length/\l.getD k []=x)/\Fr h h'):=by
 obtain⟨P,sv,R⟩:=hv
 have Q:=aN.length R
 rw[iA] at Q
 refine dW Lh rfl ?_
 have lv:bL L=some (aC (l.length:Int)):=by unfold bL;rw[SV.len sv (n:=l.length) om om];rfl
 obtain⟨id,Y,sh,Z,hc⟩:=SV.shape sv l.length om om
 have a: ∀i,i<l.length->(l.getD i []).length=n:=λi hi=>(hP _ (bC hi)).len
 have mono: ∀i j,i<j->j<l.length->Lt (l.getD i []) (l.getD j []):=λi j r b=>by
  have ei:l.getD i []=l[i]:=by rw[List.getD,dD om];rfl
  have ej:l.getD j []=l[j]:=by rw[List.getD,dD b];rfl
  rw[ei,ej];exact GP.1 W i j om b r
 have cell: ∀o,Fr h o-> ∀i,i<l.length->o.cell id (Y+i)=some (P.getD i .undef):=λo f i hi=>by
  rw[f.cell (Z om),hc i om];simp [List.getD,show i<P.length by omega]
 simp(disch:=omega)only[go_sem,Lh,aE,lv]
 refine bQ (λvs o=> ∃k,(∃g:Nat->V,vs= [L,z,g 2,g 3,aC (k:Nat),g 5,g 6,g 7,g 8])/\Plc l x k/\Fr h o) ?_ ?_
 ·refine aI (λk' d o=> ∃(i j:Nat),(∃g:Nat->V,d= [L,z,g 2,g 3,aC i,aC j,g 6,g 7,g 8])/\i<=j/\j<=l.length/\(∀q,q<i->sQ (l.getD q []) x=true)/\(∀q,j<=q->q<l.length->sQ (l.getD q []) x=false)/\Fr h o/\k'=j-i) l.length
   ⟨0,l.length,aB rfl,om,om,λm hm=>om,λm r b=>om,Fr.refl h,rfl⟩ ?_
  rintro k' d o ⟨i,j,⟨g,rfl⟩,a1,hj,B,A,F,rfl⟩
  by_cases J:(i:Int)<(j:Int)
  case neg=>
   have t:=bI J;obtain rfl:i=j:=om
   simp(disch:=omega)only[go_sem,t];exact⟨i,aB rfl,⟨hj,B,A⟩,F⟩
  have t:=cI J
  obtain⟨m,hm⟩:=exI ((i+j)/2)
  have ea:(i:Int)+(j:Int)=((i+j:Nat):Int):=om
  have G:((i+j:Nat):Int).tdiv 2=(m:Int):=by rw[Int.tdiv_eq_ediv_of_nonneg om];omega
  have K:=cell o F m om
  have sm:=xJ R (i:=m) om
  generalize P.getD m .undef=U at K sm
  simp(disch:=omega)only[go_sem,t,ea,G,sh.ixa,K]
  refine (abJ U z n _ x o om (a m om) X.len (sm.mono F) (hx.mono F)).mono ?_
  rintro _ s ⟨rfl,O⟩
  cases hl2:sQ (l.getD m []) x with
  |true=>
   simp(disch:=omega)only[go_sem];rw[fJ m];refine⟨j-(m+1),om,m+1,j,aB rfl,om,hj,λq hq=>?_,A,F.trans O,rfl⟩
   by_cases e:q=m
   ·rw[e];exact hl2
   ·have r:=mono q m om om
    have b:=(mQ (by rw[a m om,X.len])).1 hl2;exact (mQ (by rw[a q om,X.len])).2 (Lt.trans (by rw[a q om,a m om]) r b)
  |false=>
   simp(disch:=omega)only[go_sem];refine⟨m-i,om,i,m,aB rfl,om,om,B,λq r b=>?_,F.trans O,rfl⟩
   by_cases e:q=m
   ·rw[e];exact hl2
   ·rw[←Bool.not_eq_true]
    intro s;have p:=mono m q om b;have y:=(mQ (by rw[a q b,X.len])).1 s;rw[(mQ (by rw[a m om,X.len])).2 (Lt.trans (by rw[a q b,a m om]) p y)] at hl2;cases hl2
 rintro d b ⟨k,⟨g,rfl⟩,N,F⟩
 have c:x∈l->k<l.length/\l.getD k []=x:=λa0=>by
  obtain⟨q,hq,eq⟩:=Ad.1 a0;have w:l.getD q []=x:=by rw[List.getD,dD hq,←eq];rfl
  have r:k<=q:=Nat.le_of_not_lt λs=>by
   have:=N.lo q s;rw[w,yS] at this;cases this
  have b:k=q:=Nat.le_antisymm r (Nat.le_of_not_lt λs=>by
   have p:=mono k q s hq;rw[w] at p;have y:=N.hi k (dT _) om;rw[(mQ (by rw[a k om,X.len])).2 p] at y
   cases y)
  exact⟨om,by rw[b];exact w⟩
 by_cases hk:(k:Int)<(l.length:Int)
 ·have t:=cI hk
  have K:=cell b F k om
  have sm:=xJ R (i:=k) om
  generalize P.getD k .undef=U at K sm
  simp(disch:=omega)only[go_sem,lv,t,sh.ixa,K]
  refine (We U z _ _ b (sm.mono F) (hx.mono F) (by rw[aS,a k om];omega) (by rw[aS,X.len];omega)).mono ?_
  rintro _ s ⟨rfl,O⟩
  have G:decide (zi (l.getD k [])=zi x)=decide (x∈l):=by
   rw[decide_eq_decide];constructor
   ·intro p
    have y:l.getD k []=x:=List.map_inj_right (λu v b=>om)|>.1 p;rw[←y];exact bC om
   ·intro p;rw[(c p).2]
  simp(disch:=omega)only[go_sem,G]
  exact⟨k,rfl,N,c,F.trans O⟩
 ·have t:=bI hk
  have G:decide (x∈l)=false:=bI λp=>by have:=(c p).1;omega
  simp(disch:=omega)only[go_sem,lv,t]
  exact⟨k,by rw[G],N,c,F⟩
theorem JB (d e:V)(n:Nat)(l:LN)(x:List Nat)(h:H)(f:n<1000)(j:l.length<1000000)(o: ∀g∈l,aY n g)(X:aY n x)(b:l.Pairwise Lt)(i:SP h d l)(p:SI h e (zi x)):
  Ev T 37 [d,e] h (λv h'=>((∃k:Nat,v= aC k/\k<l.length/\l.getD k []=x)∨x∉l/\v= aC (-1))/\Fr h h'):=by
 refine dW Cx rfl ?_
 simp(disch:=omega)only[go_sem,Cx,aE]
 refine (WO d e n l x h f j o X b i p).mono ?_
 rintro _ q ⟨k,rfl,r,m,F⟩
 by_cases a:x∈l
 ·have c:=cI a
  simp(disch:=omega)only[go_sem,c]
  exact⟨.inl ⟨k,rfl,m a⟩,F⟩
 ·have c:=bI a
  simp(disch:=omega)only[go_sem,c]
  exact⟨.inr ⟨a,trivial⟩,F⟩
theorem Iv {g:Nat}(Y:T g=some jO.fn)(u w:V)(a b:List (List Int))(h:H)(hu:SR h u a)(hw:SR h w b)(la:a.length<1000000)(lb:b.length<1000000)(ra: ∀x∈a,x.length<1000000)(rb: ∀x∈b,x.length<1000000):
  Ev T g [u,w] h (λv h'=>v= .bool (decide (a=b))/\Fr h h'):=by
 refine mX Y rfl ?_
 have z:=hu.lens
 have lw:=hw.lens
 obtain⟨B,sa,aa⟩:=hu
 obtain⟨Z,sb,ab⟩:=hw
 have a0:=aN.length aa
 have a1:=aN.length ab
 obtain⟨id,n,sh,p,hc⟩:=SV.shape sa a.length om om
 obtain⟨l,d,U,f,R⟩:=SV.shape sb b.length om om
 by_cases W:(a.length:Int)=(b.length:Int)
 case neg=>
  have L:=cI W;simp(disch:=omega)only[go_sem,jO,aE,z,lw,L];exact⟨by rw[bI];intro e;exact W (by rw[e]),Fr.refl h⟩
 have N:a.length=b.length:=om
 have L:decide ((a.length:Int)≠(b.length:Int))=false:=bI (by simpa using W)
 simp(disch:=omega)only[go_sem,jO,aE,z,lw,L]
 refine aI (λk' k c=> ∃(i:Nat),(∃g:Nat->V,k= [u,w,g 2,aC i,g 4,g 5,g 6])/\i<=a.length/\(∀j,j<i->a.getD j []=b.getD j [])/\Fr h c/\k'=a.length-i) a.length
  ⟨0,aB rfl,iB _,λj hj=>om,Fr.refl h,rfl⟩ ?_
 rintro k' k c ⟨i,⟨g,rfl⟩,hi,hs,F,rfl⟩
 by_cases q:(i:Int)<(a.length:Int)
 case neg=>
  have J:=bI q;obtain rfl:i=a.length:=om
  simp(disch:=omega)only[go_sem,z,J]
  have:a=b:=by
   refine List.ext_getElem N λj h1 h2=>?_
   have:=hs j h1;rwa [List.getD,dD h1,List.getD,dD h2] at this
  exact⟨by rw[cI this],F⟩
 have J:=cI q
 have c1:c.cell id (n+i)=some (B.getD i .undef):=by
  rw[F.cell (p om),hc i om];simp [List.getD,show i<B.length by omega]
 have P:c.cell l (d+i)=some (Z.getD i .undef):=by
  rw[F.cell (f om),R i om];simp [List.getD,show i<Z.length by omega]
 have G:=FJ aa (i:=i) om
 have Q:=FJ ab (i:=i) om
 generalize B.getD i .undef=va at c1 G
 generalize Z.getD i .undef=vb at P Q
 have m:=G.dI
 have o:=Q.dI
 simp(disch:=omega)only[go_sem,z,J,sh.ixa,c1,U.ixa,P]
 refine (We va vb _ _ _ (G.mono (F.trans ((Fr.refl c).bH om))) (Q.mono (F.trans ((Fr.refl c).bH om))) (ra _ (bC om)) (rb _ (bC om))).mono ?_
 rintro _ t ⟨rfl,O⟩
 have F3:=F.trans (((Fr.refl c).bH om).trans O)
 have s:t.cell id (n+i)=some va:=by
  have K:Fr c t:=((Fr.refl c).bH om).trans O;rw[K.cell (by have:=p om;have:=F.next;omega)];exact c1
 have r:t.cell l (d+i)=some vb:=by
  have K:Fr c t:=((Fr.refl c).bH om).trans O;rw[K.cell (by have:=f om;have:=F.next;omega)];exact P
 by_cases y:a.getD i []=b.getD i []
 ·have A:=cI y
  simp(disch:=omega)only[go_sem,A,s,r,m,o]
  rw[fJ i]
  refine⟨a.length-(i+1),om,i+1,aB rfl,om,λj hj=>?_,F3,rfl⟩
  by_cases e:j=i
  ·rw[e];exact y
  ·exact hs j om
 ·have A:=bI y
  simp(disch:=omega)only[go_sem,A,s,r,m,o]
  exact⟨by rw[bI];intro e;exact y (by rw[e]),F3⟩
theorem Vw (u w:V)(a b:List (List Int))(h:H)(f:SR h u a)(d:SR h w b)(c:a.length<1000000)(lb:b.length<1000000)(e: ∀x∈a,x.length<1000000)(g: ∀x∈b,x.length<1000000):
  Ev T 90 [u,w] h (λv h'=>v= .bool (decide (a=b))/\Fr h h'):=Iv jO.ok u w a b h f d c lb e g
theorem Un (u w:V)(a b:List (List Int))(h:H)(f:SR h u a)(d:SR h w b)(c:a.length<1000000)(lb:b.length<1000000)(e: ∀x∈a,x.length<1000000)(g: ∀x∈b,x.length<1000000):
  Ev T 41 [u,w] h (λv h'=>v= .bool (decide (a=b))/\Fr h h'):=Iv Mi.ok u w a b h f d c lb e g
theorem Wi (v1 v2:V)(B N:Int)(O1 O2:List (List Int))(b d:List (List (List Int)))(h:H)(c1:YD h v1 B O1 b)(c2:YD h v2 N O2 d)(c0:Bf O1)(a5:Bf O2)(Q:tE b)(U:tE d):
  Ev T 31 [v1,v2] h (λv h'=>v= .bool (decide (B=N/\O1=O2/\b=d))/\Fr h h'):=by
 obtain⟨vO,K,e,sO,sR⟩:=c1
 subst e
 obtain⟨uO,Y,e,tO,tR⟩:=c2
 subst e
 refine dW rZ rfl ?_
 have b8:vO.one=true:=BX sO
 have b9:K.one=true:=Up sR
 have W:uO.one=true:=by obtain⟨_,t,_⟩:=tO;exact t.cT.2.1
 have O:Y.one=true:=by obtain⟨_,t,_⟩:=tR;exact t.cT.2.1
 have b4:dI K K=true:=by obtain⟨_,t,_⟩:=sR;exact t.dI
 have J:dI Y Y=true:=by obtain⟨_,t,_⟩:=tR;exact t.dI
 obtain⟨A,hA⟩:=exI h.next
 obtain⟨h1,Z,n1,g1,o1,f1⟩:=dK hA [aC B,vO,K]
 obtain⟨c,e2,n2,g2,o2,f2⟩:=dK n1 [aC N,uO,Y]
 have bx:=λa:H=>bV a (v:= aC B) (u:=vO) (w:=K) rfl b8 b9
 have a6:=λa:H=>bV a (v:= aC N) (u:=uO) (w:=Y) rfl W O
 have F2:=f1.trans f2
 have gA:c.get A=aF [aC B,vO,K]:=by rw[o2 _ om];exact g1
 have a0: ∀a,Fr c a->a.cell A 0=some (aC B):=λa f=>by rw[f.cell om,H.cell_of gA];rfl
 have a1: ∀a,Fr c a->a.cell A 1=some vO:=λa f=>by rw[f.cell om,H.cell_of gA];rfl
 have a2: ∀a,Fr c a->a.cell A 2=some K:=λa f=>by rw[f.cell om,H.cell_of gA];rfl
 have b0: ∀a,Fr c a->a.cell (A+1) 0=some (aC N):=λa f=>by rw[f.cell om,H.cell_of g2];rfl
 have b1: ∀a,Fr c a->a.cell (A+1) 1=some uO:=λa f=>by rw[f.cell om,H.cell_of g2];rfl
 have b2: ∀a,Fr c a->a.cell (A+1) 2=some Y:=λa f=>by rw[f.cell om,H.cell_of g2];rfl
 have r2:=Fr.refl c
 by_cases hd:B=N
 case neg=>
  have e3:=cI hd;simp(disch:=omega)only[go_sem,rZ,aE,bx,a6,hA,Z,n1,e2,a0 c r2,b0 c r2,e3,xX];exact⟨by rw[bI];exact λx=>hd x.1,F2⟩
 have e3:decide (B≠N)=false:=bI (by simpa using hd)
 simp(disch:=omega)only[go_sem,rZ,aE,bx,a6,hA,Z,n1,e2,a0 c r2,b0 c r2,a1 c r2,b1 c r2,e3]
 have mem: ∀{l:List (List Int)},(∀i,i<l.length->(l.getD i []).length<1000000)-> ∀x∈l,x.length<1000000:=λhl x s=>by
  obtain⟨i,hi,rfl⟩:=Ad.1 s;have:=hl i hi;rwa [List.getD,dD hi] at this
 refine (Vw vO uO O1 O2 c (sO.mono F2) (tO.mono F2) c0.1 a5.1 (mem c0.2) (mem a5.2)).mono ?_
 rintro _ h3 ⟨rfl,f3⟩
 obtain⟨wR,a9,aR,_⟩:=sR
 obtain⟨zR,z,b5,_⟩:=tR
 have d0:=Q.1
 have d3:=U.1
 have d4:=aN.length aR
 have d5:=aN.length b5
 have r:bL K=some (aC (b.length:Int)):=by unfold bL;rw[SV.len a9 (n:=b.length) om om];rfl
 have a3:bL Y=some (aC (d.length:Int)):=by unfold bL;rw[SV.len z (n:=d.length) om om];rfl
 have F3:=F2.trans f3
 by_cases hO:O1=O2
 case neg=>
  have e4:=bI hO;simp(disch:=omega)only[go_sem,e4,xX];exact⟨by rw[bI];exact λx=>hO x.2.1,F3⟩
 have e4:=cI hO
 by_cases hl:(b.length:Int)=(d.length:Int)
 case neg=>
  have e5:=cI hl;simp(disch:=omega)only[go_sem,e4,a2 h3 f3,b2 h3 f3,r,a3,e5];exact⟨by rw[bI];exact λx=>hl (by rw[x.2.2]),F3⟩
 have e5:decide ((b.length:Int)≠(d.length:Int))=false:=bI (by simpa using hl)
 have c5:b.length=d.length:=om
 obtain⟨id,c7,sh,c4,hc⟩:=SV.shape a9 b.length om om
 obtain⟨c3,a4,c9,b6,c6⟩:=SV.shape z d.length om om
 simp(disch:=omega)only[go_sem,e4,a2 h3 f3,b2 h3 f3,r,a3,e5]
 refine aI (λk' G a=> ∃(i:Nat),(∃g:Nat->V,G= [g 0,g 1,.ptr A 0,.ptr (A+1) 0,g 4,aC i,g 6,g 7,g 8])/\i<=b.length/\(∀j,j<i->b.getD j []=d.getD j [])/\Fr h3 a/\k'=b.length-i) b.length
  ⟨0,aB rfl,iB _,λj hj=>om,Fr.refl h3,rfl⟩ ?_
 rintro k' G a ⟨i,⟨g,rfl⟩,hi,hs,F,rfl⟩
 have o:=f3.trans F
 by_cases b3:(i:Int)<(b.length:Int)
 case neg=>
  have Z:=bI b3;obtain rfl:i=b.length:=om
  simp(disch:=omega)only[go_sem,a2 a o,r,Z]
  have:b=d:=by
   refine List.ext_getElem c5 λj h1 c=>?_
   have:=hs j h1;rwa [List.getD,dD h1,List.getD,dD c] at this
  exact⟨by rw[cI ⟨hd,hO,this⟩],F3.trans F⟩
 have Z:=cI b3
 have L:i<b.length:=om
 have y: ∀s,Fr h s->s.cell id (c7+i)=some (wR.getD i .undef):=λs f=>by
  rw[f.cell (c4 om),hc i om];simp [List.getD,show i<wR.length by omega]
 have m: ∀s,Fr h s->s.cell c3 (a4+i)=some (zR.getD i .undef):=λs f=>by
  rw[f.cell (b6 om),c6 i om];simp [List.getD,show i<zR.length by omega]
 have gg: ∀{ws:List V} {R:List (List (List Int))},aN (SR h) ws R->i<R.length->SR h (ws.getD i .undef) (R.getD i []):=λ{ws R} al a8=>by
  have h1:=aN.length al;have:=aN.get al i om a8;rw[List.getD,List.getD,dD om,dD a8];exact this
 have s1:=gg aR L
 have s2:=gg b5 om
 generalize wR.getD i .undef=va at y s1
 generalize zR.getD i .undef=vb at m s2
 have b7:dI va va=true:=by obtain⟨_,t,_⟩:=s1;exact t.dI
 have a7:dI vb vb=true:=by obtain⟨_,t,_⟩:=s2;exact t.dI
 have Fh:=F3.trans F
 simp(disch:=omega)only[go_sem,a2 a o,b2 a o,r,Z,sh.ixa,c9.ixa,y a Fh,m a Fh]
 refine (Un va vb _ _ _ (s1.mono (Fh.trans ((Fr.refl a).bH om))) (s2.mono (Fh.trans ((Fr.refl a).bH om))) (Q.2 i L).1 (U.2 i om).1 (mem (Q.2 i L).2) (mem (U.2 i om).2)).mono ?_
 rintro _ q ⟨rfl,c8⟩
 have f4:Fr a q:=((Fr.refl a).bH om).trans c8
 have p:=o.trans f4
 have k:=Fh.trans f4
 by_cases he:b.getD i []=d.getD i []
 ·have P:decide (b.getD i []=d.getD i [])=true:=cI he
  simp(disch:=omega)only[go_sem,P,a2 q p,b2 q p,y q k,m q k,b7,a7,b4,J]
  rw[fJ i]
  refine⟨b.length-(i+1),om,i+1,aB rfl,om,λj hj=>?_,F.trans f4,rfl⟩
  by_cases e:j=i
  ·rw[e];exact he
  ·exact hs j om
 ·have P:decide (b.getD i []=d.getD i [])=false:=bI he
  simp(disch:=omega)only[go_sem,P,a2 q p,b2 q p,y q k,m q k,b7,a7,b4,J]
  exact⟨by rw[bI];exact λx=>he (by rw[x.2.2]),k⟩
set_option maxRecDepth 100000
theorem Gq {W:Nat->Prop}(vc:V)(n:Nat)(O:LN)(R:jJ)(G:List Nat->Prop)(h:H)(d:GC W h vc n O R G):
  Ev T 96 [vc] h (λv h'=>SP h' v R.flatten/\Fr h h'):=by
 obtain⟨Z,r,e,sO,sR⟩:=d.ch
 subst e
 refine dW kT rfl ?_
 have t:Z.one=true:=BX sO
 have y:r.one=true:=Up sR
 obtain⟨J,l,aR,_⟩:=sR
 have n7:=d.n7
 have lR:=d.isc.lr
 have lw:=aN.length aR
 rw[iA,lR] at lw
 obtain⟨A,hA⟩:=exI h.next
 obtain⟨k,e1,n1,g1,o1,B⟩:=dK hA [aC n,Z,r]
 have bx:=bV h (v:= aC n) (u:=Z) (w:=r) rfl t y
 have z:bL r=some (aC n):=by unfold bL;rw[SV.len l (n:=n) om om];rfl
 obtain⟨id,p,sh,N,hc⟩:=SV.shape l n om om
 have a2: ∀b,Fr k b->b.cell A 2=some r:=λb f=>by rw[f.cell om,H.cell_of g1];rfl
 have rl: ∀i,i<n->(R.getD i []).length<=n/\0<(R.getD i []).length:=λi hi=>by
  refine⟨?_,(NQ d.cY d.isc hi).1⟩;rw[d.isc.rl i hi];have:=tK (λx hx=>d.cY.bF hx) hi (d.isc.asc i hi) (d.isc.mem i hi);omega
 have fl: ∀i,i<=n->((R.take i).flatten).length<=i*n:=λi hi=>by
  induction i with
  |zero=>simp
  |succ i ih=>
   have k:=(rl i om).1;rw[eY [] om,List.flatten_append,iV,Nat.succ_mul];have:=ih om;simp only[List.flatten_cons,List.flatten_nil,tZ];omega
 simp(disch:=omega)only[go_sem,kT,aE,bx,hA,e1]
 refine aI (λk' j b=> ∃(i:Nat) (U:V) (a:List V),(∃g:Nat->V,j= [g 0,.ptr A 0,g 2,U,aC i,g 5])/\i<=n/\dH b U 1 a k.next/\aN (SI h) a (((R.take i).flatten).map zi)/\Fr k b/\k'=n-i) n
  ⟨0,.aD, [],aB rfl,iB _,dH.aD _ _ _,trivial,Fr.refl k,rfl⟩ ?_
 rintro k' j b ⟨i,U,a,⟨g,rfl⟩,hi,Y,K,F,rfl⟩
 by_cases o:(i:Int)<(n:Int)
 case neg=>
  have Q:=bI o;obtain rfl:i=n:=om
  simp(disch:=omega)only[go_sem,a2 b F,z,Q];rw[Ro om] at K;exact⟨⟨a,Y.sv,K.mono λ_ _ s=>s.mono (B.trans F)⟩,B.trans F⟩
 have Q:=cI o
 have L:i<n:=om
 have cc:b.cell id (p+i)=some (J.getD i .undef):=by
  rw[(B.trans F).cell (N om),hc i om];simp [List.getD,show i<J.length by omega]
 have sr:SR h (J.getD i .undef) ((R.getD i []).map zi):=by
  have h2:=aN.get aR i om (by rw[iA];omega);rw[List.getElem_map] at h2;rw[List.getD,List.getD,dD om,dD om];exact h2
 generalize J.getD i .undef=va at cc sr
 obtain⟨wi,si,ai⟩:=sr
 have P:=aN.length ai
 rw[iA] at P
 have hr:=rl i L
 have a0:=aN.length K
 rw[iA] at a0
 have a3:=fl i om
 have a1:i*n<=7*7:=Nat.mul_le_mul om n7
 have Fh:=B.trans F
 obtain⟨hd,ad,pd⟩:=Y.push (bytes:=24) (si.mono Fh) (n:=a.length) (m:=(R.getD i []).length) om om om hr.2 om
 simp(disch:=omega)only[go_sem,a2 b F,z,Q,sh.ixa,cc,ad]
 rw[fJ i]
 have nF:=F.next
 have nd:=pd.next
 refine⟨n-(i+1),om,i+1,_,a++wi,aB rfl,om,pd.own om om om,?_,⟨om,λq hq=>?_⟩,rfl⟩
 ·rw[eY [] om,List.flatten_append,List.map_append]
  simp only[List.flatten_cons,List.flatten_nil,tZ]
  exact aN.append K ai
 ·rw[pd.old q om (λid p n' c e e2=>by have:=(Y.in _ _ _ _ e).2.1;omega)]
  exact F.get q hq
theorem XC (a b:Nat)(h:H)(m:a<1000000)(n:b<1000000):Ev T 243 [aC a,aC b] h (λv h'=>v= aC (Nat.gcd a b:Nat)/\Fr h h'):=by
 refine dW Eo rfl ?_;simp(disch:=omega)only[go_sem,Eo,aE];refine aI (λc d j=> ∃(x y:Nat),(∃g:Nat->V,d= [aC x,aC y,g 2,g 3])/\x<1000000/\y<1000000/\Nat.gcd x y=Nat.gcd a b/\Fr h j/\c=y) b
  ⟨a,b,aB rfl,m,n,rfl,Fr.refl h,rfl⟩ ?_
 rintro c d j ⟨x,y,⟨g,rfl⟩,q,o,k,F,l⟩;subst l
 by_cases f:(c:Int)=0
 ·have e:decide ((c:Int)≠0)=false:=bI (by simpa using f)
  obtain rfl:c=0:=om
  simp(disch:=omega)only[go_sem,e];rw[←k,Nat.gcd_zero_right];exact⟨rfl,F⟩
 ·have e:=cI f
  have p:(x:Int).tmod (c:Int)=((x%c:Nat):Int):=SG x c;have i:=Nat.mod_lt x (show c>0 by omega);simp(disch:=omega)only[go_sem,e,f,p];exact⟨x%c,i,c,x%c,aB rfl,o,om,by rw[Nat.gcd_comm,←Nat.gcd_rec,Nat.gcd_comm];exact k,F.bH om,rfl⟩
theorem Yi {ks:List Cls.KE}{i:Nat}(hi:i<ks.length):(sX ks)[i*3]? =some ks[i].rep/\(sX ks)[i*3+1]? =some (aC (ks[i].ord:Int))/\(sX ks)[i*3+2]? =some (aC (ks[i].size:Int)):=by
 induction ks generalizing i with
 |nil=>simp at hi
 |cons a r ih=>
  have e:sX (a::r)= [a.rep,aC (a.ord:Int),aC (a.size:Int)]++sX r:=rfl
  cases i with
  |zero=>exact⟨rfl,rfl,rfl⟩
  |succ i=>
   have b:=ih (i:=i) (by simpa using hi);rw[e,show (i+1)*3=i*3+3 by omega];refine⟨?_,?_,?_⟩
   ·rw[Jg (by simp)];exact b.1
   ·rw[Jg (by simp)];exact b.2.1
   ·rw[Jg (by simp)];exact b.2.2
end Go.Proofs.YtcdbmkidaecdiaaGreat
namespace Go.Pm
set_option maxRecDepth 100000
section
variable {n:Nat} {t:rX}
theorem pQ.gt (T:pQ n t){i p:Nat}{y:List Nat}(h:t i p=some y):i<p:=by
 have Y:=T.bF _ _ _ h;have F:=T.fix _ _ _ h;obtain⟨b,c,d⟩:=T.lt _ _ _ h;have m:=T.maps _ _ _ h;rcases Nat.lt_or_ge p i with a|a
 ·exact absurd (Y.inj b c (m.trans (F p a).symm)) oq
 ·omega
def eR (t:rX)(i p:Nat):Al:=(List.range p).filterMap (t i)
def eB (n:Nat)(t:rX)(i:Nat):Al:=(List.range i).flatMap λi=>eR t i n
theorem GI (i p:Nat):eR t i (p+1)=eR t i p++(t i p).toList:=by
 unfold eR;rw[List.range_succ,List.filterMap_append];cases h:t i p<;>simp [h]
theorem IM (i:Nat):eB n t (i+1)=eB n t i++eR t i n:=by
 unfold eB;rw[List.range_succ,List.flatMap_append];simp
theorem Vm:eB n t n=fZ n t 0:=by
 unfold eB fZ eR;simp
theorem zD (T:pQ n t):(fZ n t 0).Nodup:=by
 have d: ∀i p a j y,t i p=some y->t a j=some y->i=a/\p=j:=λi p a j y f g=>by
  have s:=T.gt f;have u:=T.gt g;have l:=T.fix _ _ _ f;have m:=T.fix _ _ _ g;have q:=T.maps _ _ _ f;have r:=T.maps _ _ _ g
  have e:i=a:=by
   rcases Nat.lt_trichotomy i a with h|h|h
   ·have:=m i h;omega
   ·exact h
   ·have:=l a h;omega
  subst e;exact⟨rfl,q.symm.trans r⟩
 rw[←Vm];unfold eB;rw[List.Nodup,List.pairwise_flatMap];refine⟨λi _=>?_,?_⟩
 ·unfold eR
  rw[List.pairwise_filterMap];refine (List.nodup_range (n:=n)).imp ?_;intro p j b y k o c e;subst e;exact b (d _ _ _ _ _ k c).2
 ·refine (List.nodup_range (n:=n)).imp ?_
  intro i a b y k o c e;subst e;obtain⟨p,_,f⟩:=List.mem_filterMap.1 k;obtain⟨j,_,g⟩:=List.mem_filterMap.1 c;exact b (d _ _ _ _ _ f g).1
def frF (n:Nat)(t:rX)(l:Al):Al:=(fZ n t 0).filter λy=>decide (y∉l)
def clF (n:Nat)(t:rX)(x:List Nat)(l:Al):Al:=if (fZ n t 0).length<(fZ n (jK t n x) 0).length then l++frF n (jK t n x) l else l
structure Ed (n:Nat)(L:List Nat->Prop)(t:rX)(l:Al):Prop where
 tl:Na n L t
 nd:l.Nodup
 mem: ∀y,y∈l↔y∈fZ n t 0
variable {L:List Nat->Prop} {l:Al}
theorem Ed.bF (c:Ed n L t l): ∀y∈l,aY n y:=λy a=>c.tl.tab.OK y ((c.mem y).1 a)
theorem Ed.bound (c:Ed n L t l):l.length<=n^n:=Cu c.nd c.bF
theorem Ed.start (c:Na n L t):Ed n L t (fZ n t 0):=⟨c,zD c.tab,λ_=>Iff.rfl⟩
theorem Zf {a:rX}(s:Sub t a): ∀y,y∈fZ n t 0->y∈fZ n a 0:=λy e=>by
 obtain⟨i,p,b,d,c,f⟩:=gO.1 e;exact gO.2 ⟨i,p,b,d,c,s _ _ _ f⟩
theorem Ed.step (c:Ed n L t l)(B: ∀g,L g->aY n g){x:List Nat}(A:bM n L x):
  Ed n L (jK t n x) (clF n t x l)/\Sub t (jK t n x)/\ins (jK t n x) n 0 x=none/\ ∃m,clF n t x l=l++m:=by
 obtain⟨a,f,P⟩:=c.tl.ins B A
 have u:=zD a.tab
 refine⟨?_,f,P,?_⟩
 ·cases h:ins t n 0 x with
  |none=>
   have e:jK t n x=t:=by unfold jK;rw[h]
   unfold clF;rw[e,if_neg (Nat.lt_irrefl _)];exact c
  |some q=>
   obtain⟨i,r⟩:=q;have e:jK t n x=put t i (r.getD i 0) r:=by unfold jK;rw[h]
   obtain⟨b1,F,Q,J,b5,N,_⟩:=Ax c.tl.tab n 0 x i r oq (A.bF B) (λk Z=>oq) h;have G:r∈fZ n (jK t n x) 0:=gO.2 ⟨i,r.getD i 0,Nat.zero_le _,F,Q.fX F,by rw[e];unfold put;rw[if_pos ⟨rfl,rfl⟩]⟩
   have v:r∉fZ n t 0:=λh=>by
    obtain⟨j,q,_,_,_,d⟩:=gO.1 h;have p:=f _ _ _ d;have Y:=a.tab.gt p;have K:=a.tab.fix _ _ _ p;have R:=a.tab.maps _ _ _ p;have U:jK t n x i (r.getD i 0)=some r:=by rw[e];unfold put;rw[if_pos ⟨rfl,rfl⟩]
    have g2:=a.tab.gt U
    have o:i=j:=by
     rcases Nat.lt_trichotomy i j with h|h|h
     ·have:=K i h;omega
     ·exact h
     ·have:=J j h;omega
    subst o;rw[←R] at d;rw[N] at d;cases d
   have s:(fZ n t 0).length<(fZ n (jK t n x) 0).length:=by
    have:(r::fZ n t 0).length<=(fZ n (jK t n x) 0).length:=List.Nodup.length_le_of_subset (List.nodup_cons.2 ⟨v,zD c.tl.tab⟩) (λy b=>by
     rcases List.mem_cons.1 b with rfl|b
     ·exact G
     ·exact Zf f y b)
    rw[List.length_cons] at this;omega
   unfold clF;rw[if_pos s];refine⟨a,List.nodup_append.2 ⟨c.nd,u.filter _,λy b z W O=>?_⟩,λy=>?_⟩
   ·subst O
    have:=(List.mem_filter.1 W).2;simp at this;exact this b
   ·rw[List.mem_append]
    unfold frF;rw[List.mem_filter];constructor
    ·rintro (h|h)
     ·exact Zf f y ((c.mem y).1 h)
     ·exact h.1
    ·intro h
     by_cases w:y∈l
     ·exact .inl w
     ·exact .inr ⟨h,by simpa using w⟩
 ·unfold clF
  split
  ·exact⟨_,rfl⟩
  ·exact⟨[],(List.append_nil _).symm⟩
theorem Ed.gen (c:Ed n L t l): ∀y∈l,bM n L y:=λy a=>c.tl.gen y ((c.mem y).1 a)
def Pr (n:Nat)(t:rX)(l:Al)(a b:Nat):Prop:=ins t n 0 (aM (l.getD a []) (l.getD b []))=none
theorem Pr.mono {c:rX}{m:Al}{a b:Nat}(h:Pr n t l a b)(s:Sub t c)(d:a<l.length)(g:b<l.length):Pr n c (l++m) a b:=by
 have e: ∀k,k<l.length->(l++m).getD k []=l.getD k []:=λk f=>by rw[List.getD,List.getD,List.getElem?_append_left f]
 unfold Pr;rw[e a d,e b g];exact Gz s _ _ _ h
theorem Ed.closed (c:Ed n L t l)(h: ∀a b,a<l.length->b<l.length->Pr n t l a b):Km n t:=λa b e k=>by
 obtain⟨i,hi,f⟩:=List.mem_iff_getElem.1 ((c.mem a).2 e);obtain⟨j,d,m⟩:=List.mem_iff_getElem.1 ((c.mem b).2 k);have:=h i j hi d;unfold Pr at this;have g:l.getD i []=a:=by rw[List.getD,List.getElem?_eq_getElem hi,←f];rfl
 have o:l.getD j []=b:=by rw[List.getD,List.getElem?_eq_getElem d,←m];rfl
 rwa [g,o] at this
def Ea (t:rX)(i k:Nat):List Nat:=(List.range k).filter λp=>p==i||(t i p).isSome
theorem DH (T:pQ n t)(i:Nat):Ea t i i= []:=by
 unfold Ea;refine List.filter_eq_nil_iff.2 λp a=>?_
 have:=List.mem_range.1 a;simp only[Bool.or_eq_true,beq_iff_eq,not_or];refine⟨oq,λh=>?_⟩;obtain⟨y,b⟩:=Option.isSome_iff_exists.1 h;have:=T.gt b;omega
theorem OA (i k:Nat):Ea t i (k+1)=Ea t i k++if k=i∨(t i k).isSome then [k] else []:=by
 unfold Ea;rw[List.range_succ,List.filter_append]
 by_cases h:k=i
 ·subst h;simp
 ·have e:(k==i)=false:=by simpa using h
  cases h2:t i k<;>simp [h,h2,List.filter,e]
theorem QE (i:Nat):Ea t i n=(lF n t i).orb:=rfl
theorem TZ (i k:Nat):(Ea t i k).Pairwise (· < ·):=List.pairwise_lt_range.filter _
end
end Go.Pm
namespace Go.Proofs.YtcdbmkidaecdiaaGreat
open Go Go.Ay Go.Pm
set_option maxRecDepth 100000
theorem Oy (h:H)(x:Int):mH h 1 [aC 0] 1 [(0,1,aC x)]=some (.sl h.next 0 1 (.kn 1),h.new (.cells false (ints [x]))):=by
 have e:dP [aC 0] 1= [aC 0]:=rfl;simp [mH,iK,e,putAt,V.cells,V.one,ints]
theorem XU {h:H}{v:V}{sz b:Nat}{ws:List V}(o:dH h v sz ws b): ∀id off len cap,v= .sl id off len cap->b<=id:=by
 rcases o with ⟨rfl,_⟩|⟨id,n,cap,a,rfl,_,_,c,_⟩
 ·intro _ _ _ _ e;cases e
 ·intro _ _ _ _ e;cases e;exact c
theorem Mo (l:List Nat)(x:Nat):zi (l++ [x])=zi l++ [(x:Int)]:=by simp [zi]
theorem Ku {l:List Nat}{i:Nat}(hi:i<l.length):l.take (i+1)=l.take i++ [l.getD i 0]:=by
 rw[List.take_add_one,dD hi,cW hi];rfl
theorem vT (u w:V)(a b:List Nat)(h:H)(hN:a.length<=1000)(P:SI h u (zi a))(Y:SI h w (zi b))(hr: ∀i,i<a.length->a.getD i 0<b.length):
  Ev T 40 [u,w] h (λv h'=>SI h' v (zi (aM a b))/\Fr h h'/\ ∀id off len cap,v= .sl id off len cap->h.next<=id):=by
 refine dW Rz rfl ?_
 have N:=P.lens
 rw[aS] at N
 obtain⟨id,off,R,s,O⟩:=P.open
 rw[aS] at R s O
 obtain⟨B,l,z,e,y⟩:=Y.open
 rw[aS] at z e y
 simp(disch:=omega)only[go_sem,Rz,aE]
 refine aI (λU f K=> ∃(i:Nat) (o:V),(∃j:Nat->V,f= [u,w,j 2,o,aC i,j 5])/\i<=a.length/\dH K o 1 (ints (zi ((aM a b).take i))) h.next/\Fr h K/\U=a.length-i) a.length
  ⟨0,.aD,aB rfl,iB _,dH.aD _ _ _,Fr.refl h,rfl⟩ ?_
 rintro U f c ⟨i,o,⟨jk,rfl⟩,hi,A,F,rfl⟩
 simp(disch:=omega)only[go_sem,N]
 by_cases x:(i:Int)<(a.length:Int)
 ·rw[cI x]
  have d:i<a.length:=om
  have ci:c.cell id (off+i)=some (aC (a.getD i 0:Nat)):=by rw[F.cell (s om),O i d];congr 2;simp [zi,d]
  have r:=hr i d
  have Q:=dE (b:=b) d
  generalize hk:a.getD i 0=k at ci r Q
  have ck:c.cell B (l+k)=some (aC (b.getD k 0:Nat)):=by rw[F.cell (e om),y k r];congr 2;simp [zi,r]
  simp(disch:=omega)only[go_sem,R.ixa,ci,z.ixa,ck,Oy]
  have g:Fr c (c.new (.cells false (ints [((b.getD k 0:Nat):Int)]))):=(Fr.refl c).new _
  have p:(c.new (.cells false (ints [((b.getD k 0:Nat):Int)]))).get c.next=some (.cells false (ints [((b.getD k 0:Nat):Int)])):=H.aL ..
  have L:(c.new (.cells false (ints [((b.getD k 0:Nat):Int)]))).next=c.next+1:=H.aW ..
  generalize c.new (.cells false (ints [((b.getD k 0:Nat):Int)]))=G at*
  have W:SV G (.sl c.next 0 1 (.kn 1)) 1 (ints [((b.getD k 0:Nat):Int)]):=SV.all rfl om p _
  have nF:=F.next
  have hl:(aM a b).length=a.length:=fQ a b
  obtain⟨Z,a0,J,t⟩:=(A.fr g).app (bytes:=8) (n:=i) (m:=1) om W (by rw[aP,aS,zO,tW];omega) rfl om om
  simp(disch:=omega)only[go_sem,J]
  have q:=t.own
  rw[←rP,←Q,←Mo,←Ku om] at q
  rw[fJ i]
  exact⟨a.length-(i+1),om,i+1,Z,aB rfl,om,q,t.fr h (F.trans g) (dT _),rfl⟩
 rw[bI x]
 obtain rfl:i=a.length:=om
 simp(disch:=omega)only[go_sem]
 rw[Ro (by rw[fQ];omega)] at A
 exact⟨A.sv,F,XU A⟩
theorem Vk (n:Nat)(h:H)(J:n<=1000):
  Ev T 91 [aC n] h (λv h'=>SI h' v (zi (aX n))/\Fr h h'/\ ∀id off len cap,v= .sl id off len cap->h.next<=id):=by
 refine dW Ds rfl ?_
 simp(disch:=omega)only[go_sem,Ds,aE]
 refine aI (λt b r=> ∃(i:Nat) (o:V),(∃j:Nat->V,b= [aC n,j 1,o,aC i,j 4])/\i<=n/\dH r o 1 (ints (zi ((aX n).take i))) h.next/\Fr h r/\t=n-i) n
  ⟨0,.aD,aB rfl,iB _,dH.aD _ _ _,Fr.refl h,rfl⟩ ?_
 rintro t b a ⟨i,o,⟨B,rfl⟩,hi,k,F,rfl⟩
 simp(disch:=omega)only[go_sem]
 by_cases d:(i:Int)<(n:Int)
 ·rw[cI d]
  have l:i<n:=om
  simp(disch:=omega)only[go_sem,Oy]
  have c:Fr a (a.new (.cells false (ints [(i:Int)]))):=(Fr.refl a).new _
  have e:(a.new (.cells false (ints [(i:Int)]))).get a.next=some (.cells false (ints [(i:Int)])):=H.aL ..
  have s:(a.new (.cells false (ints [(i:Int)]))).next=a.next+1:=H.aW ..
  generalize a.new (.cells false (ints [(i:Int)]))=q at*
  have u:SV q (.sl a.next 0 1 (.kn 1)) 1 (ints [(i:Int)]):=SV.all rfl om e _
  have A:=F.next
  have G:=iH n
  obtain⟨x,w,p,g⟩:=(k.fr c).app (bytes:=8) (n:=i) (m:=1) om u (by rw[aP,aS,zO,tW];omega) rfl om om
  simp(disch:=omega)only[go_sem,p]
  have f:=g.own
  have z:=fM l
  have y:zi ((aX n).take i)++ [(i:Int)]=zi ((aX n).take (i+1)):=by rw[Ku om,Mo,z]
  rw[←rP,y] at f
  rw[fJ i]
  exact⟨n-(i+1),om,i+1,x,aB rfl,om,f,g.fr h (F.trans c) (dT _),rfl⟩
 rw[bI d]
 obtain rfl:i=n:=om
 simp(disch:=omega)only[go_sem]
 rw[Ro (by rw[iH];omega)] at k
 exact⟨k.sv,F,XU k⟩
theorem HJ (u:V)(n:Nat)(a:List Nat)(h:H)(W:n<=1000)(A:aY n a)(J:SI h u (zi a)):
  Ev T 39 [u] h (λv h'=>Yz h h' v (bZ a)):=by
 refine dW Ue rfl ?_
 have g:=A.len
 have w:=J.lens
 rw[aS,g] at w
 obtain⟨id,off,L,o,B⟩:=J.open
 rw[aS,g] at L o B
 simp(disch:=omega)only[go_sem,Ue,aE,w,tY h n om]
 have l:Fr h (h.new (.cells false (rc n λ_=> aC 0))):=(Fr.refl h).new _
 have f:(h.new (.cells false (rc n λ_=> aC 0))).get h.next=some (.cells false (rc n λ_=> aC 0)):=H.aL ..
 have d:(h.new (.cells false (rc n λ_=> aC 0))).next=h.next+1:=H.aW ..
 generalize h.new (.cells false (rc n λ_=> aC 0))=U at*
 obtain⟨S,m⟩:=exI h.next
 rw[m] at f d
 rw[m]
 refine aI (λN c t=> ∃(i:Nat),(∃j:Nat->V,c= [u,.aD,.sl S 0 n (.kn n),aC i,j 4])/\i<=n/\
   t.get S=some (.cells false (rc n λj=>if a.idxOf j<i then aC (a.idxOf j:Nat) else aC 0))/\t.next=S+1/\Fr h t/\N=n-i) n
  ⟨0,aB rfl,iB _,by rw[f];rfl,d,l,rfl⟩ ?_
 clear f l d
 rintro N c x ⟨i,⟨Y,rfl⟩,hi,K,G,F,rfl⟩
 simp(disch:=omega)only[go_sem,w]
 by_cases p:(i:Int)<(n:Int)
 ·rw[cI p]
  have b:i<n:=om
  have ci:x.cell id (off+i)=some (aC (a.getD i 0:Nat)):=by rw[F.cell (o om),B i b];congr 2;simp [zi,g,b]
  have r:=A.fX b
  have y:a.idxOf (a.getD i 0)=i:=A.inj (A.idx r).1 b (A.idx r).2
  generalize R:a.getD i 0=k at ci r y
  have Q:decide ((k:Int)<0)=false:=bI om
  have s:decide ((n:Int)<=(k:Int))=false:=bI om
  have z:=bT (vs:=rc n λj=>if a.idxOf j<i then aC (a.idxOf j:Nat) else aC 0) (off:=k) (by rw[iQ];exact r) x S (aC i)
  rw[lH] at z
  simp(disch:=omega)only[go_sem,L.ixa,ci,Q,s,K,z]
  rw[fJ i]
  refine⟨n-(i+1),om,i+1,aB rfl,om,?_,G,F.set om _,rfl⟩
  congr 2
  refine dJ λj q=>?_
  by_cases e:j=k
  ·rw[bJ e,e,y,bJ om]
  ·rw[bU e]
   have P:a.idxOf j≠i:=λO=>e (by rw[←(A.idx q).2,O,R])
   by_cases s:a.idxOf j<i
   ·rw[bJ s,bJ om]
   ·rw[bU s,bU om]
 rw[bI p]
 obtain rfl:i=n:=om
 simp(disch:=omega)only[go_sem]
 refine⟨by rw[jU,g,m],?_,by rw[m];exact G,F⟩
 rw[m,K]
 congr 2
 rw[←Sq,jU,g]
 exact dJ λj q=>by rw[bJ (A.idx q).1,zL (by rw[g];exact q)]
structure Ji (b:Nat)(W:Nat->Prop)(h:H)(n:Nat)(tv:V)(ρ:Nat->Nat)(F:Nat->Nat->V)(t:rX):Prop where
 sv:SV h tv 1 (rc n λi=> .sl (ρ i) 0 n (.kn n))
 off:Ej W tv
 row: ∀i,i<n->h.get (ρ i)=some (.cells false (rc n (F i)))
 wb: ∀i,i<n->W (ρ i)
 Pg: ∀id,W id->id<h.next
 low: ∀id,W id->b<=id
 inj: ∀i j,i<n->j<n->ρ i=ρ j->i=j
 ent: ∀i p,i<n->p<n->Slot W h (F i p) (t i p)
section
variable {b:Nat} {W:Nat->Prop} {h h':H} {n:Nat} {tv:V} {ρ:Nat->Nat} {F:Nat->Nat->V} {t:rX}
theorem Ji.open (R:Ji b W h n tv ρ F t):bL tv=some (aC n)/\ ∃id off,Sl tv 1 n id off/\ ∀i,i<n->h.cell id (off+i)=some (.sl (ρ i) 0 n (.kn n)):=by
 have s:=R.sv;have e:(rc n λi=>V.sl (ρ i) 0 n (.kn n)).length=n:=iQ n _;refine⟨by unfold bL;rw[SV.len s (n:=n) om om];rfl,?_⟩;obtain⟨id,off,c,a,d⟩:=SV.shape s n om om;refine⟨id,off,c,λi hi=>?_⟩;rw[d i om,Nk hi]
theorem Ji.cell (R:Ji b W h n tv ρ F t){i p:Nat}(hi:i<n)(a:p<n):h.cell (ρ i) p=some (F i p):=tF (R.row i hi) a
theorem Ji.mono (R:Ji b W h n tv ρ F t)(f:Fr h h'):Ji b W h' n tv ρ F t:=
 ⟨R.sv.mono f,R.off,λi hi=>by rw[f.get _ (R.Pg _ (R.wb i hi))];exact R.row i hi,R.wb,λid a=>jM (R.Pg id a) f.next,R.low,R.inj,λi p hi c=>(R.ent i p hi c).fx (Fx.of f)⟩
theorem Ji.go (R:Ji b W h n tv ρ F t){W':Nat->Prop}(f:Fx W h h')(e: ∀i,i<n->h'.get (ρ i)=h.get (ρ i))(c: ∀id,id<h.next->W' id->W id)(a: ∀id,W id->W' id)(Pg: ∀id,W' id->id<h'.next)(low: ∀id,W' id->b<=id):Ji b W' h' n tv ρ F t:=
 ⟨R.sv.fx R.off f,R.off.kO R.sv c,λi hi=>by rw[e i hi];exact R.row i hi,λi hi=>a _ (R.wb i hi),Pg,low,R.inj,λi p hi d=>(R.ent i p hi d).go f c⟩
def WB (n:Nat)(ρ:Nat->Nat)(id:Nat):Prop:= ∃i,i<n/\ρ i=id
theorem Ji.wbx (R:Ji b W h n tv ρ F t){a c:H}(f:Fx (WB n ρ) a c):Fx W a c:=f.kO λid _ d=>by
 obtain⟨i,hi,rfl⟩:=d;exact R.wb i hi
def F2 (F:Nat->Nat->V)(i p:Nat)(v:V):Nat->Nat->V:=λj q=>if j=i/\q=p then v else F j q
theorem Ji.put (R:Ji b W h n tv ρ F t){i p:Nat}(hi:i<n)(g:p<n){c:V}{x:List Nat}(m:PV W h c x):
  ∃h',eU (h.get (ρ i)) h (ρ i) p [c]=some h'/\Ji b W h' n tv ρ (F2 F i p c) (Pm.put t i p x)/\Fx (WB n ρ) h h'/\h'.next=h.next:=by
 have l:=bT (vs:=rc n (F i)) (off:=p) (by rw[iQ];exact g) h (ρ i) c
 rw[R.row i hi,l,lH]
 refine⟨_,rfl,?_,Fx.set h (W:=WB n ρ) ⟨i,hi,rfl⟩ _,rfl⟩
 have f:Fx W h (h.set (ρ i) (some (.cells false (rc n λj=>if j=p then c else F i j)))):=Fx.set h (R.wb i hi) _
 refine⟨R.sv.fx R.off f,R.off,λj d=>?_,R.wb,R.Pg,R.low,R.inj,λj q d k=>?_⟩
 ·by_cases e:j=i
  ·subst e
   rw[H.aU]
   congr 2
   refine dJ λq _=>?_
   unfold F2
   by_cases a:q=p
   ·rw[bJ a,bJ ⟨rfl,a⟩]
   ·rw[bU a,bU (λh=>a h.2)]
  ·rw[H.aH h (λa=>e (R.inj _ _ d hi a)),R.row j d]
   congr 2
   refine dJ λq _=>?_
   unfold F2
   rw[bU (λh=>e h.1)]
 ·unfold F2 Pm.put
  by_cases e:j=i/\q=p
  ·rw[bJ e,bJ e]
   exact PV.fx m f
  ·rw[bU e,bU e]
   exact (R.ent j q d k).fx f
theorem PV.fresh {v:V}{l:List Nat}(s:SI h' v (zi l))(c: ∀id off len cap,v= .sl id off len cap->h.next<=id)(d: ∀id,W id->id<h.next):PV W h' v l:=by
 refine⟨s,?_⟩
 cases v with
 |sl id off len cap=>exact λa=>by have:=c _ _ _ _ rfl;have:=d id a;omega
 |_=>trivial
theorem Slot.nil {v:V}(s:Slot W h v none):v= .aD:=s
end
theorem Tf (b:Nat)(W:Nat->Prop)(h:H)(n:Nat)(tv:V)(ρ:Nat->Nat)(F:Nat->Nat->V)(t:rX)(vx:V)(x:List Nat)(hn:n<=64)(h0:0<n)(R:Ji b W h n tv ρ F t)(hx:PV W h vx x)(X:aY n x)(TI:pQ n t):
  Ev T 87 [tv,vx] h (λv h'=> ∃F',v= .bool (ins t n 0 x).isSome/\Ji b W h' n tv ρ F' (jK t n x)/\Fx (WB n ρ) h h'):=by
 refine dW rV rfl ?_
 obtain⟨O,id,a6,sh,_⟩:=R.open
 simp(disch:=omega)only[go_sem,rV,aE]
 refine aI (λk' e hh=> ∃(i:Nat) (y:List Nat) (s:V),(∃g:Nat->V,e= [tv,s,g 2,aC i,g 4,g 5,g 6,g 7])/\i<=n/\ins t (n-i) i y=ins t n 0 x/\PV W hh s y/\aY n y/\Fr h hh/\k'=n-i) n
  ⟨0,x,vx,aB rfl,iB _,rfl,hx,X,Fr.refl h,rfl⟩ ?_
 rintro k' e h2 ⟨i,y,s,⟨g,rfl⟩,hi,q,r,Y,f,rfl⟩
 have l:=R.mono f
 by_cases B:(i:Int)<(n:Int)
 case neg=>
  have u:=bI B;obtain rfl:i=n:=om
  simp(disch:=omega)only[go_sem,O,u];rw[Nat.sub_self] at q;have a:ins t i 0 x=none:=q.symm;refine⟨F,by rw[a];rfl,?_,Fx.of f⟩;unfold jK;rw[a];exact l
 have u:=cI B
 have c:i<n:=om
 obtain⟨a2,A,d,G,J⟩:=r.si.open
 rw[aS,Y.len] at d G J
 have ci:h2.cell a2 (A+i)=some (aC (y.getD i 0:Nat)):=by rw[J i c];congr 2;simp [zi,Y.len,c]
 have Q:=Y.fX c
 obtain⟨p,k⟩:=exI (y.getD i 0)
 rw[k] at ci Q
 have o:n-i=(n-(i+1))+1:=om
 rw[o] at q
 obtain⟨_,a5,a4,L,a3⟩:=l.open
 have cr:=a3 i c
 have U:=l.cell c Q
 have N:=l.ent i p c Q
 by_cases m:p=i
 ·have a:ins t (n-(i+1)) (i+1) y=ins t n 0 x:=by
   rw[←q]
   conv=>rhs;unfold ins
   rw[bJ (k.trans m)]
  have P:decide ((p:Int)=(i:Int))=true:=cI om;simp(disch:=omega)only[go_sem,O,u,d.ixa,ci,P];rw[fJ i];exact⟨n-(i+1),om,i+1,y,s,aB rfl,om,a,r,Y,f,rfl⟩
 have P:decide ((p:Int)=(i:Int))=false:=bI om
 have e3:decide ((p:Int)<0)=false:=bI om
 have e4:decide ((n:Int)<=(p:Int))=false:=bI om
 cases hto:t i p with
 |none=>
  rw[hto] at N;have a1:=N.nil;rw[a1] at U
  have a:ins t n 0 x=some (i,y):=by
   rw[←q];unfold ins;rw[bU (by rw[k];exact m),k,hto]
  obtain⟨h3,pt,R3,K,n3⟩:=l.put c Q r;simp(disch:=omega)only[go_sem,O,u,d.ixa,ci,P,e3,e4,L.ixa,cr,U,kP r.fG.1 r.fG.2,pt];have e5:jK t n x=Pm.put t i p y:=by unfold jK;rw[a];simp only;rw[k]
  refine⟨F2 F i p s,by rw[a];rfl,by rw[e5];exact R3,(Fx.of f).trans K (λ_ _ h=>h)⟩
 |some z=>
  rw[hto] at N;have Z:=TI.bF _ _ _ hto;have hz:PV W h2 (F i p) z:=N;have sn:=Hr hz (aY.ne h0 Z) false
  have a:ins t (n-(i+1)) (i+1) (aM y (bZ z))=ins t n 0 x:=by
   rw[←q]
   conv=>rhs;unfold ins
   rw[bU (by rw[k];exact m),k,hto]
  generalize F i p=vz at U hz sn;simp(disch:=omega)only[go_sem,O,u,d.ixa,ci,P,e3,e4,L.ixa,cr,U,sn];refine (HJ vz n z h2 om Z hz.si).mono ?_;rintro w h3 nw;have K:=nw.fr;have pw:=nw.pv (W:=W) (λhw=>by have:=l.Pg _ hw;omega);simp(disch:=omega)only[go_sem];refine (vT s w y (bZ z) h3 (by rw[Y.len];omega) (r.si.mono K) pw.si (λj hj=>by rw[jU,Z.len];exact Y.fX (by rw[←Y.len];exact hj))).mono ?_;rintro v h4 ⟨s4,f4,l4⟩;simp(disch:=omega)only[go_sem];rw[fJ i];exact⟨n-(i+1),om,i+1,_,v,aB rfl,om,a,PV.fresh s4 l4 (λid a0=>jM (l.Pg id a0) K.next),Y.mul Z.inv,(f.trans K).trans f4,rfl⟩
section
variable {h:H} {ws:List V} {l:LN} {k:Nat}
theorem vG.frb {a h':H}{x:V}{n m sz:Nat}{us:List V}(p:vG h x n m sz ws us h')(f:Fr a h){d:Nat}{g:List V}(o:dH h x d g a.next):Fr a h':=by
 have q:=f.next;refine⟨by rw[p.next];omega,λid b=>?_⟩;rw[p.old id om (λi j n c e r=>by have:=(o.in _ _ _ _ e).2.1;omega)];exact f.get id b
theorem Je {a:H}{d v:V}(o:dH h d 1 ws a.next)(f:Fr a h)(x:ws.length<1000000){bytes:Nat}(u:bytes<=24):
  ∃h2,zK (h.new (.cells false [v])) 1 bytes d (.sl h.next 0 1 (.kn 1))=some (.sl (h.next+1) 0 (ws.length+1) (.un 1),h2)/\dH h2 (.sl (h.next+1) 0 (ws.length+1) (.un 1)) 1 (ws++ [v]) a.next/\Fr a h2/\h2.next=h.next+2/\ ∀id,id<h.next->dR d id->h2.get id=h.get id:=by
 obtain⟨q,s,j,r,t,e⟩:=dK (h:=h) rfl [v]
 rw[s]
 have i:=o.fr e
 obtain⟨h2,p,c⟩:=i.push (bytes:=bytes) (SV.one om r (.kn 1)) (n:=ws.length) (m:=1) om rfl om om ⟨by
  have:(2*(ws.length+1)+1000)*bytes<=(2*(ws.length+1)+1000)*24:=Nat.mul_le_mul_left _ u
  omega,om⟩
 rw[j] at p
 have w:=f.next
 have g:=c.own om rfl (b:=a.next) om
 rw[j] at g
 have nx:=c.next
 exact⟨h2,p,g,vG.frb c (f.trans e) i,om,λid q h2=>by rw[c.old id om h2,t id om]⟩
theorem SC (t:rX)(i p:Nat):(eR t i p).length<=p:=by
 unfold eR;have:=List.length_filterMap_le (t i) (List.range p);rwa [Xf] at this
theorem Uv (n:Nat)(t:rX): ∀i,(eB n t i).length<=i*n
 |0=>by simp [eB]
 |i+1=>by
  rw[IM,iV,Nat.succ_mul];have:=Uv n t i;have:=SC t i n;omega
theorem yT (b:Nat)(W:Nat->Prop)(h:H)(n:Nat)(u:V)(ρ:Nat->Nat)(F:Nat->Nat->V)(t:rX)(hn:n<=64)(h0:0<n)(R:Ji b W h n u ρ F t)(TI:pQ n t):
  Ev T 130 [u] h (λv h'=> ∃ws,dH h' v 1 ws h.next/\dZ W h ws (fZ n t 0)/\Fr h h'):=by
 refine dW qF rfl ?_
 have r:=R.open.1
 simp(disch:=omega)only[go_sem,qF,aE]
 refine aI (λA c m=> ∃(i:Nat) (d:V) (ws:List V),(∃g:Nat->V,c= [u,g 1,d,aC i,g 4,g 5,g 6,g 7])/\i<=n/\dH m d 1 ws h.next/\dZ W h ws (eB n t i)/\Fr h m/\A=n-i) n
  ⟨0,.aD, [],aB rfl,iB _,dH.aD _ _ _,trivial,Fr.refl h,rfl⟩ ?_
 rintro A c h2 ⟨i,d,ws,⟨g,rfl⟩,hi,e,a,f,rfl⟩
 by_cases s:(i:Int)<(n:Int)
 case neg=>
  have L:=bI s;obtain rfl:i=n:=om
  simp(disch:=omega)only[go_sem,r,L];rw[Vm] at a;exact⟨ws,e,a,f⟩
 have L:=cI s
 have p:i<n:=om
 simp(disch:=omega)only[go_sem,r,L]
 refine uJ (λvs m=> ∃(d:V) (ws:List V),(∃g:Nat->V,vs= [u,g 1,d,aC i,g 4,g 5,g 6,g 7])/\dH m d 1 ws h.next/\dZ W h ws (eB n t (i+1))/\Fr h m) ?_ ?_
 ·refine aI (λA c m=> ∃(j:Nat) (d:V) (ws:List V),(∃g:Nat->V,c= [u,g 1,d,aC i,aC j,g 5,g 6,g 7])/\j<=n/\dH m d 1 ws h.next/\dZ W h ws (eB n t i++eR t i j)/\Fr h m/\A=n-j) n
   ⟨0,d,ws,aB rfl,iB _,e,by unfold eR;rw[List.range_zero,List.filterMap_nil,tZ];exact a,f,rfl⟩ ?_
  clear e a f hi g
  rintro A c K ⟨j,d,ws,⟨g,rfl⟩,hj,e,a,f,rfl⟩
  by_cases o:(j:Int)<(n:Int)
  case neg=>
   have J:=bI o;obtain rfl:j=n:=om
   simp(disch:=omega)only[go_sem,r,J];exact⟨d,ws,aB rfl,e,by rw[IM];exact a,f⟩
  have J:=cI o
  have q:j<n:=om
  have Y:=R.mono f
  obtain⟨_,a0,P,x,O⟩:=Y.open
  have U:=O i p
  have G:=Y.cell p q
  have B:=R.ent i j p q
  have Z:=aN.length a
  have l1:=Uv n t i
  have l2:=SC t i j
  have l3:i*n<=64*64:=Nat.mul_le_mul om hn
  rw[iV] at Z
  cases hto:t i j with
  |none=>
   rw[hto] at B;rw[B.nil] at G;simp(disch:=omega)only[go_sem,r,J,x.ixa,U,G];rw[fJ j];refine⟨n-(j+1),om,j+1,d,ws,aB rfl,om,e.fr ((Fr.refl K).bH om),?_,f.bH om,rfl⟩;rw[GI,hto];simpa using a
  |some y=>
   rw[hto] at B;have w:PV W h (F i j) y:=B;have Q:=Hr w (aY.ne h0 (TI.bF _ _ _ hto)) true;generalize F i j=vz at G w Q;obtain⟨S,a1⟩:=exI K.next;simp(disch:=omega)only[go_sem,r,J,x.ixa,U,G,Q,cK _ (z:= .aD) w.fG.1 w.fG.2];obtain⟨h4,a4,N,f4,n4,_⟩:=Je (v:=vz) e f om (bytes:=24) om;simp(disch:=omega)only[go_sem,a4];rw[fJ j];refine⟨n-(j+1),om,j+1,_,_,aB rfl,om,N,?_,f4,rfl⟩;rw[GI,hto,←Lz];exact a.append (dZ.one w)
 rintro c K ⟨d,ws,⟨g,rfl⟩,e,a,f⟩
 simp(disch:=omega)only[go_sem]
 rw[fJ i]
 exact⟨n-(i+1),om,i+1,d,ws,aB rfl,om,e,a,f,rfl⟩
theorem dZ.open {W:Nat->Prop}{v:V}(sv:SV h v 1 ws)(p:dZ W h ws l):bL v=some (aC (l.length:Int))/\ ∃id off,Sl v 1 l.length id off/\ ∀i,i<l.length->id<h.next/\h.cell id (off+i)=some (ws.getD i .undef)/\PV W h (ws.getD i .undef) (l.getD i []):=by
 have f:=aN.length p;refine⟨by unfold bL;rw[SV.len sv (n:=l.length) om om];rfl,?_⟩;obtain⟨id,off,d,a,e⟩:=SV.shape sv l.length om om;refine⟨id,off,d,λi hi=>⟨a om,?_,?_⟩⟩
 ·rw[e i om];simp [List.getD,show i<ws.length by omega]
 ·obtain⟨w,b,c⟩:=dZ.at p hi
  rw[List.getD,b];exact c
theorem Oo {α:Type}{l:List α}{x d:α}:x∈l.take k↔ ∃q,q<k/\q<l.length/\l.getD q d=x:=by
 constructor
 ·intro h
  obtain⟨q,a,e⟩:=Ad.1 h;rw[zO] at a;refine⟨q,om,om,?_⟩;rw[List.getElem_take] at e;rw[List.getD,dD om,←e];rfl
 ·rintro⟨q,h1,h2,e⟩
  rw[List.getD,dD h2] at e;refine Ad.2 ⟨q,by rw[zO];omega,?_⟩;rw[List.getElem_take];exact e
theorem Ee {x:List Nat}(c:k<l.length):x∈l.take (k+1)↔x∈l.take k∨l.getD k []=x:=by
 rw[Oo (d:= []),Oo (d:= [])];constructor
 ·rintro⟨q,b,a,e⟩
  by_cases h:q=k
  ·subst h;exact .inr e
  ·exact .inl ⟨q,om,a,e⟩
 ·rintro (⟨q,b,a,e⟩|e)
  ·exact⟨q,om,a,e⟩
  ·exact⟨k,om,c,e⟩
theorem PX {L:LN}(a:k<L.length):(L.take (k+1)).filter (λy=>decide (y∉l))=(L.take k).filter (λy=>decide (y∉l))++if L.getD k []∈l then [] else [L.getD k []]:=by
 rw[eY [] a,List.filter_append];generalize L.getD k []=z
 by_cases e:z∈l<;>simp [e,List.filter]
theorem TW (b:Nat)(W:Nat->Prop)(h:H)(n:Nat)(tv vl:V)(wl:List V)(l:LN)(ρ:Nat->Nat)(F:Nat->Nat->V)(t:rX)(hn:n<=64)(h0:0<n)(R:Ji b W h n tv ρ F t)(TI:pQ n t)(sl:SV h vl 1 wl)(pl:dZ W h wl l)(hl: ∀x∈l,aY n x)(ll:l.length<1000000):
  Ev T 131 [tv,vl] h (λv h'=> ∃ws,dH h' v 1 ws h.next/\dZ W h ws (frF n t l)/\Fr h h'):=by
 refine dW sU rfl ?_
 simp(disch:=omega)only[go_sem,sU,aE]
 refine (yT b W h n tv ρ F t hn h0 R TI).mono ?_
 rintro ve h1 ⟨we,oe,pe,f1⟩
 obtain⟨L,hL⟩:=exI (fZ n t 0)
 have EP: ∀y∈L,aY n y:=λy hy=>TI.OK y (by rw[hL];exact hy)
 have lL:L.length<=4096:=by
  rw[←hL,←Vm];have:=Uv n t n;have:=Nat.mul_le_mul hn hn;omega
 unfold frF
 rw[hL] at pe ⊢
 have b1:dZ W h1 we L:=dZ.fx pe (Fx.of f1)
 have b6:=aN.length pe
 obtain⟨a5,N,j,a2,b4⟩:=dZ.open oe.sv b1
 obtain⟨a6,a0,r,b2,a9⟩:=dZ.open sl pl
 simp(disch:=omega)only[go_sem]
 refine aI (λk' a Q=> ∃(i:Nat) (U:V) (ws:List V),(∃g:Nat->V,a= [tv,vl,g 2,U,ve,aC i,g 6,g 7,g 8,g 9,g 10])/\i<=L.length/\dH Q U 1 ws h1.next/\dZ W h ws ((L.take i).filter λy=>decide (y∉l))/\Fr h1 Q/\k'=L.length-i) L.length
  ⟨0,.aD, [],aB rfl,iB _,dH.aD _ _ _,trivial,Fr.refl h1,rfl⟩ ?_
 rintro k' a h2 ⟨i,U,ws,⟨g,rfl⟩,hi,ow,m,f,rfl⟩
 by_cases a1:(i:Int)<(L.length:Int)
 case neg=>
  have e1:=bI a1;obtain rfl:i=L.length:=om
  simp(disch:=omega)only[go_sem,a5,e1];rw[List.take_length] at m;exact⟨ws,ow.le f1.next,m,f1.trans f⟩
 have e1:=cI a1
 have p:i<L.length:=om
 obtain⟨i1,c1,p1⟩:=b4 i p
 have Y:=EP _ (bC (d:= []) p)
 obtain⟨y,hy⟩:=exI (L.getD i [])
 have J:PV W h (we.getD i .undef) (L.getD i []):=by
  obtain⟨w,o,h4⟩:=dZ.at pe p;rw[List.getD,o];exact h4
 rw[hy] at p1 Y J
 generalize we.getD i .undef=vy at c1 p1 J
 simp(disch:=omega)only[go_sem,a5,e1]
 refine bQ (λvs Q=>(∃g:Nat->V,vs= [tv,vl,g 2,U,ve,aC i,.bool (decide (y∈l)),g 7,g 8,g 9,g 10])/\Fr h2 Q) ?_ ?_
 ·refine aI (λk' a Q=> ∃(k:Nat) (s:Bool),(∃g:Nat->V,a= [tv,vl,g 2,U,ve,aC i,.bool s,aC k,g 8,g 9,g 10])/\k<=l.length/\(s=true↔y∈l.take k)/\Fr h2 Q/\k'=l.length-k) l.length
   ⟨0,false,aB rfl,iB _,by simp,Fr.refl h2,rfl⟩ ?_
  clear g
  rintro k' a o ⟨k,s,⟨g,rfl⟩,hk,hs,O,rfl⟩
  cases s with
  |true=>
   have q:decide (y∈l)=true:=cI (List.mem_of_mem_take (hs.1 rfl));simp(disch:=omega)only[go_sem];exact⟨by rw[q];exact aB rfl,O⟩
  |false=>
  have G:y∉l.take k:=λh=>by have:=hs.2 h;cases this
  by_cases u:(k:Int)<(l.length:Int)
  case neg=>
   have q:=bI u;obtain rfl:k=l.length:=om
   rw[List.take_length] at G;have e4:decide (y∈l)=false:=bI G;simp(disch:=omega)only[go_sem,a6,q];exact⟨by rw[e4];exact aB rfl,O⟩
  have q:=cI u
  have K:k<l.length:=om
  obtain⟨i2,c2,p2⟩:=a9 k K
  have Z:=hl _ (bC (d:= []) K)
  obtain⟨z,hz⟩:=exI (l.getD k [])
  rw[hz] at p2 Z
  generalize wl.getD k .undef=vz at c2 p2
  have c:=f.trans O
  have B:=f1.trans c
  have A:o.cell N (j+i)=some vy:=by rw[c.cell i1];exact c1
  have b3:o.cell a0 (r+k)=some vz:=by rw[B.cell i2];exact c2
  have v1:=SV.dI p1.si
  have v2:=SV.dI p2.si
  simp(disch:=omega)only[go_sem,a6,q,a2.ixa,A,b2.ixa,b3]
  have fb:Fr o (H.mk o.tr (o.next+10)):=(Fr.refl o).bH om
  refine (We vy vz _ _ _ (p1.si.mono (c.trans fb)) (p2.si.mono (B.trans fb)) (by rw[aS,Y.len];omega) (by rw[aS,Z.len];omega)).mono ?_
  rintro _ h4 ⟨rfl,f4⟩
  have P:=fb.trans f4
  have b0:h4.cell N (j+i)=some vy:=by rw[(c.trans P).cell i1];exact c1
  have a7:h4.cell a0 (r+k)=some vz:=by rw[(B.trans P).cell i2];exact c2
  simp(disch:=omega)only[go_sem,b0,a7,v1,v2]
  rw[fJ k]
  refine⟨l.length-(k+1),om,k+1,_,aB rfl,om,?_,O.trans P,rfl⟩
  rw[Ak,Ee K,hz]
  exact⟨λe=> .inr (Wv e).symm,λh=>h.elim (λh=>(G h).elim) λe=>by rw[e]⟩
 rintro a o ⟨⟨g,rfl⟩,O⟩
 have c:=f.trans O
 have A:o.cell N (j+i)=some vy:=by rw[c.cell i1];exact c1
 have a3:=ow.fr O
 have b7:=aN.length m
 have b5:((L.take i).filter λy=>decide (y∉l)).length<=i:=mY (List.length_filter_le _ _) (by rw[zO];omega)
 have ft:=PX (L:=L) (l:=l) p
 rw[hy] at ft
 by_cases hm:y∈l
 ·have q:=cI hm
  simp(disch:=omega)only[go_sem,q]
  rw[fJ i]
  rw[bJ hm,tZ] at ft
  exact⟨L.length-(i+1),om,i+1,U,ws,aB rfl,om,a3,by rw[ft];exact m,c,rfl⟩
 ·have q:=bI hm
  obtain⟨h4,a4,a8,f4,n4,_⟩:=Je (v:=vy) a3 c om (bytes:=24) om
  simp(disch:=omega)only[go_sem,q,a2.ixa,A,cK _ (z:= .aD) p1.fG.1 p1.fG.2,a4]
  rw[fJ i]
  rw[bU hm] at ft
  exact⟨L.length-(i+1),om,i+1,_,_,aB rfl,om,a8,by rw[ft];exact m.append (dZ.one J),f4,rfl⟩
end
structure CJ (b:Nat)(W:Nat->Prop)(h hh:H)(n:Nat)(tv:V)(ρ:Nat->Nat)(L:List Nat->Prop)(t0:rX)(vl:V)(l:LN)(t:rX):Prop where
 ex: ∃W' F wl,Ji b W' hh n tv ρ F t/\dH hh vl 1 wl h.next/\dZ W' hh wl l/\Ik W' vl/\ ∀id,id<h.next->W' id->W id
 fx:Fx W h hh
 cls:Ed n L t l
 sub:Sub t0 t
theorem ZM {n:Nat}{t:rX}{x:List Nat}{L:List Nat->Prop}{l:LN}(c:Ed n L t l)(a:pQ n (jK t n x))(h:(fZ n t 0).length<(fZ n (jK t n x) 0).length):0<(frF n (jK t n x) l).length:=by
 refine List.length_pos_iff.2 λe=>?_
 unfold frF at e;rw[List.filter_eq_nil_iff] at e
 have:(fZ n (jK t n x) 0).length<=(fZ n t 0).length:=List.Nodup.length_le_of_subset (zD a) λy b=>by
  have:=e y b;simp at this;exact (c.mem y).1 this
 omega
theorem FV (n:Nat)(t:rX)(a:n<=64):(fZ n t 0).length<=4096:=by
 rw[←Vm];have:=Uv n t n;have:=Nat.mul_le_mul a a;omega
theorem SF {n:Nat}{t:rX}{l m:LN}{a c:Nat}(d:a<l.length)(b:c<l.length):Pr n t (l++m) a c↔Pr n t l a c:=by
 have e: ∀k,k<l.length->(l++m).getD k []=l.getD k []:=λk f=>by rw[List.getD,List.getD,Dt f]
 unfold Pr;rw[e a d,e c b]
theorem UM (b:Nat)(W:Nat->Prop)(h:H)(n:Nat)(w:V)(ρ:Nat->Nat)(F:Nat->Nat->V)(t:rX)(L:List Nat->Prop)(hn:n<=7)(h0:0<n)(hb:b<=h.next)(R:Ji b W h n w ρ F t)(hL: ∀g,L g->aY n g)(tl:Na n L t):
  Ev T 88 [w] h (λ_ h'=> ∃W' F' t',Ji b W' h' n w ρ F' t'/\Na n L t'/\Sub t t'/\Km n t'/\Fx W h h'/\ ∀id,id<h.next->W' id->W id):=by
 have d1:n^n<=823543:=by
  have: ∀n,n<=7->n^n<=823543:=by decide
  exact this n hn
 refine dW kS rfl ?_
 simp(disch:=omega)only[go_sem,kS,aE]
 refine (yT b W h n w ρ F t om h0 R tl.tab).mono ?_
 rintro p h1 ⟨Z,Y,O,f1⟩
 simp(disch:=omega)only[go_sem]
 refine aI (λk' r hh=> ∃(i:Nat) (p:V) (l:LN) (t':rX),(∃g:Nat->V,r= [w,p,aC i,g 3,g 4,g 5,g 6,g 7,g 8,g 9,g 10,g 11])/\CJ b W h hh n w ρ L t p l t'/\i<=l.length/\(∀a c,a<i->c<i->Pr n t' l a c)/\k'=1000000-i) 1000000
  ⟨0,p,fZ n t 0,t,aB rfl,⟨⟨λid=>W id∨ ∃G m c,p= .sl id G m c,F,Z,?_,Y,?_,λid G m c e=> .inr ⟨_,_,_,e⟩,λid z f=>?_⟩,Fx.of f1,Ed.start tl,Sub.refl t⟩,iB _,λa c ha=>om,rfl⟩ ?_
 ·refine R.go (Fx.of f1) (λi hi=>f1.get _ (R.Pg _ (R.wb i hi))) (λid z f=>?_) (λid f=> .inl f) (λid f=>?_) (λid f=>?_)
  ·rcases f with f|⟨G,m,c,e⟩
   ·exact f
   ·have:=(Y.in _ _ _ _ e).2.1;omega
  ·rcases f with f|⟨G,m,c,e⟩
   ·exact jM (R.Pg id f) f1.next
   ·exact (Y.in _ _ _ _ e).1
  ·rcases f with f|⟨G,m,c,e⟩
   ·exact R.low id f
   ·have:=(Y.in _ _ _ _ e).2.1;omega
 ·refine dZ.go O (Fx.of f1) λid z f=>?_
  rcases f with f|⟨G,m,c,e⟩
  ·exact f
  ·have:=(Y.in _ _ _ _ e).2.1;omega
 ·rcases f with f|⟨G,m,c,e⟩
  ·exact f
  ·have:=(Y.in _ _ _ _ e).2.1;omega
 clear Y O f1 p Z h1
 rintro k' r h1 ⟨i,p,l,s,⟨g,rfl⟩,J,hi,N,rfl⟩
 have lb:=J.cls.bound
 have a2:bL p=some (aC (l.length:Int)):=by
  obtain⟨⟨W',F',Z,_,Y,O,_⟩,_⟩:=J;exact (dZ.open Y.sv O).1
 by_cases v:(i:Int)<(l.length:Int)
 case neg=>
  have U:=bI v;obtain rfl:i=l.length:=om
  simp(disch:=omega)only[go_sem,a2,U];obtain⟨⟨W',F',Z,R',_,_,_,hW⟩,fx,y,sub⟩:=J;exact⟨W',F',s,R',y.tl,sub,y.closed N,fx,hW⟩
 have U:=cI v
 have o:i<l.length:=om
 simp(disch:=omega)only[go_sem,a2,U]
 refine uJ (λvs hh=> ∃(p:V) (l:LN) (t':rX),(∃g:Nat->V,vs= [w,p,aC i,g 3,g 4,g 5,g 6,g 7,g 8,g 9,g 10,g 11])/\CJ b W h hh n w ρ L t p l t'/\i<l.length/\ ∀a c,a<i+1->c<i+1->Pr n t' l a c) ?_ ?_
 ·refine aI (λk' r hh=> ∃(k:Nat) (p:V) (l:LN) (t':rX),(∃g:Nat->V,r= [w,p,aC i,aC k,g 4,g 5,g 6,g 7,g 8,g 9,g 10,g 11])/\k<=i+1/\CJ b W h hh n w ρ L t p l t'/\i<l.length/\(∀a c,a<i->c<i->Pr n t' l a c)/\(∀c,c<k->Pr n t' l i c/\Pr n t' l c i)/\k'=i+1-k) (i+1)
   ⟨0,p,l,s,aB rfl,iB _,J,o,N,λc hc=>om,rfl⟩ ?_
  clear J hi N lb a2 v U o p l s g
  rintro k' r h2 ⟨k,p,l,s,⟨g,rfl⟩,hk,J,o,N,hQ,rfl⟩
  by_cases v:(k:Int)<=(i:Int)
  case neg=>
   have U:=bI v;obtain rfl:k=i+1:=om
   simp(disch:=omega)only[go_sem,U];refine⟨p,l,s,aB rfl,J,o,λa c ha hc=>?_⟩
   by_cases ea:a=i
   ·subst ea;exact (hQ c hc).1
   ·by_cases ec:c=i
    ·subst ec;exact (hQ a ha).2
    ·exact N a c om om
  have U:=cI v
  have d5:k<=i:=om
  simp(disch:=omega)only[go_sem,U]
  refine uJ (λvs hh=> ∃(p:V) (l:LN) (t':rX),(∃g:Nat->V,vs= [w,p,aC i,aC k,g 4,g 5,g 6,g 7,g 8,g 9,g 10,g 11])/\CJ b W h hh n w ρ L t p l t'/\i<l.length/\(∀a c,a<i->c<i->Pr n t' l a c)/\ ∀c,c<k+1->Pr n t' l i c/\Pr n t' l c i) ?_ ?_
  ·refine aI (λk' r hh=> ∃(q:Nat) (p:V) (l:LN) (t':rX),(∃g:Nat->V,r= [w,p,aC i,aC k,aC q,g 5,g 6,g 7,g 8,g 9,g 10,g 11])/\q<=2/\CJ b W h hh n w ρ L t p l t'/\i<l.length/\(∀a c,a<i->c<i->Pr n t' l a c)/\(∀c,c<k->Pr n t' l i c/\Pr n t' l c i)/\(0<q->Pr n t' l i k)/\(1<q->Pr n t' l k i)/\k'=2-q) 2
    ⟨0,p,l,s,aB rfl,om,J,o,N,hQ,λh=>om,λh=>om,rfl⟩ ?_
   clear J N hQ v U o p l s g
   rintro k' r h3 ⟨q,p,l,s,⟨g,rfl⟩,hq,J,o,N,hQ,hA,hB,rfl⟩
   by_cases v:(q:Int)<2
   case neg=>
    have U:=bI v;have d4:q=2:=om
    simp(disch:=omega)only[go_sem,U];refine⟨p,l,s,aB rfl,J,o,N,λc hc=>?_⟩
    by_cases ec:c=k
    ·subst ec;exact⟨hA om,hB om⟩
    ·exact hQ c om
   have U:=cI v
   obtain⟨⟨W',F',Z,R',Y,O,bl,hW⟩,fx,y,sub⟩:=J
   obtain⟨a2,a6,Q,b9,c0⟩:=dZ.open Y.sv O
   have lb:=y.bound
   obtain⟨i1,c1,p1⟩:=c0 i o
   obtain⟨_,c2,p2⟩:=c0 k om
   have ga:=y.gen _ (bC (d:= []) o)
   have gc:=y.gen _ (bC (d:= []) (show k<l.length by omega))
   obtain⟨a,ea⟩:=exI (l.getD i [])
   obtain⟨c,ec⟩:=exI (l.getD k [])
   rw[ea] at p1 ga
   rw[ec] at p2 gc
   have A:=ga.bF hL
   have C:=gc.bF hL
   generalize Z.getD i .undef=va at c1 p1
   generalize Z.getD k .undef=vc at c2 p2
   have v1:=SV.dI p1.si
   have v2:=SV.dI p2.si
   have vv:=SV.dI Y.sv
   simp(disch:=omega)only[go_sem,U,b9.ixa,c1,c2]
   have fb:Fr h3 (H.mk h3.tr (h3.next+10)):=(Fr.refl h3).bH om
   refine (vT va vc a c _ (by rw[A.len];omega) (p1.si.mono fb) (p2.si.mono fb) (λj hj=>by rw[C.len];exact A.fX (by rw[←A.len];exact hj))).mono ?_
   rintro vx h4 ⟨s4,f4,l4⟩
   have B:=fb.trans f4
   have b0:h4.cell a6 (Q+i)=some va:=by rw[B.cell i1];exact c1
   have a8:h4.cell a6 (Q+k)=some vc:=by rw[B.cell i1];exact c2
   simp(disch:=omega)only[go_sem,b0,a8,v1,v2]
   have px:PV W' h4 vx (aM a c):=PV.fresh s4 l4 (λid z=>jM (R'.Pg id z) fb.next)
   refine mM (λvs hh=> ∃(vx:V) (x:List Nat),(∃g:Nat->V,vs= [w,p,aC i,aC k,aC q,vx,g 6,g 7,g 8,g 9,g 10,g 11])/\PV W' hh vx x/\(q=0->x=aM a c)/\(q=1->x=aM c a)/\bM n L x/\Fr h3 hh) ?_ ?_
   ·refine bA (λc8=>?_) (λc8=>?_)
    ·have w1:(1:Int)=(q:Int):=om
     simp(disch:=omega)only[go_sem,b9.ixa,b0,a8]
     have a5:Fr h4 (H.mk h4.tr (h4.next+10)):=(Fr.refl h4).bH om
     refine (vT vc va c a _ (by rw[C.len];omega) (p2.si.mono (B.trans a5)) (p1.si.mono (B.trans a5)) (λj hj=>by rw[A.len];exact C.fX (by rw[←C.len];exact hj))).mono ?_
     rintro vy h5 ⟨s5,f5,l5⟩
     have b4:=a5.trans f5
     have c9:h5.cell a6 (Q+i)=some va:=by rw[(B.trans b4).cell i1];exact c1
     have c4:h5.cell a6 (Q+k)=some vc:=by rw[(B.trans b4).cell i1];exact c2
     simp(disch:=omega)only[go_sem,c9,c4,v1,v2]
     refine .inl ⟨vy,aM c a,aB rfl,PV.fresh s5 l5 (λid z=>jM (R'.Pg id z) (B.trans a5).next),λe=>om,λ_=>rfl,gc.app hL ga,B.trans b4⟩
    ·simp(disch:=omega)only[go_sem]
     exact .inl ⟨vx,aM a c,aB rfl,px,λ_=>rfl,λe=>om,ga.app hL gc,B⟩
   clear px s4 l4 B b0 a8 f4 fb vx h4
   rintro r h4 ⟨vx,x,⟨g,rfl⟩,px,c5,d0,gx,f4⟩
   have R4:=R'.mono f4
   simp(disch:=omega)only[go_sem]
   refine (yT b W' h4 n w ρ F' s om h0 R4 y.tl.tab).mono ?_
   rintro v5 h5 ⟨w5,o5,c7,f5⟩
   have l5:bL v5=some (aC ((fZ n s 0).length:Int)):=(dZ.open o5.sv (dZ.fx c7 (Fx.of f5))).1
   have m5:=FV n s om
   simp(disch:=omega)only[go_sem,l5]
   refine (Tf b W' h5 n w ρ F' s vx x om h0 (R4.mono f5) (PV.mono px f5) (gx.bF hL) y.tl.tab).mono ?_
   rintro _ h6 ⟨F6,rfl,R6,f6⟩
   obtain⟨u,K,a0,m,hm⟩:=y.step hL gx
   simp(disch:=omega)only[go_sem]
   refine (yT b W' h6 n w ρ F6 _ om h0 R6 u.tl.tab).mono ?_
   rintro v7 h7 ⟨w7,o7,c3,f7⟩
   have l7:bL v7=some (aC ((fZ n (jK s n x) 0).length:Int)):=(dZ.open o7.sv (dZ.fx c3 (Fx.of f7))).1
   have m7:=FV n (jK s n x) om
   have R7:=R6.mono f7
   have b8:=f4.trans f5
   have a3:Fx W' h3 h7:=((Fx.of b8).trans (R4.wbx f6) (λ_ _ h=>h)).trans (Fx.of f7:Fx W' h6 h7) (λ_ _ h=>h)
   have a1: ∀j,j<n->ρ j<h.next:=λj hj=>R.Pg _ (R.wb j hj)
   have b2:dH h7 p 1 Z h.next:=by
    refine (((Y.fr b8).tU f6.next λid G m c e z=>f6.get id z λf=>?_).fr f7);obtain⟨j,hj,rfl⟩:=f;have:=(Y.in _ _ _ _ e).2.1;have:=a1 j hj;omega
   have P:dZ W' h7 Z l:=dZ.fx O a3
   simp(disch:=omega)only[go_sem,l7]
   have a7: ∀b3 h',CJ b W h h' n w ρ L t b3 (l++m) (jK s n x)->CJ b W h h' n w ρ L t b3 (l++m) (jK s n x)/\i<(l++m).length/\(∀a c,a<i->c<i->Pr n (jK s n x) (l++m) a c)/\(∀c,c<k->Pr n (jK s n x) (l++m) i c/\Pr n (jK s n x) (l++m) c i)/\(0<q+1->Pr n (jK s n x) (l++m) i k)/\(1<q+1->Pr n (jK s n x) (l++m) k i):=λb3 h' J=>by
    have b5:k<l.length:=om
    refine⟨J,by rw[iV];omega,λa c h1 h2=>(N a c h1 h2).mono K om om,λc hc=>⟨(hQ c hc).1.mono K o om,(hQ c hc).2.mono K om o⟩,λ_=>?_,λ_=>?_⟩
    ·by_cases e0:q=0
     ·rw[SF o b5]
      unfold Pr;rw[ea,ec,←c5 e0];exact a0
     ·exact (hA om).mono K o b5
    ·have e0:q=1:=om
     rw[SF b5 o];unfold Pr;rw[ea,ec,←d0 e0];exact a0
   refine bA (λb6=>?_) (λb6=>?_)
   ·have hg:(fZ n s 0).length<(fZ n (jK s n x) 0).length:=om
    have em:m=frF n (jK s n x) l:=by
     unfold clF at hm;rw[bJ hg] at hm;exact (List.append_cancel_left hm).symm
    have m0:=ZM y u.tl.tab hg
    rw[←em] at m0
    rw[hm] at u
    have c6:=u.bound
    rw[iV] at c6
    simp(disch:=omega)only[go_sem]
    refine (TW b W' h7 n w p Z l ρ F6 _ om h0 R7 u.tl.tab b2.sv P y.bF om).mono ?_
    rintro v8 h8 ⟨w8,o8,p8,f8⟩
    rw[←em] at p8
    have lw:=aN.length P
    have d6:=aN.length p8
    have b7:=b2.fr f8
    have R8:=R7.mono f8
    obtain⟨h9,a9,p9⟩:=b7.push (bytes:=24) o8.sv (n:=l.length) (m:=m.length) om om om m0 ⟨om,om⟩
    have n9:=p9.next
    have a4:=p9.fx bl
    have d7:=a3.next
    have d2:=f8.next
    have d3:=fx.next
    simp(disch:=omega)only[go_sem,a9]
    rw[fJ q]
    have b1: ∀id,id<h8.next->(W' id∨id=h8.next)->W' id:=λid h1 h2=>by
     rcases h2 with h2|h2
     ·exact h2
     ·omega
    have J':CJ b W h h9 n w ρ L t (.sl h8.next 0 (l.length+m.length) (.un 1)) (l++m) (jK s n x):=by
     refine⟨⟨λid=>W' id∨id=h8.next,F6,Z++w8,?_,p9.own om om om,?_,λid G m c e=>by cases e;exact .inr rfl,λid z f=>?_⟩,?_,u,sub.trans K⟩
     ·refine R8.go a4 (λj hj=>p9.old _ (by have:=a1 j hj;omega) λid G m c e e2=>by have:=(b7.in _ _ _ _ e).2.1;have:=a1 j hj;omega) b1 (λid f=> .inl f) (λid f=>?_) (λid f=>?_)
      ·rcases f with f|f
       ·have:=R8.Pg id f;omega
       ·omega
      ·rcases f with f|f
       ·exact R8.low id f
       ·omega
     ·exact (dZ.go (dZ.fx P (Fx.of f8)) a4 b1).append (dZ.go (dZ.fx p8 (Fx.of f8)) a4 b1)
     ·rcases f with f|f
      ·exact hW id z f
      ·omega
     ·exact fx.trans ((a3.trans (Fx.of f8:Fx W' h7 h8) (λ_ _ h=>h)).trans a4 (λ_ _ h=>h)) hW
    obtain⟨j1,j2,j3,j4,j5,j6⟩:=a7 _ _ J'
    exact⟨2-(q+1),om,q+1,_,_,_,aB rfl,om,j1,j2,j3,j4,j5,j6,rfl⟩
   ·have hg: ¬(fZ n s 0).length<(fZ n (jK s n x) 0).length:=om
    have em:m= []:=by
     unfold clF at hm;rw[bU hg] at hm;exact List.append_right_eq_self.1 hm.symm
    simp(disch:=omega)only[go_sem]
    rw[fJ q]
    have J':CJ b W h h7 n w ρ L t p (l++m) (jK s n x):=by
     rw[hm] at u;exact⟨⟨W',F6,Z,R7,b2,by rw[em,tZ];exact P,bl,hW⟩,fx.trans a3 hW,u,sub.trans K⟩
    obtain⟨j1,j2,j3,j4,j5,j6⟩:=a7 _ _ J'
    exact⟨2-(q+1),om,q+1,_,_,_,aB rfl,om,j1,j2,j3,j4,j5,j6,rfl⟩
  rintro r h3 ⟨p,l,s,⟨g,rfl⟩,J,o,N,hQ⟩
  have lb:=J.cls.bound
  simp(disch:=omega)only[go_sem]
  rw[fJ k]
  exact⟨i+1-(k+1),om,k+1,p,l,s,aB rfl,om,J,o,N,hQ,rfl⟩
 clear J hi N lb a2 v U o p l s g
 rintro r h2 ⟨p,l,s,⟨g,rfl⟩,J,o,N⟩
 have lb:=J.cls.bound
 simp(disch:=omega)only[go_sem]
 rw[fJ i]
 exact⟨1000000-(i+1),om,i+1,p,l,s,aB rfl,J,om,N,rfl⟩
theorem Gv (t:rX)(i k:Nat):(Ea t i k).length<=k:=by
 unfold Ea;have:=List.length_filter_le (λp=>p==i||(t i p).isSome) (List.range k);rwa [Xf] at this
theorem Yb (b:Nat)(W:Nat->Prop)(h:H)(n:Nat)(B:V)(ρ:Nat->Nat)(F:Nat->Nat->V)(t:rX)(i:Nat)(hn:n<=64)(Z:0<n)(hi:i<n)(R:Ji b W h n B ρ F t)(U:pQ n t):
  Ev T 132 [B,aC i] h (λv h'=>dH h' v 1 (ints (zi (Ea t i n))) h.next/\Fr h h'):=by
 refine dW sT rfl ?_
 have w:=R.open.1
 simp(disch:=omega)only[go_sem,sT,aE]
 refine aI (λY c J=> ∃(p:Nat) (r:V),(∃g:Nat->V,c= [B,aC i,g 2,r,aC p,g 5,g 6])/\i<=p/\p<=n/\dH J r 1 (ints (zi (Ea t i p))) h.next/\Fr h J/\Y=n-p) (n-i)
  ⟨i,.aD,aB rfl,dT _,om,by rw[DH U];exact dH.aD _ _ _,Fr.refl h,rfl⟩ ?_
 rintro Y c j ⟨p,r,⟨g,rfl⟩,a1,a2,A,f,rfl⟩
 by_cases l:(p:Int)<(n:Int)
 case neg=>
  have k:=bI l;obtain rfl:p=n:=om
  simp(disch:=omega)only[go_sem,w,k];exact⟨A,f⟩
 have k:=cI l
 have m:p<n:=om
 have P:=R.mono f
 obtain⟨_,a0,L,q,G⟩:=P.open
 have O:=G i hi
 have x:=P.cell hi m
 have u:=R.ent i p hi m
 have ll:=Gv t i p
 have K:=OA (t:=t) i p
 have step:(p=i∨(t i p).isSome)-> ∃d,zK (j.new (.cells false (ints [(p:Int)]))) 1 8 r (.sl j.next 0 1 (.kn 1))=some (.sl (j.next+1) 0 ((Ea t i p).length+1) (.un 1),d)/\dH d (.sl (j.next+1) 0 ((Ea t i p).length+1) (.un 1)) 1 (ints (zi (Ea t i (p+1)))) h.next/\Fr h d:=λhc=>by
  obtain⟨d,e,a,s,n4,_⟩:=Je (v:= aC p) A f (by rw[aP,aS];omega) (bytes:=8) om;rw[aP,aS] at e a;refine⟨d,e,?_,s⟩;rw[K,bJ hc,Mo,rP];exact a
 by_cases o:p=i
 ·have z:decide ((p:Int)=(i:Int))=true:=cI om
  obtain⟨d,e,a,s⟩:=step (.inl o)
  simp(disch:=omega)only[go_sem,w,k,z,Oy,e]
  rw[fJ p]
  exact⟨n-(p+1),om,p+1,_,aB rfl,om,om,a,s,rfl⟩
 have z:decide ((p:Int)=(i:Int))=false:=bI om
 cases hto:t i p with
 |none=>
  rw[hto] at u;rw[u.nil] at x;simp(disch:=omega)only[go_sem,w,k,z,q.ixa,O,x];rw[fJ p];refine⟨n-(p+1),om,p+1,r,aB rfl,om,om,?_,f.bH om,rfl⟩;rw[K,bU (by rw[hto];simp [o]),tZ];exact A.fr ((Fr.refl j).bH om)
 |some y=>
  rw[hto] at u;have Q:PV W h (F i p) y:=u;have N:=Hr Q (aY.ne Z (U.bF _ _ _ hto)) true;generalize F i p=vz at x Q N;obtain⟨d,e,a,s⟩:=step (.inr (by rw[hto];rfl));simp(disch:=omega)only[go_sem,w,k,z,q.ixa,O,x,N,Oy,e];rw[fJ p];exact⟨n-(p+1),om,p+1,_,aB rfl,om,om,a,s,rfl⟩
theorem UL.ajZ {h h':H}{v:V}{l:List Int}(c:UL h l v h')(g:0<l.length):Af h h' v l:=by
 obtain⟨_,f,e⟩:=c;obtain⟨id,rfl,a,d,b⟩:=e g;exact⟨⟨id,_,rfl,a,d,b,.inl rfl⟩,f⟩
theorem LF (b:Nat)(W:Nat->Prop)(h:H)(n:Nat)(tv:V)(ρ:Nat->Nat)(F:Nat->Nat->V)(t:rX)(d p:Nat)(x:List Nat)(hn:n<=64)(h0:0<n)(P:d<n)(hp:p<n)(R:Ji b W h n tv ρ F t)(TI:pQ n t)(tw:pX n 0 (lF n t))(b2:(lF n t d).to p=some x):
  Ev T 133 [tv,aC d,aC p] h (λv h'=>Af h h' v (zi (Lx (lF n t) (n-(d+1)) (d+1) x))):=by
 have X:=(vX TI P b2).1
 refine dW sW rfl ?_
 obtain⟨lv,c9,c3,d0,c7⟩:=R.open
 simp(disch:=omega)only[go_sem,sW,aE,lv]
 refine (Vk n h om).mono ?_
 rintro v1 h1 ⟨s1,f1,l1⟩
 simp(disch:=omega)only[go_sem]
 have a9: ∀id,W id->id<h.next:=R.Pg
 refine mM (λvs w=> ∃vx,(∃g:Nat->V,vs= [tv,aC d,aC p,g 3,vx,g 5,g 6,g 7,g 8,g 9,g 10,g 11,g 12,g 13])/\PV W w vx x/\Fr h w) ?_ ?_
 ·have r:(if p=d then some (aX n) else t d p)=some x:=b2
  refine bA (λb6=>?_) (λb6=>?_)
  ·have K:p≠d:=om
   rw[bU K] at r
   have R1:=R.mono f1
   obtain⟨_,a1,B,Z,J⟩:=R1.open
   have cr:=J d P
   have ce:=R1.cell P hp
   have hS:=R1.ent d p P hp
   rw[r] at hS
   have pz:PV W h1 (F d p) x:=hS
   generalize F d p=vz at ce pz
   simp(disch:=omega)only[go_sem,Z.ixa,cr,ce]
   exact .inl ⟨vz,aB rfl,pz,f1⟩
  ·have K:p=d:=om
   rw[bJ K] at r
   obtain rfl:aX n=x:=Option.some.inj r
   simp(disch:=omega)only[go_sem]
   exact .inl ⟨v1,aB rfl,PV.fresh s1 l1 a9,f1⟩
 clear s1 f1 l1 v1 h1
 rintro i h1 ⟨vx,⟨g,rfl⟩,px,f1⟩
 simp(disch:=omega)only[go_sem]
 rw[fJ d]
 refine bQ (λvs w=> ∃s,(∃g:Nat->V,vs= [tv,g 1,g 2,g 3,s,g 5,g 6,g 7,g 8,g 9,g 10,g 11,g 12,g 13])/\PV W w s (Lx (lF n t) (n-(d+1)) (d+1) x)/\aY n (Lx (lF n t) (n-(d+1)) (d+1) x)/\Fr h w) ?_ ?_
 ·refine aI (λk' i w=> ∃(k:Nat) (y:List Nat) (s:V),(∃g:Nat->V,i= [tv,g 1,g 2,g 3,s,aC k,g 6,g 7,g 8,g 9,g 10,g 11,g 12,g 13])/\d<k/\k<=n/\Lx (lF n t) (n-k) k y=Lx (lF n t) (n-(d+1)) (d+1) x/\
    PV W w s y/\aY n y/\Fr h w/\k'=n-k) (n-(d+1))
   ⟨d+1,x,vx,aB rfl,om,om,rfl,px,X,f1,rfl⟩ ?_
  clear px f1 vx h1 g
  rintro k' i h2 ⟨k,y,s,⟨g,rfl⟩,c6,c4,z,hy,Y,f,rfl⟩
  by_cases a8:(k:Int)<(n:Int)
  case neg=>
   have e1:=bI a8;obtain rfl:k=n:=om
   rw[Nat.sub_self] at z;simp(disch:=omega)only[go_sem,lv,e1];have a5:y=Lx (lF k t) (k-(d+1)) (d+1) x:=z;exact⟨s,aB rfl,by rw[←a5];exact hy,by rw[←a5];exact Y,f⟩
  have l:k<n:=om
  have e1:=cI a8
  have R2:=R.mono f
  simp(disch:=omega)only[go_sem,lv,e1]
  refine (Yb b W h2 n tv ρ F t k hn h0 l R2 TI).mono ?_
  rintro vo h3 ⟨oo,f3⟩
  obtain⟨o,ho⟩:=exI ((lF n t k).orb)
  rw[show Ea t k n=o from ho] at oo
  have so:SI h3 vo (zi o):=oo.sv
  have lo:=so.lens
  rw[aS] at lo
  have nG:=(tw k (iB _) l).1
  have c5:o.length<=n:=by rw[←ho];exact Gv t k n
  obtain⟨id,b8,sh,a6,hc⟩:=so.open
  rw[aS] at sh a6 hc
  have a4:=PV.mono hy f3
  obtain⟨a1,B,Z,L,J⟩:=a4.si.open
  rw[aS,Y.len] at Z L J
  simp(disch:=omega)only[go_sem]
  refine bQ (λvs w=>(∃g:Nat->V,vs= [tv,g 1,g 2,g 3,s,aC k,g 6,aC (pG y k o:Int),g 8,g 9,g 10,g 11,g 12,g 13])/\pG y k o<n/\pG y k o∈k::o/\Fr h3 w) ?_ ?_
  ·refine aI (λm' i w=> ∃(m b:Nat),(∃g:Nat->V,i= [tv,g 1,g 2,g 3,s,aC k,vo,aC b,aC m,g 9,g 10,g 11,g 12,g 13])/\m<=o.length/\b<n/\b∈k::o/\
     pG y b (o.drop m)=pG y k o/\Fr h3 w/\m'=o.length-m) o.length
    ⟨0,k,aB rfl,iB _,l,tQ ..,rfl,Fr.refl h3,rfl⟩ ?_
   rintro m' i h4 ⟨m,b1,⟨g3,rfl⟩,hm,hb,A,a,N,rfl⟩
   by_cases a0:(m:Int)<(o.length:Int)
   case neg=>
    have e2:=bI a0;have em:m=o.length:=om
    rw[em,List.drop_length] at a;have a:b1=pG y k o:=a;simp(disch:=omega)only[go_sem,lo,e2];exact⟨by rw[←a];exact aB rfl,by rw[←a];exact hb,by rw[←a];exact A,N⟩
   have e2:=cI a0
   have G:m<o.length:=om
   rw[Sf _ _ G] at a
   have cq:h4.cell id (b8+m)=some (aC (o.getD m 0:Nat)):=by rw[N.cell (a6 om),hc m G];congr 2;simp [zi,G]
   have a2:o.getD m 0∈o:=by rw[cW G];exact xG G
   have Q:=nG.lt l (by rw[ho];exact a2)
   generalize o.getD m 0=q at cq a2 Q a
   have c1:h4.cell a1 (B+q)=some (aC (y.getD q 0:Nat)):=by rw[N.cell (L om),J q Q];congr 2;simp [zi,Y.len,Q]
   have c2:h4.cell a1 (B+b1)=some (aC (y.getD b1 0:Nat)):=by rw[N.cell (L om),J b1 hb];congr 2;simp [zi,Y.len,hb]
   simp(disch:=omega)only[go_sem,lo,e2,sh.ixa,cq,Z.ixa,c1,c2]
   have fb:Fr h3 (H.mk h4.tr (h4.next+12)):=N.bH om
   refine bA (λb4=>?_) (λb4=>?_)
   ·rw[bJ om] at a
    simp(disch:=omega)only[go_sem,sh.ixa,cq]
    rw[fJ m]
    exact⟨o.length-(m+1),om,m+1,q,aB rfl,om,Q,wI _ a2,a,fb,rfl⟩
   ·rw[bU om] at a
    simp(disch:=omega)only[go_sem]
    rw[fJ m]
    exact⟨o.length-(m+1),om,m+1,b1,aB rfl,om,hb,A,a,fb,rfl⟩
  rintro i h4 ⟨⟨g4,rfl⟩,hb,A,N⟩
  have a3:n-k=(n-(k+1))+1:=om
  rw[a3] at z
  have z:Lx (lF n t) (n-(k+1)) (k+1) (if pG y k (lF n t k).orb=k then y else aM (((lF n t k).to (pG y k (lF n t k).orb)).getD []) y)=Lx (lF n t) (n-(d+1)) (d+1) x:=z
  rw[ho] at z
  have R4:=R2.mono (f3.trans N)
  have b0:=PV.mono a4 N
  generalize pG y k o=q at z hb A
  by_cases O:q=k
  ·rw[bJ O] at z
   have e0:decide ((q:Int)≠(k:Int))=false:=bI om
   simp(disch:=omega)only[go_sem,e0]
   rw[fJ k]
   exact⟨n-(k+1),om,k+1,y,s,aB rfl,om,om,z,b0,Y,(f.trans f3).trans N,rfl⟩
  rw[bU O] at z
  have e0:decide ((q:Int)≠(k:Int))=true:=cI om
  have b9:q∈(lF n t k).orb:=by
   rcases vI.1 A with e|e
   ·exact absurd e O
   ·rw[ho];exact e
  obtain⟨u,hu⟩:=nG.to b9
  have U:=nG.bF _ _ hu
  have a7:(if q=k then some (aX n) else t k q)=some u:=hu
  rw[bU O] at a7
  obtain⟨_,c8,c0,b5,b7⟩:=R4.open
  have cr:=b7 k l
  have ce:=R4.cell l hb
  have hS:=R4.ent k q l hb
  rw[a7] at hS
  have pu:PV W h4 (F k q) u:=hS
  generalize F k q=vu at ce pu
  rw[hu] at z
  simp(disch:=omega)only[go_sem,e0,b5.ixa,cr,ce]
  refine (vT vu s u y h4 (by rw[U.len];omega) pu.si b0.si (λj hj=>by rw[Y.len];exact U.fX (by rw[←U.len];exact hj))).mono ?_
  rintro v h5 ⟨s5,f5,l5⟩
  simp(disch:=omega)only[go_sem]
  rw[fJ k]
  exact⟨n-(k+1),om,k+1,_,v,aB rfl,om,om,z,PV.fresh s5 l5 R4.Pg,U.mul Y,((f.trans f3).trans N).trans f5,rfl⟩
 rintro i h2 ⟨s,⟨g2,rfl⟩,py,Y,f2⟩
 simp(disch:=omega)only[go_sem]
 refine (agS s _ h2 py.si (by rw[aS,Y.len];omega)).mono ?_
 rintro v h3 c
 have fr:=UL.ajZ c (by rw[aS,Y.len];exact h0)
 simp(disch:=omega)only[go_sem]
 obtain⟨⟨id,b3,e1,e2,e3,e4,e5⟩,f3⟩:=fr
 exact⟨⟨id,b3,e1,by have:=f2.next;omega,e3,e4,e5⟩,f2.trans f3⟩
theorem NN (b:Nat)(W0:Nat->Prop)(h:H)(n:Nat)(tv:V)(ρ:Nat->Nat)(F:Nat->Nat->V)(t:rX)(hn:n<=64)(h0:0<n)(R:Ji b W0 h n tv ρ F t)(TI:pQ n t)(tw:pX n 0 (lF n t)):
  Ev T 89 [tv] h (λv h'=> ∃O R',OP (λid=>id<h.next) h' v n O R'/\aV n (S n (lF n t) 0) O R'/\Fr h h'):=by
 refine dW sV rfl ?_
 have lv:=R.open.1
 obtain⟨τ,a8⟩:=exI (lF n t)
 obtain⟨B,hB⟩:=exI h.next
 have bl:qU [aC 0,.aD,.aD] [(0,1,aC n)]=some (.agg [aC n,.aD,.aD]):=by
  have e1:putAt [aC 0,.aD,.aD] 0 [aC n]=some [aC n,.aD,.aD]:=by simp [putAt]
  simp [qU,iK,e1,V.cells,V.one]
 obtain⟨U,a1⟩: ∃U,U=(h.new (.cells false [aC 0,.aD,.aD])).new (.cells false [aC 0,.aD,.aD]):=⟨_,rfl⟩
 have n1:U.next=B+2:=by rw[a1,H.aW,H.aW,hB]
 have g1:U.get (B+1)=aF [aC 0,.aD,.aD]:=by
  rw[a1];have:=H.aL (h.new (.cells false [aC 0,.aD,.aD])) (.cells false [aC 0,.aD,.aD]);rwa [H.aW,hB] at this
 have g0:U.get B=aF [aC 0,.aD,.aD]:=by rw[a1,H.bG _ (by rw[H.aW,hB];omega),←hB,H.aL]
 have f1:Fr h U:=by rw[a1];exact ((Fr.refl h).new _).new _
 simp(disch:=omega)only[go_sem,sV,aE,hB,lv,bl]
 rw[←a1]
 simp(disch:=omega)only[go_sem,cF U (B+1) 0 (v:= aC n) (u:= .aD) (w:= .aD) rfl rfl rfl,g1,cH]
 obtain⟨l,a2⟩: ∃l,l=U.set (B+1) (aF [aC n,.aD,.aD]):=⟨_,rfl⟩
 have n2:l.next=B+2:=by rw[a2];exact n1
 have f2:Fr h l:=by rw[a2];exact f1.set om _
 have g2:l.get (B+1)=aF [aC n,.aD,.aD]:=by rw[a2,H.aU]
 have c2:l.get B=aF [aC 0,.aD,.aD]:=by rw[a2,H.aH _ om];exact g0
 rw[←a2]
 clear a1 a2 f1 g0 g1 n1 U
 refine aI (λk' a0 G=> ∃(i:Nat) (W:Nat->Prop) (O:LN) (R':jJ) (vO K:V) (c6 b7:List V),(∃g:Nat->V,a0= [tv,.ptr B 0,.ptr (B+1) 0,aC i,g 4,g 5,g 6,g 7,g 8])/\i<=n/\Cn h G (B+1) B W n O R' vO K c6 b7/\
   G.get B=aF [aC 0,.aD,.aD]/\O.length=i/\R'.length=i/\(∀j,j<i->ChL τ n j (O.getD j []) (R'.getD j []))/\k'=n-i) n
  ⟨0,_, [], [],_,_,_,_,aB rfl,iB _,Cn.start om om om om om f2 g2,c2,rfl,rfl,λj hj=>om,rfl⟩ ?_
 clear f2 g2 c2 n2 l
 rintro k' a0 l ⟨i,W,O,R',vO,K,c6,b7,⟨g,rfl⟩,hi,A,gB,lO,lR,hC,rfl⟩
 by_cases c3:(i:Int)<(n:Int)
 case neg=>
  have e1:=bI c3;obtain rfl:i=n:=om
  have hr:=aJ A.get;have nB:=A.fr.next;simp(disch:=omega)only[go_sem,lv,e1,hr,cF l B 0 (v:= aC i) (u:=vO) (w:=K) rfl (SV.cT A.oO.sv).2.1 (SV.cT A.oR.sv).2.1,gB,cH];have g7:=aJ (h:=l.set B (aF [aC i,vO,K])) (H.aU ..);have fB:Fx (· =B) l (l.set B (aF [aC i,vO,K])):=Fx.set l (W:=(· =B)) rfl _;simp(disch:=omega)only[go_sem,g7]
  obtain⟨h3,c8⟩: ∃h3,h3=l.set B (aF [aC i,vO,K]):=⟨_,rfl⟩
  rw[←c8] at fB ⊢;have A3:=A.box c8;refine⟨O,R',by rw[←hB];exact A3.chw,?_,A3.fr⟩;rw[a8] at tw ⊢;have X:=tw.chain (O:=O) (R:=R') lO lR (λj hj=>(hC j hj).1) (λj hj=>(hC j hj).2.1) (λj hj=>(hC j hj).2.2.1) (λj hj=>(hC j hj).2.2.2);exact X
 have e1:=cI c3
 have b3:i<n:=om
 have R2:=R.mono A.fr
 have nG:=(tw i (iB _) b3).1
 rw[a8] at nG
 simp(disch:=omega)only[go_sem,lv,e1]
 refine (Yb b W0 l n tv ρ F t i hn h0 b3 R2 TI).mono ?_
 rintro vo h4 ⟨oo,f4⟩
 obtain⟨q,hq⟩:=exI (Ea t i n)
 have c7:q.Pairwise (· < ·):=by rw[←hq];exact TZ i n
 have a4: ∀p,p∈q↔p∈(τ i).orb:=λp=>by rw[←hq,QE,a8]
 have i7:q.length<=n:=by rw[←hq];exact Gv t i n
 have i4:0<q.length:=Rl ((a4 i).2 nG.base)
 rw[hq] at oo
 obtain⟨P,cp,rfl,j0,g5,cP⟩: ∃P cp,vo= .sl P 0 q.length cp/\l.next<=P/\P<h4.next/\ ∀k,k<q.length->h4.cell P k=some (aC (q.getD k 0:Nat)):=by
  rcases oo with ⟨_,e⟩|⟨id,m,g4,i5,e1,e2,e3,e4,e5,e6⟩
  ·have:=congrArg List.length e
   rw[aP,aS,List.length_nil] at this;omega
  ·rw[aP,aS,tW] at e2
   subst e2;exact⟨id,g4,e1,e4,e5,λk hk=>by rw[H.cell_of e6,Dt (by rw[aP,aS];exact hk),Ff hk]⟩
 have A4:=A.mono f4
 have pq:PV W h4 (.sl P 0 q.length cp) q:=⟨oo.sv,λhw=>by have:=A.wb P hw;omega⟩
 have d7:h4.get B=aF [aC 0,.aD,.aD]:=by rw[f4.get B (A.wb B A.d)];exact gB
 clear A gB R2 oo
 simp(disch:=omega)only[go_sem]
 refine bQ (λvs G=> ∃(L:V) (r:LN),(∃g:Nat->V,vs= [tv,.ptr B 0,.ptr (B+1) 0,aC i,.sl P 0 q.length cp,L,g 6,g 7,g 8])/\PL W G L r/\ChL τ n i q r/\Fr h4 G) ?_ ?_
 ·refine aI (λk' vs G=> ∃(k:Nat) (L:V) (ws:List V) (r:LN) (W':Nat->Prop),(∃g:Nat->V,vs= [tv,.ptr B 0,.ptr (B+1) 0,aC i,.sl P 0 q.length cp,L,aC k,g 7,g 8])/\k<=q.length/\dH G L 1 ws h4.next/\dZ W' G ws r/\Ik W' L/\(∀id,W id->W' id)/\(∀id,W' id->id<G.next/\(W id∨h4.next<=id))/\r.length=k/\
    (∀j,j<k-> ∀y,(τ i).to (q.getD j 0)=some y->r.getD j []=Lx τ (n-(i+1)) (i+1) y)/\Fr h4 G/\k'=q.length-k) q.length
   ⟨0,.aD, [], [],W,aB rfl,iB _,dH.aD _ _ _,trivial,λ_ _ _ _ e=>(by cases e),λ_ h=>h,λid h=>⟨A4.wb id h,.inl h⟩,rfl,λj hj=>om,Fr.refl _,rfl⟩ ?_
  rintro k' a0 f ⟨k,L,ws,r,W',⟨g,rfl⟩,hk,ow,c0,e9,c1,d2,lr,hr,f5,rfl⟩
  by_cases b5:(k:Int)<(q.length:Int)
  case neg=>
   have e2:=bI b5;obtain rfl:k=q.length:=om
   simp(disch:=omega)only[go_sem,e2];refine⟨L,r,aB rfl,⟨ws,ow.sv,?_,c0.kO (λid _ h=>c1 id h),dH.UH ow⟩,⟨c7,a4,lr,hr⟩,f5⟩
   cases L with
   |sl id b4 m c=>exact λh=>by have:=(ow.in _ _ _ _ rfl).2.1;have:=A4.wb id h;omega
   |_=>trivial
  have e2:=cI b5
  have b9:k<q.length:=om
  obtain⟨p,hp⟩:=exI (q.getD k 0)
  have ck:f.cell P k=some (aC p):=by
   rw[f5.cell g5,cP k b9,hp]
  have d1:p∈(τ i).orb:=(a4 p).1 (by rw[←hp,cW b9];exact xG b9)
  have f3:=nG.lt b3 d1
  obtain⟨y,hy⟩:=nG.to d1
  have Y:=nG.bF _ _ hy
  have R5:=R.mono (A4.fr.trans f5)
  simp(disch:=omega)only[go_sem,e2,ck]
  refine (LF b W0 f n tv ρ F t i p y hn h0 b3 f3 R5 TI tw (by rw[a8];exact hy)).mono ?_
  rw[a8]
  rintro v7 Q c5
  have f7:=c5.fr
  have p7:PV W' Q v7 (Lx τ (n-(i+1)) (i+1) y):=c5.pv λid h=>(d2 id h).1
  simp(disch:=omega)only[go_sem,cK Q (z:= .aD) p7.fG.1 p7.fG.2]
  obtain⟨N,J⟩: ∃N,N=Q.new (.cells false [v7]):=⟨_,rfl⟩
  have g8:N.get Q.next=aF [v7]:=by rw[J,H.aL]
  have n8:N.next=Q.next+1:=by rw[J,H.aW]
  have f8:Fr Q N:=by rw[J];exact (Fr.refl Q).new _
  rw[←J]
  have b2:=f7.trans f8
  have d3:=ow.fr b2
  have j2:=aN.length c0
  obtain⟨h9,a9,p9⟩:=d3.push (bytes:=24) (SV.one om g8 (.kn 1)) (n:=k) (m:=1) om rfl om om om
  simp(disch:=omega)only[go_sem,a9]
  rw[fJ k]
  have n9:=p9.next
  have f9:Fx W' N h9:=p9.fx e9
  have f0:=b2.next
  have c4: ∀id,id<N.next->(W' id∨id=N.next)->W' id:=λid U l=>by
   rcases l with l|l
   ·exact l
   ·omega
  refine⟨q.length-(k+1),om,k+1,_,_,r++ [Lx τ (n-(i+1)) (i+1) y],λid=>W' id∨id=N.next,aB rfl,om,p9.own om rfl (by have:=f5.next;omega),?_,λid b4 m c e=>by cases e;exact .inr rfl,λid h=> .inl (c1 id h),λid h=>?_,by rw[iV,lr];rfl,λj hj z hz=>?_,?_,rfl⟩
  ·exact (dZ.go (dZ.go c0 (Fx.of b2) (λ_ _ h=>h)) f9 c4).append (dZ.one (PV.go (p7.mono f8) f9 c4))
  ·rcases h with h|h
   ·have:=d2 id h;exact⟨om,this.2⟩
   ·have:=f5.next;exact⟨om,.inr om⟩
  ·by_cases e:j=k
   ·subst e
    rw[hp,hy] at hz
    cases hz
    rw[←lr,kQ]
   ·rw[mK om]
    exact hr j om z hz
  ·refine⟨by have:=f5.next;omega,λid b0=>?_⟩
   rw[p9.old id (by have:=f5.next;omega) (λd4 b4 m c e e2=>by have:=(ow.in _ _ _ _ e).2.1;omega),b2.get id (by have:=f5.next;omega)]
   exact f5.get id b0
 rintro a0 f ⟨L,r,⟨g,rfl⟩,pl,i3,f5⟩
 have s:=A4.mono f5
 have i2:=pq.mono f5
 have g9:f.get B=aF [aC 0,.aD,.aD]:=by rw[f5.get B (A4.wb B A4.d)];exact d7
 have cO:f.cell (B+1) 1=some vO:=by rw[H.cell_of s.get];rfl
 have cR:f.cell (B+1) 2=some K:=by rw[H.cell_of s.get];rfl
 obtain⟨ws,b8,d8,g3,e0⟩:=pl
 have pl:PL W f L r:=⟨ws,b8,d8,g3,e0⟩
 have i9:=s.fr.next
 have d0:=s.wb _ s.c
 simp(disch:=omega)only[go_sem,cO,cR,cK _ (z:= .aD) (v:= .sl P 0 q.length cp) rfl rfl]
 obtain⟨h6,b1⟩: ∃h6:H,h6=H.mk ((H.mk f.tr (f.next+3)).new (Ob.cells false [.sl P 0 q.length cp])).tr (f.next+14):=⟨_,rfl⟩
 rw[←b1]
 have g6:h6.get (f.next+3)=aF [.sl P 0 q.length cp]:=by rw[b1];exact H.aL (H.mk f.tr (f.next+3)) _
 have n6:h6.next=f.next+14:=by rw[b1]
 have o6: ∀k,k≠f.next+3->h6.get k=f.get k:=λk hk=>by rw[b1];exact H.bG (H.mk f.tr (f.next+3)) (by simpa using hk) _
 have f6:Fr f h6:=⟨om,λid b0=>o6 id om⟩
 have j3:=aN.length s.aO
 have j1:=aN.length s.aR
 obtain⟨Q,a7,p7⟩:=(s.oO.fr f6).push (bytes:=24) (SV.one om g6 (.kn 1)) (n:=i) (m:=1) om rfl om om om
 have n7:=p7.next
 have a3: ∀k,k<f.next->dR vO k->Q.get k=f.get k:=λk U l=>by rw[p7.old k om l,o6 k om]
 have e8:Q.cell (B+1) 2=some K:=by unfold H.cell;rw[a3 (B+1) d0 s.pO,s.get];rfl
 have eR:dI K K=true:=s.oR.sv.dI
 have c9:L.cells= [L]/\L.one=true:=⟨(SV.cT b8).1,(SV.cT b8).2.1⟩
 simp(disch:=omega)only[go_sem,a7,e8,eR,cK _ (z:= .aD) c9.1 c9.2]
 obtain⟨N,J⟩: ∃N:H,N=H.mk ((H.mk Q.tr (f.next+8)).new (Ob.cells false [L])).tr Q.next:=⟨_,rfl⟩
 rw[←J]
 have g8:N.get (f.next+8)=aF [L]:=by rw[J];exact H.aL (H.mk Q.tr (f.next+8)) _
 have n8:N.next=Q.next:=by rw[J]
 have o8: ∀k,k≠f.next+8->N.get k=Q.get k:=λk hk=>by rw[J];exact H.bG (H.mk Q.tr (f.next+8)) (by simpa using hk) _
 have i1:dH N K 1 b7 h.next:=s.oR.mono om λid b4 m c e _ b0=>by
  rw[o8 id om,a3 id b0 (λd4 i6 n' c' e' e2=>s.Rh _ _ _ _ e' _ _ _ _ e e2.symm)]
 obtain⟨h9,a9,p9⟩:=i1.push (bytes:=24) (SV.one om g8 (.kn 1)) (n:=i) (m:=1) om rfl om om om
 have n9:=p9.next
 have d6: ∀k,f.next<=k->dR K k:=λk hk id b4 m c e e2=>by have:=(s.oR.in _ _ _ _ e).1;omega
 have a6: ∀k,k<f.next->dR vO k->dR K k->h9.get k=f.get k:=λk U l h3=>by rw[p9.old k om h3,o8 k om,a3 k U l]
 have e7:h9.get (B+1)=aF [aC n,vO,K]:=by rw[a6 _ d0 s.pO s.pR];exact s.get
 have i0: ∀(G:H) (x:V),eU (aF [aC n,vO,K]) G (B+1) 1 [x]=some (G.set (B+1) (aF [aC n,x,K])):=λG x=>bT (by simp) G _ x
 have d5: ∀(G:H) (x y:V),eU (aF [aC n,x,K]) G (B+1) 2 [y]=some (G.set (B+1) (aF [aC n,x,y])):=λG x y=>bT (by simp) G _ y
 simp(disch:=omega)only[go_sem,a9,e7,i0,d5]
 rw[fJ i]
 obtain⟨ha,hb⟩:h6.next=f.next+14/\N.next=f.next+15:=⟨n6,om⟩
 rw[ha,hb]
 obtain⟨a5,Z⟩: ∃a5,a5=(h9.set (B+1) (aF [aC n,.sl (f.next+14) 0 (i+1) (.un 1),K])).set (B+1) (aF [aC n,.sl (f.next+14) 0 (i+1) (.un 1),.sl (f.next+15) 0 (i+1) (.un 1)]):=⟨_,rfl⟩
 rw[←Z]
 have b6: ∀k,k≠B+1->a5.get k=h9.get k:=λk hk=>by rw[Z,H.aH _ hk,H.aH _ hk]
 have i8:a5.next=f.next+16:=by rw[Z];show h9.next=_;omega
 have d9:=s.step (v4:= .sl P 0 q.length cp) (v5:=L) (o:=q) (r:=r) (h6:=a5) (a:=f.next+14) (b:=f.next+15) (k1:=i+1) (k2:=i+1) i2 pl om om om om om om om (by rw[Z,H.aU])
  (by rw[b6 _ om,p9.old _ om (d6 _ om),o8 _ om,←ha];exact p7.get) (by rw[b6 _ om,←hb];exact p9.get) (λk U l h3 h4=>by rw[b6 k l];exact a6 k U h3 h4)
 refine⟨n-(i+1),om,i+1,_,_,_,_,_,_,_,aB rfl,om,d9,?_,by rw[iV,lO];rfl,by rw[iV,lR];rfl,λj hj=>?_,rfl⟩
 ·rw[a6 B (s.wb B s.d) s.qO s.qR];exact g9
 ·by_cases e:j=i
  ·subst e
   have e1:(O++ [q]).getD j []=q:=by rw[←lO];exact kQ
   have e2:(R'++ [r]).getD j []=r:=by rw[←lR];exact kQ
   rw[e1,e2]
   exact i3
  ·rw[mK om,mK om]
   exact hC j om
end Go.Proofs.YtcdbmkidaecdiaaGreat
