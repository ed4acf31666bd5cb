/- Texts of the claim. -/
import Derived.Test.YtcdbmkidaecdiaaGreatP8btoU52
import Derived.Test.YtcdbmkidaecdiaaGreatP6btoP8a
import Derived.Test.YtcdbmkidaecdiaaGreatDp2toP6a
set_option maxHeartbeats 64000000
namespace Go.Proofs.YtcdbmkidaecdiaaGreat
open Go Go.Ay Go.Pm
set_option maxRecDepth 100000
section
variable {x:Nat×List Nat} {l:List (Nat×List Nat)}
def Ep (x:Nat×List Nat):List (Nat×List Nat)->List (Nat×List Nat)
 | []=> [x]
 |y::r=>if y.1<=x.1 then y::Ep x r else x::y::r
def Lr (l:List (Nat×List Nat)):List (Nat×List Nat):=l.foldl (λa x=>Ep x a) []
def aeN (l:List (Nat×List Nat)):Prop:=l.Pairwise λx y=>x.1<=y.1
theorem Pe {x:Nat×List Nat}: ∀{A B:List (Nat×List Nat)},(∀y∈A,y.1<=x.1)->(∀y∈B,x.1<y.1)->Ep x (A++B)=A++x::B
 | [], [],_,_=>rfl
 | [],y::r,_,h=>by
  show (if y.1<=x.1 then _ else _)=_;rw[bI (by have:=h y Ab;omega)];rfl
 |y::A,B,h,h2=>by
  show (if y.1<=x.1 then _ else _)=_;rw[bF (h y Ab)];have:=Pe (λz a=>h z (Cu _ a)) h2;rw[List.cons_append,←this]
  rfl
theorem Xj (x:Nat×List Nat): ∀l,(Ep x l).length=l.length+1
 | []=>rfl
 |y::r=>by
  unfold Ep;split
  ·rw[List.length_cons,Xj x r];rfl
  ·rfl
theorem Ny {x z:Nat×List Nat}: ∀{l},z∈Ep x l↔z=x∨z∈l
 | []=>by simp [Ep]
 |y::r=>by
  unfold Ep;split
  ·rw[zH,Ny,zH]
   constructor
   ·rintro (h|h|h)<;>simp [h]
   ·rintro (h|h|h)<;>simp [h]
  ·rw[zH]
theorem Zh {x:Nat×List Nat}: ∀{l},aeN l->aeN (Ep x l)
 | [],_=>List.pairwise_singleton _ _
 |y::r,h=>by
  obtain⟨c,d⟩:=List.pairwise_cons.1 h;unfold Ep;split
  ·rename_i b
   refine List.pairwise_cons.2 ⟨λz a=>?_,Zh d⟩;rcases Ny.1 a with rfl|a
   ·exact b
   ·exact c z a
  ·rename_i b
   refine List.pairwise_cons.2 ⟨λz a=>?_,h⟩;rcases zH.1 a with rfl|a
   ·omega
   ·have:=c z a;omega
theorem Yq {i:Nat}(hi:i<l.length):Lr (l.take (i+1))=Ep l[i] (Lr (l.take i)):=by
 unfold Lr;rw[List.take_succ_eq_append_getElem hi,List.foldl_append]
 rfl
theorem OJ (l:List (Nat×List Nat)): ∀i,i<=l.length->aeN (Lr (l.take i))/\(Lr (l.take i)).length=i/\ ∀x∈Lr (l.take i),x∈l:=by
 intro i
 induction i with
 |zero=>exact λ_=>⟨List.Pairwise.nil,rfl,λx a=>by cases a⟩
 |succ i ih=>
  intro hi;obtain⟨d,b,c⟩:=ih om;rw[Yq om];refine⟨Zh d,by rw[Xj,b],λx a=>?_⟩;rcases Ny.1 a with rfl|a
  ·exact zG _
  ·exact c x a
theorem FR {i:Nat}(hi:i<l.length):sub (Cr l) (i*2) 2=some (Jj l[i]):=by
 have:=GI (s:=2) (f:=Jj) (λ_=>rfl) (ps:=l) (rest:= []) hi;rwa [vF] at this
theorem FJ {k:Nat}(a:k<l.length)(x:Nat×List Nat):putAt (Cr l) (k*2) (Jj x)=some (Cr (l.set k x)):=by
 have:=GN (s:=2) (f:=Jj) (λ_=>rfl) (ps:=l) (rest:= []) a x;rwa [vF,vF] at this
theorem Gv (h:H)(id off:Nat){a b:V}(d:a.one=true)(c:b.one=true):Wj h 2 (.ptr id off) (.agg [a,b])=dX (h.get id) h id off [a,b]:=Cd h id off 2 _ rfl (by simp [d,c])
theorem abQ (S N:Nat)(v:V)(l:List (Nat×List Nat))(h:H)(hl:l.length=N)(hN:N<1000000)(ix: ∀j:Nat,j<N->Dz 2 v (aC j)=some (.ptr S (j*2)))(hS:0<N->S<h.next)(gS:0<N->h.get S=aZ (Cr l))(hs: ∀x∈l,x.1<1000000):
  Ev T 155 [v,aC 0,aC N,.fn 71 [] []] h (λ_ h'=>(0<N->h'.get S=aZ (Cr (Lr l)))/\Fx (· =S) h h'):=by
 refine cV fJ rfl ?_
 simp(disch:=omega)only[go_sem,fJ,aD,Int.zero_add]
 by_cases a3:N=0
 ·subst a3
  have e0:l= []:=List.length_eq_zero_iff.1 hl
  subst e0
  refine aH (λG f W=>(∃g:Nat->V,f= [g 0,g 1,aC 0,g 3,aC 1,g 5,g 6,g 7])/\h=W/\G=0) 0 ⟨aB rfl,rfl,rfl⟩ ?_
  rintro G f W ⟨⟨g,rfl⟩,rfl,rfl⟩
  simp(disch:=omega)only[go_sem,show decide ((1:Int)<0)=false from rfl]
  exact⟨λh=>om,Fx.refl _ _⟩
 have gS:=gS om
 have hS:=hS om
 have f1:Lr (l.take 1)++l.drop 1=l:=by
  cases l with
  |nil=>exact absurd hl.symm a3
  |cons a r=>rfl
 refine aH (λG f W=> ∃(i:Nat),(∃g:Nat->V,f= [v,aC 0,aC N,.fn 71 [] [],aC i,g 5,g 6,g 7])/\1<=i/\i<=N/\W.get S=aZ (Cr (Lr (l.take i)++l.drop i))/\Fx (· =S) h W/\G=N-i) (N- 1)
  ⟨1,aB rfl,om,om,by rw[f1];exact gS,Fx.refl _ h,rfl⟩ ?_
 rintro G f W ⟨i,⟨g,rfl⟩,a6,hi,gi,F,rfl⟩
 by_cases Z:(i:Int)<(N:Int)
 case neg=>
  have d1:=bH Z;obtain rfl:i=N:=om
  rw[←hl,List.take_length,List.drop_length,vF] at gi;simp(disch:=omega)only[go_sem,d1];exact⟨λ_=>gi,F⟩
 have d1:=oQ Z
 have R:i<l.length:=om
 obtain⟨Y,len,mem⟩:=OJ l i om
 have st:=Yq R
 rw[AR R] at gi
 have hx:=hs _ (zG R)
 generalize l[i]=x at gi st hx
 simp(disch:=omega)only[go_sem,d1]
 refine xE (λvs h'=>(∃g:Nat->V,vs= [v,aC 0,aC N,.fn 71 [] [],aC i,g 5,g 6,g 7])/\h'.get S=aZ (Cr (Ep x (Lr (l.take i))++l.drop (i+1)))/\Fx (· =S) h h') ?_ ?_
 ·refine aH (λG f h'=> ∃(j:Nat),(∃g:Nat->V,f= [v,aC 0,aC N,.fn 71 [] [],aC i,aC j,g 6,g 7])/\j<=i/\(∀y∈(Lr (l.take i)).drop j,x.1<y.1)/\h'.get S=aZ (Cr ((Lr (l.take i)).take j++x::(Lr (l.take i)).drop j++l.drop (i+1)))/\Fx (· =S) h h'/\j=G) i
   ⟨i,aB rfl,fM _,λy s=>(by rw[List.drop_eq_nil_of_le om] at s;cases s),by rw[Tn om,List.drop_eq_nil_of_le om,Ll];exact gi,F,rfl⟩ ?_
  obtain⟨c,K⟩:=exI (Lr (l.take i))
  rw[K] at Y len mem
  rw[K]
  obtain⟨P,a0⟩:=exI (l.drop (i+1))
  rw[a0]
  rintro G f n ⟨j,⟨g,rfl⟩,hj,hB,O,F2,rfl⟩
  by_cases a5:(0:Int)<(j:Int)
  case neg=>
   have d2:=bH a5;obtain rfl:j=0:=om
   rw[List.take_zero,List.drop_zero,List.nil_append] at O;have im:=Pe (x:=x) (A:= []) (B:=c) (λy s=>by cases s) hB;rw[List.nil_append,List.nil_append] at im;simp(disch:=omega)only[go_sem,d2];exact⟨aB rfl,by rw[im];exact O,⟨by have:=F2.next;show _<=n.next+17;omega,λq h1 n=>F2.get q h1 n⟩⟩
  have d2:=oQ a5
  have a7:1<=j:=om
  have ja:j- 1<c.length:=om
  obtain⟨d,o⟩:=exI (c.take j++x::c.drop j++P)
  rw[o] at O
  have et:c.take j=c.take (j- 1)++ [c[j- 1]]:=by
   have:=List.take_succ_eq_append_getElem ja;rwa [show j- 1+1=j by omega] at this
  have u:(c.take (j- 1)).length=j- 1:=by rw[Fj,Nat.min_eq_left om]
  have lj:j<d.length:=by
   rw[←o,jZ,jZ,Fj,Nat.min_eq_left om,List.length_cons];omega
  have Q:j- 1<d.length:=om
  have t:c.take (j- 1)++c[j- 1]::x::(c.drop j++P)=d:=by rw[←o,et];simp only[Ll,List.cons_append,List.nil_append]
  have cj:d[j]=x:=by
   have:d[j]? =some x:=by
    rw[←t,Sj om,u,show j-(j- 1)=1 by omega];rfl
   rw[dD lj] at this;exact Option.some.inj this
  have a1:d[j- 1]=c[j- 1]:=by
   have:d[j- 1]? =some c[j- 1]:=by
    rw[←t,Sj om,u,Nat.sub_self];rfl
   rw[dD Q] at this;exact Option.some.inj this
  obtain⟨y,s⟩:=exI (c[j- 1])
  have ys:y.1<1000000:=hs _ (mem y (by rw[←s];exact zG _))
  rw[s] at a1 t
  have a2: ∀h':H,h'.get S=aZ (Cr d)->h'.row S (j*2) 2=some (Jj x)/\h'.row S ((j- 1)*2) 2=some (Jj y):=λh' hg=>by
   have s1:=FR lj;have s2:=FR Q;rw[cj] at s1;rw[a1] at s2;unfold H.row;rw[hg];exact⟨s1,s2⟩
  have a4:=ix j om
  have J:=ix (j- 1) om
  have ej:(j:Int)- 1=((j- 1:Nat):Int):=om
  have n2:=F2.next
  have fb: ∀k,n.next<=k->Fr n (H.mk n.tr k):=λk hk=>(Fr.refl n).bA hk
  obtain⟨r1,r2⟩:=a2 n O
  simp(disch:=omega)only[go_sem,d2,ej,a4,J,r1,r2]
  refine (YC x y _ hx ys).mono ?_
  rintro _ h3 ⟨rfl,f3⟩
  have p:=(fb _ om).trans f3
  have g3:h3.get S=aZ (Cr d):=by rw[p.get S om];exact O
  obtain⟨r3,r4⟩:=a2 h3 g3
  have es: ∀l,dE (.str l) (.str l)=true:=λl=>by simp [dE]
  by_cases w:(x.1:Int)-(y.1:Int)<0
  case neg=>
   have d3:=bH w
   have hA: ∀z∈c.take j,z.1<=x.1:=λz U=>by
    obtain⟨m,hm,rfl⟩:=zF.1 U;rw[Fj,Nat.min_eq_left om] at hm;rw[List.getElem_take]
    by_cases e:m=j- 1
    ·subst e;rw[s];omega
    ·have:=JX.1 Y m (j- 1) om ja om
     rw[s] at this;omega
   have im:=Pe hA hB;rw[List.take_append_drop] at im;simp(disch:=omega)only[go_sem,r3,r4,es,d3];exact⟨aB rfl,by rw[im,o];exact g3,⟨by have:=p.next;omega,λq h1 n=>by rw[p.get q om];exact F2.get q h1 n⟩⟩
  have d3:=oQ w
  have p1: ∀L:H,dX (aZ (Cr d)) L S (j*2) (Jj y)=some (L.set S (aZ (Cr (d.set j y)))):=λL=>by simp only[dX,FJ lj,Option.map_some]
  have p2: ∀L:H,dX (aZ (Cr (d.set j y))) L S ((j- 1)*2) (Jj x)=some (L.set S (aZ (Cr ((d.set j y).set (j- 1) x)))):=λL=>by simp only[dX,FJ (show j- 1<(d.set j y).length by rw[List.length_set];exact Q),Option.map_some]
  simp(disch:=omega)only[go_sem,r3,r4,es,d3,ej,a4,J,Gv _ S (j*2) (a:= aC (y.1:Int)) (b:= .str y.2) rfl rfl,Gv _ S ((j- 1)*2) (a:= aC (x.1:Int)) (b:= .str x.2) rfl rfl,g3,p1,p2]
  have ed:c.drop (j- 1)=y::c.drop j:=by rw[AR ja,s,show j- 1+1=j by omega]
  have el:(d.set j y).set (j- 1) x=c.take (j- 1)++x::c.drop (j- 1)++P:=by
   rw[←t,List.set_append_right _ _ om,u,show j-(j- 1)=1 by omega,List.set_append_right _ _ om,u,Nat.sub_self,ed];simp
  have nf:=p.next
  refine⟨j- 1,om,j- 1,aB rfl,om,λz U=>?_,by rw[el],⟨by simp only[H.bY];show _<=h3.next+18;omega,λq h1 n=>?_⟩,rfl⟩
  ·rw[ed] at U
   rcases zH.1 U with rfl|U
   ·omega
   ·exact hB z U
  ·rw[H.aG _ n,H.aG _ n]
   show h3.get q=_
   rw[p.get q om]
   exact F2.get q h1 n
 rintro f n ⟨⟨g,rfl⟩,O,F2⟩
 simp(disch:=omega)only[go_sem]
 rw[eJ i]
 exact⟨N-(i+1),om,i+1,aB rfl,om,om,by rw[st];exact O,F2,rfl⟩
theorem Zy (S N:Nat)(v:V)(l:List (Nat×List Nat))(h:H)(q:l.length=N)(s:N<20)(i:bT v=some (aC N))(o: ∀j:Nat,j<N->Dz 2 v (aC j)=some (.ptr S (j*2)))(k:0<N->S<h.next)(p:0<N->h.get S=aZ (Cr l))(n: ∀x∈l,x.1<1000000):
  Ev T 70 [v,.fn 71 [] []] h (λ_ h'=>(0<N->h'.get S=aZ (Cr (Lr l)))/\Fx (· =S) h h'):=by
 refine cV dQ rfl ?_
 simp(disch:=omega)only[go_sem,dQ,aD,i]
 refine Ev.mono (Q:=λ_ h'=>(0<N->h'.get S=aZ (Cr (Lr l)))/\Fx (· =S) h h') ?_ ?_
 ·refine cV iK rfl ?_
  simp(disch:=omega)only[go_sem,iK,aD]
  have r:decide ((20:Int)<=(N:Int))=false:=bH om
  have m:decide ((20:Int)<(N:Int))=false:=bH om
  refine aH (λb a c=>(∃g:Nat->V,a= [v,aC N,.fn 71 [] [],aC 20,aC 0,aC 20,g 6,g 7,g 8,g 9,g 10])/\h=c/\b=0) 0 ⟨aB rfl,rfl,rfl⟩ ?_
  rintro b a c ⟨⟨g,rfl⟩,rfl,rfl⟩
  simp(disch:=omega)only[go_sem,r]
  refine (abQ S N v l h q om o k p n).mono ?_
  rintro _ f ⟨d,F2⟩
  simp(disch:=omega)only[go_sem]
  refine aH (λb a c=>(∃g:Nat->V,a= [g 0,aC N,g 2,aC 20,g 4,g 5,g 6,g 7,g 8,g 9,g 10])/\f=c/\b=0) 0 ⟨aB rfl,rfl,rfl⟩ ?_
  rintro b a c ⟨⟨g,rfl⟩,rfl,rfl⟩
  simp(disch:=omega)only[go_sem,m]
  exact⟨d,F2⟩
 rintro _ f ⟨d,F2⟩
 simp(disch:=omega)only[go_sem]
 exact⟨d,F2⟩
end
def LY:Nat->Nat->Nat->Nat
 |0,_,p=>p
 |f+1,q,p=>if q%p=0 then p else LY f q (p+1)
def stA:Nat->Nat->Nat->Nat->Nat×Nat
 |0,_,k,r=>(k,r)
 |f+1,p,k,r=>if r%p=0 then stA f p (k+1) (r/p) else (k,r)
def Eg (p k q r:Nat):List (Nat×List Nat):=if r=1 then List.replicate k (p,67::vT p) else match Eh.find? (λx=>x.1==q) with|some x=> [(q,x.2)]|none=> []
def iY (q:Nat):List (Nat×List Nat):=Eg (LY (q- 2) q 2) (stA q (LY (q- 2) q 2) 0 q).1 q (stA q (LY (q- 2) q 2) 0 q).2
def mU:List Nat->List (Nat×List Nat)
 |a::b::r=>iY (b/a)++mU (b::r)
 |_=> []
theorem Qr: ∀(l:List Nat) (i:Nat) (hi:i+1<l.length),mU (l.take (i+2))=mU (l.take (i+1))++iY (l[i+1]/l[i])
 |a::b::r,0,_=>by simp [mU]
 |a::b::r,i+1,hi=>by
  have c:i+1<(b::r).length:=by simpa using hi
  have:=Qr (b::r) i c;have e: ∀k,mU (a::b::r.take k)=iY (b/a)++mU (b::r.take k):=λk=>rfl
  show mU (a::b::r.take (i+1))=mU (a::b::r.take i)++_;rw[e,e];have d:mU (b::r.take (i+1))=mU (b::r.take i)++iY ((b::r)[i+1]/(b::r)[i]):=this;rw[d,Ll]
  rfl
theorem SJ {p k q r:Nat}(b:2<=p)(a:2<=q)(h:q=p^k*r)(c:1<=r):2^(Eg p k q r).length<=q:=by
 unfold Eg;split
 ·rename_i e
  rw[List.length_replicate,h,e,uW];exact Nat.pow_le_pow_left b k
 ·split
  ·exact a
  ·show 1<=q;omega
section
variable {n:Nat} {G:List Nat->Prop} {L:LN} {K r:List Nat} {rs:LN} (hG:iX n G) (E:dW G L)
theorem UA (E:dW G L)(k:xJ n G L r):dW (RG L r) (r.map λi=>L.getD i []):=by
 refine⟨List.pairwise_map.2 (List.Pairwise.imp_of_mem (λ{i j} hi c (h:i<j)=>?_) k.rk.asc),λx=>?_⟩
 ·have b:=((k.rk.mem i).1 hi).1
  have a:=((k.rk.mem j).1 c).1;rw[List.getD,dD b,List.getD,dD a];exact JX.1 E.asc i j b a h
 ·rw[uF]
  exact Iff.rfl
include hG E
theorem abS (c:Ql n G L K rs r)(b:Cm n G L K){i:Nat}(hi:i+1<rs.length):2*rs[i].length<=rs[i+1].length:=by
 have a:=c.all _ (zG (show i<rs.length by omega));have h:=c.all _ (zG hi);obtain⟨l,k⟩:=c.st i _ _ (dD om) (dD hi);obtain⟨⟨j,d,f,e⟩,_⟩:=Fv hG E a b l;rw[←k] at e;have g:=Gw a (b.lt d) f;rw[←e] at g;have:=dbl (x:=L.getD j []) a.dN h.dN (UA E a) (UA E h) (λy ⟨t,ht,e⟩=>⟨t,g.1 t ht,e⟩) ⟨j,g.2.1,rfl⟩ λ⟨t,ht,e⟩=>f (by rw[←yK E.nodup ((a.rk.mem t).1 ht).1 (b.lt d) e];exact ht)
 simpa using this
end
section
variable {b n:Nat} {h:H} {v:V} {l:List (Nat×List Nat)}
def HQ (b:Nat)(h:H)(v:V)(l:List (Nat×List Nat)):Prop:=(l= []/\v= .aE)∨ ∃S,v= .sl S 0 l.length (.un 2)/\h.get S=aZ (Cr l)/\S<h.next/\b<=S/\0<l.length
theorem HQ.mono {h':H}(r:HQ b h v l)(f:Fr h h'):HQ b h' v l:=by
 rcases r with r|⟨S,e,g,a,c,d⟩
 ·exact .inl r
 ·exact .inr ⟨S,e,by rw[f.get S a];exact g,iW a f.next,c,d⟩
theorem HQ.own (r:HQ b h v l):cY h v 2 (Cr l) b:=by
 rcases r with ⟨rfl,rfl⟩|⟨S,rfl,g,c,a,d⟩
 ·exact cY.aE _ _ _
 ·exact .inr ⟨S,l.length,_, [],rfl,Hl l,.inl rfl,a,c,by rw[vF];exact g⟩
theorem amQ {D:Nat}{x:Nat×List Nat}(r:HQ b h v l)(f:b<=h.next)(u:l.length<1000000)(d:D<h.next)(i:h.get D=aZ (Jj x)):
  ∃v' h',xQ h 2 24 v (.sl D 0 1 (.kn 1))=some (v',h')/\HQ b h' v' (l++ [x])/\h.next<=h'.next/\ ∀q,q<b->h'.get q=h.get q:=by
 have o:=r.own
 obtain⟨h',a,p⟩:=(o.le (iJ _)).push (bytes:=24) (SV.all (sz:=2) (len:=1) (vs:=Jj x) rfl d i (.kn 1)) (n:=l.length) (m:=1) (Hl l) rfl om om om
 have s:=p.next
 refine⟨_,h',a,.inr ⟨h.next,by rw[jZ];rfl,by rw[ZW];exact p.get,om,f,by rw[jZ];exact Nat.succ_pos _⟩,om,λq k=>p.old q om λid j m c e t=>by have:=(o.in _ _ _ _ e).2.1;omega⟩
theorem NS (h:H)(z:Int)(s:List Nat):lQ h 2 [aC 0,.str []] 1 [(0,2,.agg [aC z,.str s])]=some (.sl h.next 0 1 (.kn 1),h.new (.cells false [aC z,.str s])):=rfl
theorem AV.sz {W:Nat->Prop}{G:List Nat->Prop}{L:LN}{p:V×V}{r:List Nat}(g:AV W n L h p r)(E:dW G L)(k:xJ n G L r):
  Ev T 65 [.agg [aC n,p.1,p.2]] h (λv h'=>v= aC (r.length:Nat)/\Fr h h'):=by
 obtain⟨O,R,a⟩:=g
 refine (vW _ n O R _ h a).mono ?_
 rintro _ h' ⟨rfl,f⟩
 rw[k.rk.len k.dN a.isc E k.le]
 exact⟨rfl,f⟩
theorem AV.eq {W:Nat->Prop}{L:LN}{p:V×V}{r:List Nat}(g:AV W n L h p r):dE p.1 p.1=true/\dE p.2 p.2=true:=by
 obtain⟨O,R,g⟩:=g;obtain⟨_,_,_,_,e,a,_,_,c,_,_⟩:=g.cw;simp only[V.agg.injEq,List.cons.injEq,and_true,true_and] at e;rw[e.1,e.2];exact⟨SV.dE a,SV.dE c⟩
theorem abC {sz i o j q:Nat}(a:Sl v sz n i o)(b:Sl v sz n j q)(h:0<n):i=j/\o=q:=by
 have e:=(a.ixa .i64 0 om om).symm.trans (b.ixa .i64 0 om om);simpa using e
theorem NZ: ∀{l:List (Nat×List Nat)} {i:Nat} (hi:i<l.length),(Cr l)[i*2+1]? =some (V.str l[i].2)
 |x::l,0,_=>rfl
 |x::l,i+1,hi=>by
  show (Jj x++Cr l)[(i+1)*2+1]? =_;rw[Sj (by show 2<=(i+1)*2+1;omega)];show (Cr l)[(i+1)*2+1- 2]? =_;rw[show (i+1)*2+1- 2=i*2+1 by omega];exact NZ (by simpa using hi)
theorem SC: ∀k (hk:k<Eh.length),Eh.find? (λx=>x.1==Eh[k].1)=some Eh[k]:=by decide
theorem acO:Eh.Pairwise λx y=>x.1<y.1:=by decide
theorem KU: ∀x∈Eh,x.1<1000000:=by decide
theorem adH (l:List Nat):mU (l.take 1)= []:=by cases l<;>rfl
theorem Uu (l:List (Nat×List Nat)):(Lr l).length=l.length:=by
 have:=(OJ l l.length (fM _)).2.1;rwa [List.take_length] at this
theorem HQ.sort (r:HQ b h v l)(s:b<=h.next)(o:l.length<20)(d: ∀x∈l,x.1<1000000):
  Ev T 70 [v,.fn 71 [] []] h (λ_ h'=>HQ b h' v (Lr l)/\h.next<=h'.next/\ ∀q,q<b->h'.get q=h.get q):=by
 rcases r with ⟨rfl,rfl⟩|⟨S,rfl,g,p,f,a⟩
 ·refine (Zy h.next 0 .aE [] h rfl om rfl (λj c=>om) (λh=>om) (λh=>om) d).mono ?_
  rintro m h' ⟨_,F⟩
  exact⟨.inl ⟨rfl,rfl⟩,F.next,λq k=>F.get q om om⟩
 ·refine (Zy S l.length _ l h rfl o rfl (λj c=>by simp [Dz,c]) (λ_=>p) (λ_=>g) d).mono ?_
  rintro m h' ⟨i,F⟩
  have t:=F.next
  exact⟨.inr ⟨S,by rw[Uu],i a,om,f,by rw[Uu];exact a⟩,F.next,λq k=>F.get q om om⟩
def akA (rs:LN):LN:=(Lr (mU (rs.map List.length))).map Prod.snd
theorem CR {W0:Nat->Prop}(vc:V)(n:Nat)(O:LN)(R:jI)(G:List Nat->Prop)(h:H)(gc:GC W0 h vc n O R G):
  Ev T 14 [vc] h (λv h'=> ∃vl L K rs,v= .tup [vl,aC 0]/\cZ O R n 0 (bL n)=L/\Cm n G L K/\Ky n G L K rs/\SV h' vl 1 ((akA rs).map V.str)/\(akA rs).length<20/\Fr h h'):=by
 obtain⟨vO,vR,rfl,c4,c3⟩:=gc.shape
 refine cV wV rfl ?_
 obtain⟨A,hA⟩:=exI h.next
 obtain⟨h1,e1,n1,g1,q1,f1⟩:=dF hA [aC n,vO,vR]
 simp(disch:=omega)only[go_sem,wV,aD,bM h (v:= aC n) (u:=vO) (w:=vR) rfl c4 c3,hA,e1,aI g1]
 refine (Ph _ n O R G h1 (gc.mono f1)).mono ?_
 rintro _ h2 ⟨vl,ls,L,K,rs,rfl,eL,ik,cl,sv,al,f2⟩
 have hG:=gc.dN
 obtain⟨E,eE⟩:=dM gc.dN gc.isc
 rw[eL] at E eE
 have ll:=jH gc
 obtain⟨rl,cb,g4⟩:=cl.ex
 have f0:=aM.length al
 have g0:=cb.len
 have lv:bT vl=some (aC (rs.length:Int)):=by unfold bT;rw[SV.len sv (n:=rs.length) (by rw[lC,f0]) om];rfl
 have r0:0<rs.length:=(Ax.1 cb.hd).1
 have sb: ∀i (hi:i<rs.length),1<=rs[i].length/\rs[i].length<=5040:=λi hi=>by
  have k:=cb.all _ (zG hi);have:=k.rk.short;refine⟨?_,om⟩;obtain⟨j,hj,_⟩:=k.dN.one;exact HJ hj
 obtain⟨sz,b1⟩:=exI (rs.map List.length)
 have c7:sz.length=rs.length:=by rw[←b1,jV]
 have J: ∀i (hi:i<rs.length),sz[i]'om=rs[i].length:=λi hi=>by subst b1;rw[List.getElem_map]
 have b3: ∀j,sz.getD j 0<=5040:=λj=>by
  by_cases hj:j<rs.length
  ·rw[List.getD,dD om,Option.getD_some,J j hj]
   exact (sb j hj).2
  ·rw[List.getD,List.getElem?_eq_none om];exact iJ _
 simp(disch:=omega)only[go_sem]
 refine aW (λhc=>(hc rfl).elim) (λ_=>?_)
 obtain⟨b,hb⟩:=exI h2.next
 simp(disch:=omega)only[go_sem]
 refine bJ (λvs P=> ∃z,(∃g:Nat->V,vs= [g 0,g 1,g 2,g 3,g 4,g 5,z,g 7,g 8,g 9,g 10,g 11,g 12,g 13,g 14,g 15,g 16,g 17,g 18,g 19,g 20,g 21,g 22,g 23,g 24,g 25,g 26,g 27,g 28,g 29])/\HQ b P z (mU sz)/\2^(mU sz).length<=5040/\(∀x∈mU sz,x.1<1000000)/\Fr h2 P) ?_ ?_
 ·refine aH (λB d P=> ∃(i:Nat) (z:V),(∃g:Nat->V,d= [g 0,g 1,g 2,g 3,vl,g 5,z,aC i,g 8,g 9,g 10,g 11,g 12,g 13,g 14,g 15,g 16,g 17,g 18,g 19,g 20,g 21,g 22,g 23,g 24,g 25,g 26,g 27,g 28,g 29])/\1<=i/\i<=rs.length/\HQ b P z (mU (sz.take i))/\2^(mU (sz.take i)).length<=sz.getD (i- 1) 0/\(∀x∈mU (sz.take i),x.1<1000000)/\Fr h2 P/\B=rs.length-i) (rs.length- 1)
   ⟨1,.aE,aB rfl,om,om,?_,?_,?_,Fr.refl _,rfl⟩ ?_
  ·rw[adH];exact .inl ⟨rfl,rfl⟩
  ·rw[adH,List.getD,dD om,Option.getD_some,J 0 r0]
   exact (sb 0 r0).1
  ·rw[adH];exact λx Q=>by cases Q
  rintro B d P ⟨i,z,⟨g,rfl⟩,h0,hi,fr,bd,sm,F,rfl⟩
  by_cases U:(i:Int)<(rs.length:Int)
  case neg=>
   have d1:=bH U;obtain rfl:i=rs.length:=om
   rw[←c7,List.take_length] at fr bd sm;simp(disch:=omega)only[go_sem,lv,d1];exact⟨z,aB rfl,fr,mT bd (b3 _),sm,F⟩
  have d1:=oQ U
  have W:i<rs.length:=om
  have Y:i- 1<rs.length:=om
  obtain⟨ia,oa,a5,ra,na⟩:=SV.rec (k:=3) (f:=λp:V×V=> [aC n,p.1,p.2]) om (λ_=>rfl) (sv.mono F) (i:=i) om
  obtain⟨ib,ob,b0,rb,nb⟩:=SV.rec (k:=3) (f:=λp:V×V=> [aC n,p.1,p.2]) om (λ_=>rfl) (sv.mono F) (i:=i- 1) om
  obtain⟨rfl,rfl⟩:=abC a5 b0 om
  have ga:=(aM.get al i om W).go (Fx.of F) (W':=λ_=>False) λ_ _ h=>h
  have gb:=(aM.get al (i- 1) om Y).go (Fx.of F) (W':=λ_=>False) λ_ _ h=>h
  have ei:(i:Int)- 1=((i- 1:Nat):Int):=om
  have fb: ∀m,P.next<=m->Fr P (H.mk P.tr m):=λm hm=>(Fr.refl P).bA hm
  simp(disch:=omega)only[go_sem,lv,d1,a5.ixa,ra,ei,b0.ixa,rb]
  refine ((ga.go (Fx.of (fb (P.next+13) om)) (W':=λ_=>False) λ_ _ h=>h).sz E (cb.all _ (zG W))).mono ?_
  rintro _ h3 ⟨rfl,f3⟩
  have a3:=(fb _ om).trans f3
  have c2:h3.row ia (oa+(i- 1)*3) 3=some [aC n,ls[i- 1].1,ls[i- 1].2]:=by rw[DL a3 nb];exact rb
  have eb:=gb.eq
  simp(disch:=omega)only[go_sem,c2,eb.1,eb.2]
  refine ((gb.go (Fx.of a3) (W':=λ_=>False) λ_ _ h=>h).sz E (cb.all _ (zG Y))).mono ?_
  rintro _ h4 ⟨rfl,f4⟩
  have F4:=F.trans (a3.trans f4)
  obtain⟨q,o⟩:=exI (rs[i].length/rs[i- 1].length)
  have s1:=sb (i- 1) Y
  have s2:=sb i W
  have db:=abS hG E cb ik (i:=i- 1) om
  simp only[show i- 1+1=i by omega] at db
  have q2:2<=q:=by rw[←o];exact (Nat.le_div_iff_mul_le om).2 db
  have q3:rs[i- 1].length*q<=rs[i].length:=by rw[←o];exact Nat.mul_div_le _ _
  have q4:q<=5040:=mT (by rw[←o];exact Nat.div_le_self _ _) s2.2
  have c6:Int.tdiv ((rs[i].length:Nat):Int) ((rs[i- 1].length:Nat):Int)=(q:Int):=by rw[←o];rfl
  have z0:decide (((rs[i- 1].length:Nat):Int)=0)=false:=bH om
  simp(disch:=omega)only[go_sem,c6,z0]
  clear c6 z0 c2 ra rb a5 b0
  refine bJ (λvs h'=>h'=h4/\ ∃p:Nat,(∃g:Nat->V,vs= [g 0,g 1,g 2,g 3,vl,g 5,z,aC i,aC q,aC p,g 10,g 11,g 12,g 13,g 14,g 15,g 16,g 17,g 18,g 19,g 20,g 21,g 22,g 23,g 24,g 25,g 26,g 27,g 28,g 29])/\2<=p/\p<=q/\q%p=0/\p=LY (q- 2) q 2) ?_ ?_
  ·refine aH (λB d h'=> ∃(p:Nat),(∃g:Nat->V,d= [g 0,g 1,g 2,g 3,vl,g 5,z,aC i,aC q,aC p,g 10,g 11,g 12,g 13,g 14,g 15,g 16,g 17,g 18,g 19,g 20,g 21,g 22,g 23,g 24,g 25,g 26,g 27,g 28,g 29])/\2<=p/\p<=q/\LY (q-p) q p=LY (q- 2) q 2/\h4=h'/\B=q-p) (q- 2)
    ⟨2,aB rfl,fM _,q2,rfl,rfl,rfl⟩ ?_
   rintro B d h' ⟨p,⟨g,rfl⟩,p2,pq,lp,rfl,rfl⟩
   have em:Int.tmod (q:Int) (p:Int)=((q%p:Nat):Int):=rfl
   have z0:decide ((p:Int)=0)=false:=bH om
   by_cases Z:q%p=0
   ·have dz:decide (((q%p:Nat):Int)≠0)=false:=bH om
    have e:p=LY (q- 2) q 2:=by
     rw[←lp]
     cases q-p with
     |zero=>rfl
     |succ f=>show p=if q%p=0 then p else _;rw[bF Z]
    simp(disch:=omega)only[go_sem,em,z0,dz]
    exact⟨p,aB rfl,p2,pq,Z,e⟩
   ·have dz:decide (((q%p:Nat):Int)≠0)=true:=oQ om
    have pl:p<q:=Nat.lt_of_le_of_ne pq λe=>Z (by rw[e];exact Nat.mod_self q)
    have e:LY (q-(p+1)) q (p+1)=LY (q- 2) q 2:=by
     rw[←lp,show q-p=(q-(p+1))+1 by omega];show _=if q%p=0 then p else _
     rw[bI Z]
    simp(disch:=omega)only[go_sem,em,z0,dz]
    rw[eJ p]
    exact⟨q-(p+1),om,p+1,aB rfl,om,pl,e,rfl⟩
  rintro d h' ⟨rfl,p,⟨g,rfl⟩,p2,pq,Z,ep⟩
  simp(disch:=omega)only[go_sem]
  refine bJ (λvs h5=>Fr h' h5/\ ∃k r:Nat,(∃g:Nat->V,vs= [g 0,g 1,g 2,g 3,vl,g 5,z,aC i,aC q,aC p,aC k,aC r,g 12,g 13,g 14,g 15,g 16,g 17,g 18,g 19,g 20,g 21,g 22,g 23,g 24,g 25,g 26,g 27,g 28,g 29])/\q=p^k*r/\1<=r/\(k,r)=stA q p 0 q) ?_ ?_
  ·refine aH (λB d h5=> ∃(k r f:Nat),(∃g:Nat->V,d= [g 0,g 1,g 2,g 3,vl,g 5,z,aC i,aC q,aC p,aC k,aC r,g 12,g 13,g 14,g 15,g 16,g 17,g 18,g 19,g 20,g 21,g 22,g 23,g 24,g 25,g 26,g 27,g 28,g 29])/\q=p^k*r/\1<=r/\r<=f/\stA f p k r=stA q p 0 q/\k<1000000-r/\Fr h' h5/\r=B) q
    ⟨0,q,q,aB rfl,by simp,om,fM _,rfl,om,Fr.refl _,rfl⟩ ?_
   rintro B d h5 ⟨k,r,f,⟨g,rfl⟩,eq,r1,rf,sf,kb,f5,rfl⟩
   have em:Int.tmod (r:Int) (p:Int)=((r%p:Nat):Int):=rfl
   have z0:decide ((p:Int)=0)=false:=bH om
   have rq:r<=q:=by rw[eq];exact Nat.le_mul_of_pos_left _ (Nat.pow_pos om)
   by_cases Z:r%p=0
   ·have dz:decide (((r%p:Nat):Int)=0)=true:=oQ om
    have ed:Int.tdiv (r:Int) (p:Int)=((r/p:Nat):Int):=rfl
    obtain⟨f',rfl⟩: ∃f',f=f'+1:=⟨f- 1,om⟩
    have e:stA f' p (k+1) (r/p)=stA q p 0 q:=by
     rw[←sf];show _=if r%p=0 then _ else _
     rw[bF Z]
    have rd:r/p<r:=Nat.div_lt_self om om
    have rm:p*(r/p)=r:=Nat.mul_div_cancel' (Nat.dvd_of_mod_eq_zero Z)
    have rp:1<=r/p:=Nat.pos_of_ne_zero λe=>by rw[e,Nat.mul_zero] at rm;omega
    have e2:q=p^(k+1)*(r/p):=by rw[Nat.pow_succ,Nat.mul_assoc,rm];exact eq
    simp(disch:=omega)only[go_sem,em,z0,dz,ed]
    rw[eJ k]
    exact⟨r/p,rd,k+1,r/p,f',aB rfl,e2,rp,om,e,om,f5.trans ((Fr.refl _).bA om),rfl⟩
   ·have dz:decide (((r%p:Nat):Int)=0)=false:=bH om
    have e:(k,r)=stA q p 0 q:=by
     rw[←sf]
     cases f with
     |zero=>omega
     |succ f=>show _=if r%p=0 then _ else _;rw[bI Z]
    simp(disch:=omega)only[go_sem,em,z0,dz]
    exact⟨f5,k,r,aB rfl,eq,r1,e⟩
  rintro d h5 ⟨f5,k,r,⟨g,rfl⟩,d9,r1,d4⟩
  have F5:=F4.trans f5
  have b8:=fr.mono ((a3.trans f4).trans f5)
  have c8:iY q=Eg p k q r:=by
   unfold iY;rw[←ep,←d4]
  have N:mU (sz.take (i+1))=mU (sz.take i)++Eg p k q r:=by
   have:=Qr sz (i- 1) om;simp only[show i- 1+2=i+1 by omega,show i- 1+1=i by omega] at this;rw[J i W,J (i- 1) Y,o,c8] at this;exact this
  have a1:2^(mU (sz.take (i+1))).length<=sz.getD (i+1- 1) 0:=by
   rw[N,jZ,Nat.pow_add,Nat.add_sub_cancel,List.getD,dD om,Option.getD_some,J i W];rw[List.getD,dD om,Option.getD_some,J (i- 1) Y] at bd;exact mT (Nat.mul_le_mul bd (SJ p2 q2 d9 r1)) q3
  have g2:b<=h5.next:=by have:=F5.next;omega
  have e0: ∀{m s:Nat},2^m<=s->s<=5040->m<20:=λ{m s} h1 h2=>Jg λh=>by
   have:=Nat.pow_le_pow_right (show 0<2 by omega) (show 20<=m by omega);have e:2^20=1048576:=rfl;omega
  have a0:=e0 a1 (b3 _)
  have a4:(∀x∈Eg p k q r,x.1<1000000)-> ∀x∈mU (sz.take (i+1)),x.1<1000000:=λh x Q=>by
   rw[N] at Q;exact (pH.1 Q).elim (sm x) (h x)
  rw[N,jZ] at a0
  by_cases a7:r=1
  ·have d2:decide ((r:Int)=1)=true:=oQ om
   have ef:Eg p k q r=List.replicate k (p,67::vT p):=by unfold Eg;rw[bF a7]
   rw[ef,List.length_replicate] at a0
   have c9:=a4 (by rw[ef];exact λx Q=>by rw[(List.mem_replicate.1 Q).2];show p<_;omega)
   simp(disch:=omega)only[go_sem,d2]
   refine bJ (λvs h'=> ∃t,(∃g:Nat->V,vs= [g 0,g 1,g 2,g 3,vl,g 5,t,aC i,g 8,g 9,g 10,g 11,g 12,g 13,g 14,g 15,g 16,g 17,g 18,g 19,g 20,g 21,g 22,g 23,g 24,g 25,g 26,g 27,g 28,g 29])/\HQ b h' t (mU (sz.take i)++List.replicate k (p,67::vT p))/\Fr h2 h') ?_ ?_
   ·refine aH (λB d h'=> ∃(j:Nat) (t:V),(∃g:Nat->V,d= [g 0,g 1,g 2,g 3,vl,g 5,t,aC i,g 8,aC p,g 10,g 11,g 12,g 13,g 14,g 15,g 16,g 17,g 18,g 19,g 20,g 21,aC k,aC j,g 24,g 25,g 26,g 27,g 28,g 29])/\j<=k/\HQ b h' t (mU (sz.take i)++List.replicate j (p,67::vT p))/\Fr h2 h'/\B=k-j) k
     ⟨0,z,aB rfl,iJ _,by rw[List.replicate_zero,vF];exact b8,F5,rfl⟩ ?_
    rintro B d h6 ⟨j,w6,⟨g,rfl⟩,i0,a2,F6,rfl⟩
    by_cases b4:(j:Int)<(k:Int)
    case neg=>
     have d3:=bH b4;obtain rfl:j=k:=om
     simp(disch:=omega)only[go_sem,d3];exact⟨w6,aB rfl,a2,F6⟩
    have d3:=oQ b4
    simp(disch:=omega)only[go_sem,d3]
    refine (WZ p h6 om).mono ?_
    rintro _ h7 ⟨rfl,f7⟩
    have dl:=Yf p
    obtain⟨D,hD⟩:=exI h7.next
    obtain⟨h8,e8,n8,g8,q8,f8⟩:=dF hD (Jj (p,67::vT p))
    have n7:=F6.next
    have g9:=f7.next
    obtain⟨t,h9,a9,a6,n9,o9⟩:=amQ (x:=(p,67::vT p)) ((a2.mono f7).mono f8) om (by rw[jZ,List.length_replicate];omega) om g8
    have e4:ZX h7 (.str [67]) (.str (vT p))=some (.str (67::vT p),h7):=SZ h7 (a:= [67]) (b:=vT p) (by show 1+_<_;omega)
    simp(disch:=omega)only[go_sem,GF,e4,DM,NS,hD,e8,a9]
    rw[eJ j]
    exact⟨k-(j+1),om,j+1,t,aB rfl,om,by rw[List.replicate_succ',←Ll];exact a6,⟨om,λq' b2=>by rw[o9 q' om,q8 q' om,f7.get q' om];exact F6.get q' b2⟩,rfl⟩
   rintro d h6 ⟨w6,⟨g,rfl⟩,a2,F6⟩
   simp(disch:=omega)only[go_sem]
   rw[eJ i]
   exact⟨rs.length-(i+1),om,i+1,w6,aB rfl,om,om,by rw[N,ef];exact a2,a1,c9,F6,rfl⟩
  have d2:decide ((r:Int)=1)=false:=bH om
  simp(disch:=omega)only[go_sem,d2]
  refine (RA h5).mono ?_
  rintro vt h6 ⟨c5,f6⟩
  simp(disch:=omega)only[go_sem]
  refine (TF vt Eh q h6 (by decide) om KU acO c5).mono ?_
  rintro _ h7 ⟨kk,bb,rfl,d5,d7,f7⟩
  have F7:=F5.trans (f6.trans f7)
  have b7:=b8.mono (f6.trans f7)
  cases bb with
  |false=>
   have ef:Eg p k q r= []:=by
    unfold Eg;rw[bI a7,List.find?_eq_none.2 λx Q=>by simpa using d7 rfl x Q]
   simp(disch:=omega)only[go_sem];rw[eJ i];exact⟨rs.length-(i+1),om,i+1,z,aB rfl,om,om,by rw[N,ef,vF];exact b7,a1,a4 (by rw[ef];exact λx Q=>by cases Q),F7,rfl⟩
  |true=>
   obtain⟨hk,ek⟩:=d5 rfl
   have ef:Eg p k q r= [(q,Eh[kk].2)]:=by
    have:=SC kk hk;rw[ek] at this;unfold Eg;rw[bI a7,this]
   obtain⟨it,ot,f9,_,ct⟩:=(c5.mono f7).shape Eh.length (Hl _) om;have ck:=(ct (kk*2+1) (by rw[Hl];omega)).trans (NZ hk);rw[←Nat.add_assoc] at ck;obtain⟨D,hD⟩:=exI h7.next;obtain⟨h8,e8,n8,g8,q8,f8⟩:=dF hD (Jj (q,Eh[kk].2));have n7:=F7.next;obtain⟨t,h9,a9,a6,n9,o9⟩:=amQ (x:=(q,Eh[kk].2)) (b7.mono f8) om om om g8;simp(disch:=omega)only[go_sem,f9.ixa,ck,DM,NS,hD,e8,a9];rw[eJ i];exact⟨rs.length-(i+1),om,i+1,t,aB rfl,om,om,by rw[N,ef];exact a6,a1,a4 (by rw[ef];exact λx Q=>by rw[List.mem_singleton.1 Q];show q<_;omega),⟨om,λq' b2=>by rw[o9 q' om,q8 q' om];exact F7.get q' b2⟩,rfl⟩
 rintro d P ⟨z,⟨g,rfl⟩,fr,bd,sm,F⟩
 have nF:=F.next
 have a0:(mU sz).length<20:=Jg λh=>by
  have:=Nat.pow_le_pow_right (show 0<2 by omega) (show 20<=(mU sz).length by omega);have e:2^20=1048576:=rfl;omega
 simp(disch:=omega)only[go_sem]
 refine (fr.sort om a0 sm).mono ?_
 rintro w3 h3 ⟨c1,n3,o3⟩
 have F3:Fr h2 h3:=⟨om,λq o=>by rw[o3 q om,F.get q o]⟩
 obtain⟨y,b6⟩:=exI (Lr (mU sz))
 have d0:=Uu (mU sz)
 rw[b6] at c1 d0
 have en:akA rs=y.map Prod.snd:=by unfold akA;rw[b1,b6]
 have b5:SV h3 z 2 (Cr y):=c1.own.sv
 have d8:=Yx b5
 simp(disch:=omega)only[go_sem,d8]
 refine aH (λB d h'=> ∃(j:Nat) (w:V),(∃g:Nat->V,d= [g 0,g 1,g 2,g 3,g 4,g 5,g 6,g 7,g 8,g 9,g 10,g 11,g 12,g 13,g 14,w,g 16,g 17,g 18,g 19,g 20,g 21,g 22,g 23,g 24,g 25,z,aC (y.length:Int),aC j,g 29])/\j<=y.length/\cY h' w 1 ((y.take j).map λx=>V.str x.2) h3.next/\Fr h3 h'/\B=y.length-j) y.length
  ⟨0,.aE,aB rfl,iJ _,cY.aE _ _ _,Fr.refl _,rfl⟩ ?_
 rintro B d h4 ⟨j,w,⟨g,rfl⟩,hj,ow,F4,rfl⟩
 by_cases U:(j:Int)<(y.length:Int)
 case neg=>
  have d1:=bH U;obtain rfl:j=y.length:=om
  rw[List.take_length] at ow;simp(disch:=omega)only[go_sem,d1];refine⟨w,L,K,rs,rfl,eL,ik,cl,by rw[en,List.map_map];exact ow.sv,by rw[en,jV];omega,f1.trans (f2.trans (F3.trans F4))⟩
 have d1:=oQ U
 have c0:j<y.length:=om
 obtain⟨ij,oj,d6,rj,_⟩:=Ul (b5.mono F4) c0
 obtain⟨C,hC⟩:=exI h4.next
 obtain⟨h5,e5,n5,g5,q5,f5⟩:=dF hC [aC 0,.str []]
 obtain⟨h6,e6,n6,g6,q6⟩:=pJ h5 C (Jj y[j])
 obtain⟨h7,e7,n7,g7,q7,f7⟩:=dF (h:=h6) (n6.trans n5) [.str y[j].2]
 have b9:Fr h4 h7:=⟨om,λq o=>by rw[q7 q om,q6 q om,q5 q om]⟩
 have n4:=F4.next
 have lt:((y.take j).map λx=>V.str x.2).length=j:=by rw[jV,Fj,Nat.min_eq_left hj]
 obtain⟨h8,a8,p8⟩:=((ow.fr b9).le (iJ _)).push (bytes:=16) (SV.one om g7 (.kn 1)) (n:=j) (m:=1) om rfl om om om
 have n8:=p8.next
 have e3: ∀(o:H) (id:Nat),dX (aZ [aC 0,.str []]) o id 0 (Jj y[j])=some (o.set id (aZ (Jj y[j]))):=λo id=>by simp [dX,putAt]
 have e9: ∀(o:H) (s:List Nat),lQ o 1 [.str []] 1 [(0,1,.str s)]=some (.sl o.next 0 1 (.kn 1),o.new (.cells false [.str s])):=λo s=>cT o rfl rfl
 simp(disch:=omega)only[go_sem,d1,d6.ixa,rj,hC,e5,Gv _ C 0 (a:= aC (y[j].1:Int)) (b:= .str y[j].2) rfl rfl,g5,e3,e6,H.aF g6,e9,n6,n5,e7,a8]
 rw[eJ j]
 refine⟨y.length-(j+1),om,j+1,_,aB rfl,om,?_,⟨om,λq o=>?_⟩,rfl⟩
 ·rw[List.take_succ_eq_append_getElem c0,List.map_append]
  exact p8.own om rfl om
 ·rw[p8.old q om λid g3 m c e e2=>by have:=(ow.in _ _ _ _ e).2.1;omega,b9.get q om]
  exact F4.get q o
end
section
variable {n:Nat} {x y z a b:List Nat}
theorem ahL (A:bE n a)(Y:bE n y)(B:bE n b):aX (aX a y) (aX (dA y) b)=aX a b:=by
 rw[aV A Y (Y.inv.mul B),←aV Y Y.inv B,fC Y,mN B]
theorem Qm (X:bE n x)(Y:bE n y)(Z:bE n z):jE (aX x y) z=aX (cW (jE x z) y) (jE y z):=by
 have A:=qG X Z;have B:=qG Y Z;rw[xX (X.mul Y) Z,Ef X Y Z,Nr X Y,xX X Z,xX Y Z];show _=aX (aX (aX (dA y) (aX (dA x) (cW x z))) y) (aX (dA y) (cW y z));rw[ahL (Y.inv.mul (X.inv.mul A)) Y B,aV Y.inv X.inv (A.mul B),aV Y.inv (X.inv.mul A) B,aV X.inv A B]
theorem zK (X:bE n x)(Y:bE n y):jE x y=aX (cW (dA y) x) y:=by
 show aX (aX (dA x) (dA y)) (aX x y)=aX (aX (aX (dA x) (dA y)) x) y;rw[aV (X.inv.mul Y.inv) X Y]
theorem Mo (X:bE n x)(Y:bE n y)(Z:bE n z):jE x (aX y z)=aX (jE x z) (cW (jE x y) z):=by
 have A:=qG Z.inv X;have B:=qG Y.inv X;rw[zK X (Y.mul Z),Nr Y Z,Ef Z.inv Y.inv X,zK X Z,zK X Y];show _=aX (aX (cW (dA z) x) z) (aX (aX (dA z) (aX (cW (dA y) x) y)) z);rw[aV Z.inv (B.mul Y) Z,ahL A Z ((B.mul Y).mul Z),aV A B (Y.mul Z),aV B Y Z]
end
section
variable {n:Nat} {G K:List Nat->Prop} {O O':LN} {R R':jI}
theorem Ad.all (i:iX n G)(o:iX n K)(c:bC n G O R)(d:bC n K O' R'){p q:List Nat}(f:G p)(r:K q):Ad n R R' (jE p q):=by
 have j:=Ad.dN i o c d;have s: ∀g∈bQ R,bE n g:=λg h=>i.cU (bV c h)
 have l: ∀g∈bQ R',bE n g:=λg h=>o.cU (bV d h)
 have st1: ∀{p},G p-> ∀k,k∈bQ R'->Ad n R R' (jE p k):=λ{p} f k m=>by
  have h:=nJ i c f;clear f
  induction h with
  |one=>rw[KJ (l k m)];exact j.one
  | @mul y g hy hg ih=>
   rw[Qm (hy.cU s) (s g hg) (l k m)];exact j.mul (NC.cj ih (.inl hg)) (NC.of ⟨g,hg,k,m,rfl⟩)
 have h:=nJ o d r;have P:=i.cU f;clear r
 induction h with
 |one=>rw[JY P];exact j.one
 | @mul y g hy hg ih=>
  rw[Mo P (hy.cU l) (l g hg)];exact j.mul (st1 f g hg) (NC.cj ih (.inr hg))
def Cq (n:Nat)(A C D:LN)(ws:List (List (Nat×Nat))):Bool:=
 D==ws.map (λw=>w.foldl (λx i=>aX x (jE (A.getD i.1 []) (C.getD i.2 []))) (bL n))&&ws.all (λw=>w.all λi=>decide (i.1<A.length/\i.2<C.length))&&decide (D.Pairwise λx y=>yU x y=true)&&D.all (λx=>x.length==n)&&D.contains (bL n)&&D.all (λx=>D.all λy=>D.contains (aX x y))&&D.all (λx=>D.contains (dA x))&&A.all (λp=>C.all λq=>D.contains (jE p q))&&D.all (λy=>A.all (λg=>D.contains (cW y g))&&C.all λg=>D.contains (cW y g))
theorem Cq.Xz (r:iX n G)(u:iX n K)(c:bC n G O R)(d:bC n K O' R'){A C D:LN}{ws:List (List (Nat×Nat))}(E:dW G A)(F:dW K C)(h:Cq n A C D ws=true):dW (Ad n R R') D:=by
 unfold Cq at h;simp only[vN,beq_iff_eq,Kv,Qf,List.contains_iff_mem] at h;obtain⟨⟨⟨⟨⟨⟨⟨⟨W,v⟩,N⟩,t⟩,B⟩,J⟩,Q⟩,P⟩,s⟩:=h;have m:=Ad.dN r u c d
 have sub: ∀x,x∈D->Ad n R R' x:=λx f=>by
  rw[W] at f;obtain⟨w,Y,rfl⟩:=uF.1 f
  have o: ∀(w:List (Nat×Nat)) (x:List Nat),(∀i∈w,i.1<A.length/\i.2<C.length)->Ad n R R' x->Ad n R R' (w.foldl (λx i=>aX x (jE (A.getD i.1 []) (C.getD i.2 []))) x):=by
   intro w
   induction w with
   |nil=>exact λx _ h=>h
   |cons i w ih=>
    intro x hi f;have:=hi i (by simp);exact ih _ (λj Z=>hi j (by simp [Z])) (m.mul f (Ad.all r u c d ((E.mem _).1 (bD this.1)) ((F.mem _).1 (bD this.2))))
  exact o w _ (v w Y) m.one
 refine⟨List.Pairwise.imp_of_mem (λf k h=>(Cb (by rw[t _ f,t _ k])).1 h) N,λx=>⟨sub x,λf=>?_⟩⟩
 have U:iX n (· ∈D):=⟨λh=>m.cU (sub _ h),B,λa b=>J _ a _ b,λa=>Q _ a⟩
 refine NC.le (H:=(· ∈D)) f U ?_ ?_
 ·rintro a ⟨p,hp,q,L,rfl⟩
  exact P p ((E.mem _).2 (bV c hp)) q ((F.mem _).2 (bV d L))
 ·rintro y b k (l|l)
  ·exact (s y k).1 b ((E.mem _).2 (bV c l))
  ·exact (s y k).2 b ((F.mem _).2 (bV d l))
end
set_option maxRecDepth 100000
set_option maxRecDepth 100000
set_option maxRecDepth 100000
set_option maxRecDepth 100000
set_option maxHeartbeats 8000000
theorem acR {W W':Nat->Prop}(j m:V)(n:Nat)(c d:nE)(G G':List Nat->Prop)(h:H)(l:GC W h j n c.1 c.2 G)(k:GC W' h m n d.1 d.2 G'):
  Ev T 31 [j,m] h (λv h'=>v= .bool (decide (c=d))/\Fr h h'):=by
 refine (Ve j m n n _ _ _ _ h l.ch k.ch l.small.1 k.small.1 l.small.2 k.small.2).mono ?_
 rintro _ o ⟨rfl,f⟩
 have inj: ∀{a b:LN},a.map zi=b.map zi->a=b:=λh=>map_inj (λ_ _=>Vl) h
 have i: ∀{a b:jI},a.map (List.map zi)=b.map (List.map zi)->a=b:=λh=>map_inj (λ_ _=>inj) h
 exact⟨congrArg V.bool (decide_eq_decide.2 ⟨λ⟨_,a,b⟩=>Prod.ext (inj a) (i b),λe=>by rw[e];exact⟨rfl,rfl,rfl⟩⟩),f⟩
set_option maxRecDepth 100000
set_option maxHeartbeats 16000000
set_option maxRecDepth 100000
structure Sml (d:Int)(O:List (List Int))(R:List (List (List Int))):Prop where
 deg:d<=6∨64<d
 lo:O.length<=12
 lr:R.length<=12
 ro: ∀i,i<O.length->(O.getD i []).length<=12
 rr: ∀i,i<R.length->(R.getD i []).length<=12/\ ∀k,k<(R.getD i []).length->((R.getD i []).getD k []).length<=12
theorem Sml.small {d:Int}{O:List (List Int)}{R:List (List (List Int))}(s:Sml d O R):zV O/\Mf R:=
 ⟨⟨by have:=s.lo;omega,λi hi=>by have:=s.ro i hi;omega⟩,⟨by have:=s.lr;omega,λi hi=>by have:=(s.rr i hi).1;omega⟩⟩
set_option maxRecDepth 100000
theorem afP (h:H)(x y z w u:Int):lQ h 1 [aC 0] 5 [(0,1,aC x),(1,1,aC y),(2,1,aC z),(3,1,aC w),(4,1,aC u)]=some (.sl h.next 0 5 (.kn 5),h.new (.cells false (ints [x,y,z,w,u]))):=by
 have e:cX [aC 0] 5= [aC 0,aC 0,aC 0,aC 0,aC 0]:=rfl;simp [lQ,iS,e,putAt,V.cells,V.one,ints]
abbrev DD:LN:= [[1,2,3,0], [1,0,2,3]]
theorem Wz: ∀g∈DD,bE 4 g:=by
 intro g a;simp only[DD,zH,List.not_mem_nil,or_false] at a;rcases a with rfl|rfl<;>exact⟨rfl,by decide,by decide⟩
abbrev Ij:LN:= [[1,0,3,2], [2,3,0,1]]
theorem Su: ∀g∈Ij,bE 4 g:=by
 intro g a;simp only[Ij,zH,List.not_mem_nil,or_false] at a;rcases a with rfl|rfl<;>exact⟨rfl,by decide,by decide⟩
abbrev D4g:LN:= [[1,2,3,0], [2,1,0,3]]
theorem TC: ∀g∈D4g,bE 4 g:=by
 intro g a;simp only[D4g,zH,List.not_mem_nil,or_false] at a;rcases a with rfl|rfl<;>exact⟨rfl,by decide,by decide⟩
abbrev HH:LN:= [[1,2,0,3,4], [1,2,3,4,0]]
theorem HN: ∀g∈HH,bE 5 g:=by
 intro g a;simp only[HH,zH,List.not_mem_nil,or_false] at a;rcases a with rfl|rfl<;>exact⟨rfl,by decide,by decide⟩
theorem Ke (h:H):Ev T 28 [] h (λv h'=> ∃c0 c1 c2 c3 O0 R0 O1 R1 O2 R2 O3 R3,v= .tup [c0,c1,c2,c3]/\GC (λid=>id<h.next) h' c0 4 O0 R0 (bX 4 (· ∈DD))/\GC (λid=>id<h.next) h' c1 4 O1 R1 (bX 4 (· ∈Ij))/\GC (λid=>id<h.next) h' c2 4 O2 R2 (bX 4 (· ∈D4g))/\GC (λid=>id<h.next) h' c3 5 O3 R3 (bX 5 (· ∈HH))/\Fr h h'):=by
 refine cV Bv rfl ?_;obtain⟨B,hB⟩:=exI h.next;obtain⟨c,e1,n1,g1,o1,f1⟩:=dF hB [aC 0,.aE,.aE];obtain⟨s,e2,n2,g2,o2,f2⟩:=dF n1 [aC 0,.aE,.aE];obtain⟨h3,e3,n3,g3,o3,f3⟩:=dF n2 [aC 0,.aE,.aE];obtain⟨h4,e4,n4,g4,o4,f4⟩:=dF n3 [aC 0,.aE,.aE];have r2:=((f1.trans f2).trans f3).trans f4;have n0:h4.get B=aZ [aC 0,.aE,.aE]:=by rw[o4 _ om,o3 _ om,o2 _ om];exact g1
 have r4:h4.get (B+1)=aZ [aC 0,.aE,.aE]:=by rw[o4 _ om,o3 _ om];exact g2
 have i5:h4.get (B+1+1)=aZ [aC 0,.aE,.aE]:=by rw[o4 _ om];exact g3
 have l1:h4.get (B+1+1+1)=aZ [aC 0,.aE,.aE]:=by exact g4
 obtain⟨Q0,d5⟩: ∃Q,h4.next=Q:=⟨_,rfl⟩
 obtain⟨i0,o5,c9,p5,j7⟩:=mkI d5 [1,2,3,0];obtain⟨j0,k4,f7,l9,h5⟩:=mkI c9 [1,0,2,3];obtain⟨x0,r6,t9,m8,t7,f5⟩:=dF f7 [.sl Q0 0 4 (.kn 4),.sl (Q0+1) 0 4 (.kn 4)];have l5:Fr h4 x0:=(j7.trans h5).trans f5;have KI:SP x0 (.sl (Q0+1+1) 0 2 (.kn 2)) DD:=SP.two (a:= [1,2,3,0]) (b:= [1,0,2,3]) (h:=j0) (p5.mono h5) l9 om f5 m8 _;simp(disch:=omega)only[go_sem,Bv,aD,hB,e1,n1,e2,n2,e3,n3,e4,d5,Ec,o5,c9,k4,f7,Tm _ (mW ..) (mW ..),r6];refine (afJ _ 4 DD x0 om om (by decide) KI Wz).mono ?_;rintro _ m0 ⟨c0,O0,R0,rfl,h7,g7⟩;have p4:=h7.sl;obtain⟨i,j,rfl,a0,b0,r7,p7⟩:=p4;have f:Fr h4 m0:=l5.trans g7;have v4:=f.next;have w4:=g7.next;have n9:m0.get B=aZ [aC 0,.aE,.aE]:=by rw[f.get _ om];exact n0
 obtain⟨K,r3,t4,k8,t⟩:=pJ m0 B [aC (4:Nat),i,j];have q5:=bW m0 B 0 (v:= aC (4:Nat)) (u:=i) (w:=j) rfl a0 b0;have l3:K.get B=aZ [aC (4:Nat),i,j]:=k8;have m9:K.get (B+1)=aZ [aC 0,.aE,.aE]:=by rw[t _ om,f.get _ om];exact r4
 have q6:K.get (B+1+1)=aZ [aC 0,.aE,.aE]:=by rw[t _ om,f.get _ om];exact i5
 have j6:K.get (B+1+1+1)=aZ [aC 0,.aE,.aE]:=by rw[t _ om,f.get _ om];exact l1
 have G0:GC (λid=>id<B+4) K _ 4 O0 R0 _:=h7.go (⟨om,λid c s=>t id om⟩:Fx (λid=>id<x0.next) m0 K) (λid c s=>om)
 have X0:Fx (λid=>id<B+4) h4 K:=⟨om,λid c s=>by rw[t id om,f.get id c]⟩
 obtain⟨Q1,e8⟩: ∃Q,K.next=Q:=⟨_,rfl⟩
 obtain⟨i1,q7,d6,p1,r8⟩:=mkI e8 [1,0,3,2];obtain⟨j1,p2,f0,p8,f8⟩:=mkI d6 [2,3,0,1];obtain⟨x1,k2,u4,j9,v8,e9⟩:=dF f0 [.sl Q1 0 4 (.kn 4),.sl (Q1+1) 0 4 (.kn 4)];have m5:Fr K x1:=(r8.trans f8).trans e9;have l6:SP x1 (.sl (Q1+1+1) 0 2 (.kn 2)) Ij:=SP.two (a:= [1,0,3,2]) (b:= [2,3,0,1]) (h:=j1) (p1.mono f8) p8 om e9 j9 _;simp(disch:=omega)only[go_sem,q5,n9,cF,r3,e8,Ec,q7,d6,p2,f0,Tm _ (mW ..) (mW ..),k2];refine (afJ _ 4 Ij x1 om om (by decide) l6 Su).mono ?_;rintro _ m1 ⟨c1,O1,R1,rfl,c5,g6⟩;have i4:=c5.sl;obtain⟨o,p,rfl,a1,b1,r0,k7⟩:=i4;have m:Fr K m1:=m5.trans g6;have v5:=m.next;have w5:=g6.next;have r1:m1.get (B+1)=aZ [aC 0,.aE,.aE]:=by rw[m.get _ om];exact m9
 obtain⟨W,l8,v1,k1,q⟩:=pJ m1 (B+1) [aC (4:Nat),o,p];have st1:=bW m1 (B+1) 0 (v:= aC (4:Nat)) (u:=o) (w:=p) rfl a1 b1;have s1:W.get B=aZ [aC (4:Nat),i,j]:=by rw[q _ om,m.get _ om];exact l3
 have m7:W.get (B+1)=aZ [aC (4:Nat),o,p]:=k1;have o6:W.get (B+1+1)=aZ [aC 0,.aE,.aE]:=by rw[q _ om,m.get _ om];exact q6
 have o8:W.get (B+1+1+1)=aZ [aC 0,.aE,.aE]:=by rw[q _ om,m.get _ om];exact j6
 have G1:GC (λid=>id<B+4) W _ 4 O1 R1 _:=c5.go (⟨om,λid c s=>q id om⟩:Fx (λid=>id<x1.next) m1 W) (λid c s=>om)
 have X1:Fx (λid=>id<B+4) K W:=⟨om,λid c s=>by rw[q id om,m.get id c]⟩
 obtain⟨Q2,f6⟩: ∃Q,W.next=Q:=⟨_,rfl⟩
 obtain⟨i2,l2,e6,r9,o7⟩:=mkI f6 [1,2,3,0];obtain⟨j2,p3,e0,s9,d3⟩:=mkI e6 [2,1,0,3];obtain⟨x2,k3,w6,j8,t5,g9⟩:=dF e0 [.sl Q2 0 4 (.kn 4),.sl (Q2+1) 0 4 (.kn 4)];have n7:Fr W x2:=(o7.trans d3).trans g9;have s7:SP x2 (.sl (Q2+1+1) 0 2 (.kn 2)) D4g:=SP.two (a:= [1,2,3,0]) (b:= [2,1,0,3]) (h:=j2) (r9.mono d3) s9 om g9 j8 _;simp(disch:=omega)only[go_sem,st1,r1,cF,l8,f6,Ec,l2,e6,p3,e0,Tm _ (mW ..) (mW ..),k3];refine (afJ _ 4 D4g x2 om om (by decide) s7 TC).mono ?_;rintro _ m2 ⟨c2,O2,R2,rfl,c6,d8⟩;have uA:=c6.sl;obtain⟨z,r,rfl,a2,b2,l0,n8⟩:=uA;have d:Fr W m2:=n7.trans d8;have u7:=d.next;have u9:=d8.next;have i9:m2.get (B+1+1)=aZ [aC 0,.aE,.aE]:=by rw[d.get _ om];exact o6
 obtain⟨Y,s6,v7,h9,x⟩:=pJ m2 (B+1+1) [aC (4:Nat),z,r];have i6:=bW m2 (B+1+1) 0 (v:= aC (4:Nat)) (u:=z) (w:=r) rfl a2 b2;have q9:Y.get B=aZ [aC (4:Nat),i,j]:=by rw[x _ om,d.get _ om];exact s1
 have s4:Y.get (B+1)=aZ [aC (4:Nat),o,p]:=by rw[x _ om,d.get _ om];exact m7
 have m6:Y.get (B+1+1)=aZ [aC (4:Nat),z,r]:=h9;have k6:Y.get (B+1+1+1)=aZ [aC 0,.aE,.aE]:=by rw[x _ om,d.get _ om];exact o8
 have G2:GC (λid=>id<B+4) Y _ 4 O2 R2 _:=c6.go (⟨om,λid c s=>x id om⟩:Fx (λid=>id<x2.next) m2 Y) (λid c s=>om)
 have X2:Fx (λid=>id<B+4) W Y:=⟨om,λid c s=>by rw[x id om,d.get id c]⟩
 obtain⟨Q3,e7⟩: ∃Q,Y.next=Q:=⟨_,rfl⟩
 obtain⟨i3,i8,e5,s8,s2⟩:=mkI e7 [1,2,0,3,4];obtain⟨j3,p6,h6,n5,b9⟩:=mkI e5 [1,2,3,4,0];obtain⟨x3,s3,v3,o0,u8,g8⟩:=dF h6 [.sl Q3 0 5 (.kn 5),.sl (Q3+1) 0 5 (.kn 5)];have n6:Fr Y x3:=(s2.trans b9).trans g8;have s5:SP x3 (.sl (Q3+1+1) 0 2 (.kn 2)) HH:=SP.two (a:= [1,2,0,3,4]) (b:= [1,2,3,4,0]) (h:=j3) (s8.mono b9) n5 om g8 o0 _;simp(disch:=omega)only[go_sem,i6,i9,cF,s6,e7,afP,i8,e5,p6,h6,Tm _ (mW ..) (mW ..),s3];refine (afJ _ 5 HH x3 om om (by decide) s5 HN).mono ?_;rintro _ m3 ⟨c3,O3,R3,rfl,d9,d7⟩;have s0:=d9.sl;obtain⟨F,J,rfl,a3,b3,o9,m4⟩:=s0;have l:Fr Y m3:=n6.trans d7;have t8:=l.next;have t6:=d7.next;have r5:m3.get (B+1+1+1)=aZ [aC 0,.aE,.aE]:=by rw[l.get _ om];exact k6
 obtain⟨k,q4,v0,j4,A⟩:=pJ m3 (B+1+1+1) [aC (5:Nat),F,J];have q8:=bW m3 (B+1+1+1) 0 (v:= aC (5:Nat)) (u:=F) (w:=J) rfl a3 b3;have g0:k.get B=aZ [aC (4:Nat),i,j]:=by rw[A _ om,l.get _ om];exact q9
 have d1:k.get (B+1)=aZ [aC (4:Nat),o,p]:=by rw[A _ om,l.get _ om];exact s4
 have d0:k.get (B+1+1)=aZ [aC (4:Nat),z,r]:=by rw[A _ om,l.get _ om];exact m6
 have f9:k.get (B+1+1+1)=aZ [aC (5:Nat),F,J]:=j4;have G3:GC (λid=>id<B+4) k _ 5 O3 R3 _:=d9.go (⟨om,λid c s=>A id om⟩:Fx (λid=>id<x3.next) m3 k) (λid c s=>om)
 have X3:Fx (λid=>id<B+4) Y k:=⟨om,λid c s=>by rw[A id om,l.get id c]⟩
 obtain⟨Q4,v2⟩: ∃Q,k.next=Q:=⟨_,rfl⟩
 obtain⟨y,ey,ny⟩: ∃y:H,H.mk k.tr (k.next+8)=y/\y.next=k.next+8:=⟨_,rfl,rfl⟩
 have fy:Fr k y:=by rw[←ey];exact (Fr.refl k).bA om
 have c7:y.get B=aZ [aC (4:Nat),i,j]:=by rw[fy.get _ om];exact g0
 have h8:y.get (B+1)=aZ [aC (4:Nat),o,p]:=by rw[fy.get _ om];exact d1
 have h0:y.get (B+1+1)=aZ [aC (4:Nat),z,r]:=by rw[fy.get _ om];exact d0
 have d4:y.get (B+1+1+1)=aZ [aC (5:Nat),F,J]:=by rw[fy.get _ om];exact f9
 obtain⟨y0,i7,v9,k9,P⟩:=pJ y B [aC (4:Nat),i,j];have b8:y0.get B=aZ [aC (4:Nat),i,j]:=k9;have a9:y0.get (B+1)=aZ [aC (4:Nat),o,p]:=by rw[P _ om];exact h8
 have b6:y0.get (B+1+1)=aZ [aC (4:Nat),z,r]:=by rw[P _ om];exact h0
 have a8:y0.get (B+1+1+1)=aZ [aC (5:Nat),F,J]:=by rw[P _ om];exact d4
 have t0:=bW y B 0 (v:= aC (4:Nat)) (u:=i) (w:=j) rfl a0 b0;obtain⟨y1,k0,v6,j5,N⟩:=pJ y0 (B+1) [aC (4:Nat),o,p];have a4:y1.get B=aZ [aC (4:Nat),i,j]:=by rw[N _ om];exact b8
 have b7:y1.get (B+1)=aZ [aC (4:Nat),o,p]:=j5;have b4:y1.get (B+1+1)=aZ [aC (4:Nat),z,r]:=by rw[N _ om];exact b6
 have b5:y1.get (B+1+1+1)=aZ [aC (5:Nat),F,J]:=by rw[N _ om];exact a8
 have t1:=bW y0 (B+1) 0 (v:= aC (4:Nat)) (u:=o) (w:=p) rfl a1 b1;obtain⟨y2,p0,u6,k5,U⟩:=pJ y1 (B+1+1) [aC (4:Nat),z,r];have a5:y2.get B=aZ [aC (4:Nat),i,j]:=by rw[U _ om];exact a4
 have a6:y2.get (B+1)=aZ [aC (4:Nat),o,p]:=by rw[U _ om];exact b7
 have Z:y2.get (B+1+1)=aZ [aC (4:Nat),z,r]:=k5;have a7:y2.get (B+1+1+1)=aZ [aC (5:Nat),F,J]:=by rw[U _ om];exact b5
 have t2:=bW y1 (B+1+1) 0 (v:= aC (4:Nat)) (u:=z) (w:=r) rfl a2 b2;obtain⟨y3,l7,u5,l4,L⟩:=pJ y2 (B+1+1+1) [aC (5:Nat),F,J];have d2:y3.get B=aZ [aC (4:Nat),i,j]:=by rw[L _ om];exact a5
 have c4:y3.get (B+1)=aZ [aC (4:Nat),o,p]:=by rw[L _ om];exact a6
 have c8:y3.get (B+1+1)=aZ [aC (4:Nat),z,r]:=by rw[L _ om];exact Z
 have g5:y3.get (B+1+1+1)=aZ [aC (5:Nat),F,J]:=l4;have t3:=bW y2 (B+1+1+1) 0 (v:= aC (5:Nat)) (u:=F) (w:=J) rfl a3 b3;have q0:dE (.agg [aC (4:Nat),i,j]) (.agg [aC (4:Nat),i,j])=true:=by simp [dE,aoW,r7,p7]
 have q1:dE (.agg [aC (4:Nat),o,p]) (.agg [aC (4:Nat),o,p])=true:=by simp [dE,aoW,r0,k7]
 have q2:dE (.agg [aC (4:Nat),z,r]) (.agg [aC (4:Nat),z,r])=true:=by simp [dE,aoW,l0,n8]
 have q3:dE (.agg [aC (5:Nat),F,J]) (.agg [aC (5:Nat),F,J])=true:=by simp [dE,aoW,o9,m4]
 simp(disch:=omega)only[go_sem,q8,r5,cF,q4,aI g0,aI d1,aI d0,aI f9];rw[ey];simp(disch:=omega)only[go_sem,t0,c7,i7,t1,a9,k0,t2,b4,p0,t3,a7,l7,cF,aI c7,aI h8,aI h0,aI d4,aI b8,aI a9,aI b6,aI a8,aI a4,aI b7,aI b4,aI b5,aI a5,aI a6,aI Z,aI a7,aI d2,aI c4,aI c8,aI g5,q0,q1,q2,q3]
 have Xe:Fx (λid=>id<B+4) k y3:=⟨om,λid c s=>by rw[L id om,U id om,N id om,P id om,fy.get id om]⟩
 have low: ∀{v n O R G},GC (λid=>id<B+4) k v n O R G->GC (λid=>id<B) y3 v n O R G:=λg=>g.go Xe (λid _ p9=>om)
 refine⟨_,_,_,_,O0,R0,O1,R1,O2,R2,O3,R3,rfl,low (((G0.go X1 λ_ _ h=>h).go X2 λ_ _ h=>h).go X3 λ_ _ h=>h),low ((G1.go X2 λ_ _ h=>h).go X3 λ_ _ h=>h),low (G2.go X3 λ_ _ h=>h),low G3,⟨om,λid p9=>?_⟩⟩;rw[L id om,U id om,N id om,P id om,fy.get id om,A id om,l.get id om,x id om,d.get id om,q id om,m.get id om,t id om,f.get id om];exact r2.get id om
section
variable {n:Nat} {w:Bool} {c d:nE} {l:List nE} {Gc Gd:List Nat->Prop} {A C D:LN} {ws:List (List (Nat×Nat))}
theorem To {G K:List Nat->Prop}(E:dW G A)(F:dW K A)(x:List Nat):G x↔K x:=(E.mem x).symm.trans (F.mem x)
structure Mem (n:Nat)(d:nE)(Gd:List Nat->Prop)(A:LN):Prop where
 dN:iX n Gd
 isc:bC n Gd d.1 d.2
 el:dW Gd A
theorem Mem.sz (m:Mem n d Gd A):kI d.1 n 0=A.length:=by
 obtain⟨E,e⟩:=dM m.dN m.isc;rw[←e,E.uniq m.el]
theorem Mem.nx (a:Mem n c Gc C)(m:Mem n d Gd A)(h:Cq n A (if w then C else A) D ws=true):iX n (Kf n w c d)/\dW (Kf n w c d) D:=by
 unfold Kf
 cases w with
 |false=>exact⟨Ad.dN m.dN m.dN m.isc m.isc,Cq.Xz m.dN m.dN m.isc m.isc m.el m.el h⟩
 |true=>exact⟨Ad.dN m.dN a.dN m.isc a.isc,Cq.Xz m.dN a.dN m.isc a.isc m.el a.el h⟩
theorem vZ (s:uC n w c l)(j:Mem n c Gc C){k:Nat}(b:l[k]? =some d)(m:Mem n d Gd A)(h:Cq n A (if w then C else A) D ws=true)(a:D≠A): ∃e,l[k+1]? =some e/\Mem n e (Kf n w c d) D:=by
 obtain⟨g,E⟩:=j.nx m h;have t:k<l.length:=(Ax.1 b).1
 by_cases o:k+1<l.length
 ·have i:=dD o
  exact⟨_,i,g,(s.st k _ _ b i).1,E⟩
 ·have f:k=l.length- 1:=om
  have q:=s.en d (by rw[←f];exact b);obtain⟨p,_⟩:=dM m.dN m.isc;obtain⟨r,_⟩:=dM g q;exact absurd ((E.uniq r).trans (p.uniq m.el)) a
theorem Ua (s:uC n w c l)(j:Mem n c Gc C){k:Nat}(f:l[k]? =some d)(m:Mem n d Gd A)(h:Cq n A (if w then C else A) A ws=true):l.length=k+1:=by
 obtain⟨g,E⟩:=j.nx m h;have r:k<l.length:=(Ax.1 f).1
 by_cases p:k+1<l.length
 ·have o:=dD p
  obtain⟨q,i⟩:=s.st k _ _ f o;obtain⟨a,b⟩:=(q.congr (To E m.el)).uniq m.isc;exact absurd (Prod.ext a b) i
 ·omega
end
abbrev DH:LN:= [[0,1,2,3], [0,1,3,2], [0,2,1,3], [0,2,3,1], [0,3,1,2], [0,3,2,1], [1,0,2,3], [1,0,3,2], [1,2,0,3], [1,2,3,0], [1,3,0,2], [1,3,2,0], [2,0,1,3], [2,0,3,1], [2,1,0,3], [2,1,3,0], [2,3,0,1], [2,3,1,0], [3,0,1,2], [3,0,2,1], [3,1,0,2], [3,1,2,0], [3,2,0,1], [3,2,1,0]]
theorem Am:dW (bX 4 (· ∈DD)) DH:=Ze.Xz (ws:= [[], [0,0,1,0,0], [0,0,0,1,0], [0,1], [0,1,0,1], [1,0,0,1,0], [1], [0,0,1,0,0,1], [0,0,0,1,0,1], [0], [0,1,0], [0,0,0,1,0,0], [0,1,0,0], [1,0,1], [0,1,0,0,1], [1,0], [0,0], [0,0,1], [0,0,0], [0,0,1,0], [0,0,0,1], [0,0,1,0,1], [1,0,0], [1,0,0,1]]) (by decide+kernel)
abbrev MQ:LN:= [[0,1,2,3], [0,2,3,1], [0,3,1,2], [1,0,3,2], [1,2,0,3], [1,3,2,0], [2,0,1,3], [2,1,3,0], [2,3,0,1], [3,0,2,1], [3,1,0,2], [3,2,1,0]]
abbrev qB:LN:= [[0,1,2,3], [1,0,3,2], [2,3,0,1], [3,2,1,0]]
abbrev aaK:LN:= [[0,1,2,3]]
theorem agW:Cq 4 DH (if false then DH else DH) MQ [[], [(1,4)], [(1,2)], [(1,16)], [(2,12)], [(3,18)], [(2,6)], [(1,10)], [(3,19)], [(4,6)], [(1,8)], [(2,7)]]=true:=by decide+kernel
theorem ahO:Cq 4 MQ (if false then DH else MQ) qB [[], [(1,6)], [(1,9)], [(1,3)]]=true:=by decide+kernel
theorem ahZ:Cq 4 qB (if false then DH else qB) aaK [[]]=true:=by decide+kernel
theorem ahV:Cq 4 aaK (if false then DH else aaK) aaK [[]]=true:=by decide+kernel
theorem Zi {c:nE}{l:List nE}(p:bC 4 (bX 4 (· ∈DD)) c.1 c.2)(s:uC 4 false c l):l.map (λe=>kI e.1 4 0)= [24,12,4,1]:=by
 have a:Mem 4 c _ DH:=⟨bX.dN Wz,p,Am⟩
 have o:=s.hd;obtain⟨u,m,j⟩:=vZ s a o a agW (by decide);obtain⟨r,f,b⟩:=vZ s a m j ahO (by decide);obtain⟨q,k,h⟩:=vZ s a f b ahZ (by decide);have t:=Ua s a k h ahV;refine List.ext_getElem? λi=>?_
 rw[Ol]
 match i with
 |0=>rw[o];exact congrArg some a.sz
 |1=>rw[m];exact congrArg some j.sz
 |2=>rw[f];exact congrArg some b.sz
 |3=>rw[k];exact congrArg some h.sz
 |i+4=>rw[List.getElem?_eq_none om];rfl
abbrev ZQ:LN:= [[0,1,2,3], [0,3,2,1], [1,0,3,2], [1,2,3,0], [2,1,0,3], [2,3,0,1], [3,0,1,2], [3,2,1,0]]
theorem BT:dW (bX 4 (· ∈D4g)) ZQ:=Ze.Xz (ws:= [[], [0,0,1], [0,1], [0], [1], [0,0], [0,0,0], [1,0]]) (by decide+kernel)
abbrev aeU:LN:= [[0,1,2,3], [2,3,0,1]]
abbrev XG:LN:= [[0,1,2,3]]
theorem aiI:Cq 4 ZQ (if true then ZQ else ZQ) aeU [[], [(1,2)]]=true:=by decide+kernel
theorem ahY:Cq 4 aeU (if true then ZQ else aeU) XG [[]]=true:=by decide+kernel
theorem aiJ:Cq 4 XG (if true then ZQ else XG) XG [[]]=true:=by decide+kernel
theorem Xs {c:nE}{l:List nE}(m:bC 4 (bX 4 (· ∈D4g)) c.1 c.2)(s:uC 4 true c l):l.map (λe=>kI e.1 4 0)= [8,2,1]:=by
 have a:Mem 4 c _ ZQ:=⟨bX.dN TC,m,BT⟩
 have k:=s.hd;obtain⟨q,j,h⟩:=vZ s a k a aiI (by decide);obtain⟨o,f,b⟩:=vZ s a j h ahY (by decide);have p:=Ua s a f b aiJ;refine List.ext_getElem? λi=>?_
 rw[Ol]
 match i with
 |0=>rw[k];exact congrArg some a.sz
 |1=>rw[j];exact congrArg some h.sz
 |2=>rw[f];exact congrArg some b.sz
 |i+3=>rw[List.getElem?_eq_none om];rfl
section
variable {Rp Cg:List Nat}
def agR (s:List Nat)(gs a:LN):LN:=gs.foldl (λa g=>if a.contains (aX s g) then a else a++ [aX s g]) a
def Yy (gs:LN):Nat->Nat->LN->LN
 |0,_,S=>S
 |f+1,i,S=>match S[i]? with
  |none=>S
  |some s=>Yy gs f (i+1) (agR s gs S)
theorem Ma {P:List Nat->Prop}{d:LN}(j: ∀x,P x-> ∀g∈d,P (aX x g)): ∀(f i:Nat) (S:LN),(∀x∈S,P x)-> ∀x∈Yy d f i S,P x
 |0,_,_,h=>h
 |f+1,i,S,h=>by
  unfold Yy;split
  ·exact h
  ·rename_i s n
   refine Ma j f _ _ ?_
   have o: ∀(l:LN),(∀g∈l,g∈d)-> ∀a:LN,(∀x∈a,P x)-> ∀x∈agR s l a,P x:=by
    intro l
    induction l with
    |nil=>exact λ_ a c=>c
    |cons g l ih=>
     intro k a c;refine ih (λg m=>k g (Cu _ m)) _ ?_;dsimp only;split
     ·exact c
     ·intro x b
      rcases pH.1 b with b|b
      ·exact c x b
      ·rw[List.mem_singleton.1 b];exact j s (h s (AW n)) g (k g Ab)
   exact o d (λg h=>h) S h
def pmL (L:LN)(N:List Nat):LN:=N.map λi=>L.getD i []
def FG (n:Nat)(L:LN)(N:List Nat):Bool:=
 decide (N.Pairwise (· < ·))&&N.all (λi=>decide (i<L.length))&&(pmL L N).all (λx=>(pmL L N).all λy=>(pmL L N).contains (aX x y))&&(pmL L N).all (λx=>(pmL L N).contains (dA x))&&(pmL L N).contains (bL n)&&(pmL L N).all λy=>L.all λg=>(pmL L N).contains (cW y g)
def NxB (n:Nat)(L:LN)(Rp Cg N N':List Nat):Bool:=
 (N.all λi=>N'.contains i)&&(List.range L.length).all (λi=>N.contains i||Rp.any λr=>!N.contains r&&(L.map (cW (L.getD r []))).contains (L.getD i []))&&Rp.all (λr=>decide (r<L.length)&&(N.contains r||(pmL L N').all λx=>(Yy (pmL L N++Cg.map λg=>cW (L.getD r []) (L.getD g [])) L.length 0 [bL n]).contains x))&&Cg.all (λg=>decide (g<L.length))&&N'.any λi=>!N.contains i
def WL (n:Nat)(L:LN)(Rp Cg:List Nat):LN->Bool
 |a::b::r=>(b==List.range L.length||FG n L b)&&NxB n L Rp Cg a b&&decide (a.length<L.length)&&WL n L Rp Cg (b::r)
 | [a]=>decide (a.length=L.length)
 | []=>false
section
variable {n:Nat} {G:List Nat->Prop} {L:LN} {K N N' r:List Nat} {rs:LN}
theorem Nv {x:List Nat}:x∈pmL L N↔RG L N x:=by
 unfold pmL;rw[uF];exact Iff.rfl
variable (hG:iX n G) (E:dW G L)
include hG E
theorem FG.ok (h:FG n L N=true):xJ n G L N:=by
 unfold FG at h;simp only[vN,Kv,Qf,List.contains_iff_mem,Nv] at h;obtain⟨⟨⟨⟨⟨s,c⟩,q⟩,f⟩,l⟩,o⟩:=h;have le: ∀x,RG L N x->G x:=λx ⟨i,hi,e⟩=>by rw[←e];exact oS E (c i hi)
 refine⟨⟨s,λi=>⟨λhi=>⟨c i hi,i,hi,rfl⟩,λ⟨hi,j,hj,e⟩=>?_⟩⟩,⟨λt=>hG.cU (le _ t),l,λ{a b} d k=>q a d b k,λ{a} d=>f a d⟩,λy g m p=>o y m g ((E.mem g).2 p),le⟩;rw[←yK E.nodup (c j hj) hi e];exact hj
theorem RF:xJ n G L (List.range L.length):=by
 have e:RG L (List.range L.length)=G:=funext λx=>propext ⟨λ⟨i,hi,e⟩=>by rw[←e];exact oS E (Gu.1 hi),λh=>by
  obtain⟨i,hi,e⟩:=zF.1 ((E.mem x).2 h)
  exact⟨i,Gu.2 hi,by rw[List.getD,dD hi];exact e⟩⟩
 refine⟨⟨List.pairwise_lt_range,λi=>?_⟩,by rw[e];exact hG,by rw[e];exact λy g b a=>hG.mul (hG.mul (hG.inv a) b) a,by rw[e];exact λx h=>h⟩;rw[Gu,e];exact⟨λh=>⟨h,oS E h⟩,λh=>h.1⟩
theorem NxB.ok (k:xJ n G L N)(o:xJ n G L N')(B:Cm n G L K)(hl:N.length<L.length)(h:NxB n L Rp Cg N N'=true):Pw n G L K N=N':=by
 unfold NxB at h;simp only[vN,Kv,List.any_eq_true,Bool.or_eq_true,Bool.not_eq_true',Qf,List.contains_iff_mem,Nv,Gu] at h;obtain⟨⟨⟨⟨h1,z⟩,l⟩,hC⟩,w,s,O⟩:=h;have nc: ∀{i:Nat},N.contains i=false->i∉N:=λh z=>by rw[List.contains_iff_mem.2 z] at h;cases h
 obtain⟨⟨i,hi,hn,e⟩,A,_,F⟩:=Fv hG E k B hl;have q:=B.lt hi
 have up: ∀t∈N',t∈Pw n G L K N:=λt f=>by
  rw[e];refine (Bj t).2 ⟨((o.rk.mem t).1 f).1,?_⟩;rcases z i q with h|⟨r,hr,J,R⟩
  ·exact absurd h hn
  ·obtain⟨p,l⟩:=l r hr
   rcases l with l|l
   ·exact absurd l (nc J)
   ·obtain⟨g,d,u⟩:=uF.1 R
    have gr:=Lb.dN hG k.le (oS E q);have m:=(E.mem g).1 d
    have rx:Lb n G (RG L N) (L.getD i []) (L.getD r []):=by
     have:=NC.cj (n:=n) (NC.of (.inr rfl):Lb n G (RG L N) (L.getD i []) (L.getD i [])) (hG.inv m);rw[←u,←nX (lY hG E p) (hG.cU m) (hG.cU m).inv,fC (hG.cU m),mG (lY hG E p)] at this;rwa [←u]
    refine Ma (P:=Lb n G (RG L N) (L.getD i [])) (λx Y g d=>gr.mul Y ?_) L.length 0 [bL n] (λx Y=>by rw[List.mem_singleton.1 Y];exact gr.one) _ (l _ ⟨t,f,rfl⟩);rcases pH.1 d with d|d
    ·exact NC.of (.inl (Nv.1 d))
    ·obtain⟨c,R,rfl⟩:=uF.1 d
     exact NC.cj rx (oS E (hC c R))
 have v:=((o.rk.mem w).1 s).1;obtain⟨y,a0,hR,g,d,u⟩:=Vo hG E v;have W:y∈K:=B.perm.mem_iff.2 (kV.2 ⟨om,hR⟩)
 have yN:y∉N:=λh=>nc O (by
  obtain⟨t,f,U⟩:=k.nm _ _ ⟨y,h,rfl⟩ d;have:t=w:=yK E.nodup ((k.rk.mem t).1 f).1 v (U.trans u)
  rw[←this];exact f)
 have Q:RG L N' (L.getD y []):=by
  have:=o.nm _ _ ⟨w,s,rfl⟩ (hG.inv d);rwa [←u,←nX (lY hG E om) (hG.cU d) (hG.cU d).inv,fC (hG.cU d),mG (lY hG E om)] at this
 have Z: ∀t∈yR n G L N y,t∈N':=λt f=>by
  obtain⟨l,h4⟩:=(Bj t).1 f;have:RG L N' (L.getD t []):=NC.le h4 o.dN (λa h=>h.elim (λ⟨j,hj,e⟩=>⟨j,h1 j hj,e⟩) λe=>by rw[e];exact Q) λa b ha hb=>o.nm a b ha hb
  exact (o.rk.mem t).2 ⟨l,this⟩
 have U:=F y W yN λt f=>up t (Z t f)
 refine VD A.rk.asc o.rk.asc λt=>⟨λf=>Z t (by rw[U];exact f),up t⟩
theorem WL.ok (c:Ql n G L K rs r)(p:r.length=L.length)(i:Cm n G L K): ∀(Ns:LN) (N:List Nat) (k:Nat),rs[k]? =some N->xJ n G L N->WL n L Rp Cg (N::Ns)=true->rs.drop k=N::Ns
 | [],N,k,hk,kN,h=>by
  have d:N.length=L.length:=of_decide_eq_true h;have b:=(Ax.1 hk).1
  have: ¬k+1<rs.length:=λa=>by
   have:=(c.st k _ _ hk (dD a)).1;omega
  rw[AR b,List.drop_eq_nil_of_le om];rw[dD b] at hk;rw[Option.some.inj hk]
 |N'::Ns,N,k,hk,kN,h=>by
  unfold WL at h;simp only[vN,Qf] at h;obtain⟨⟨⟨a,l⟩,o⟩,m⟩:=h
  have f:xJ n G L N':=by
   rw[Bool.or_eq_true] at a;rcases a with a|a
   ·rw[beq_iff_eq.1 a];exact RF hG E
   ·exact FG.ok hG E a
  have b:=(Ax.1 hk).1
  have j:k+1<rs.length:=Nat.lt_of_not_le λh=>by
   have d:=c.la;rw[show rs.length- 1=k by omega,hk] at d;cases d;omega
  have e:=(c.st k _ _ hk (dD j)).2;rw[NxB.ok hG E kN f i o l] at e;have:=WL.ok c p i Ns N' (k+1) (by rw[dD j,e]) f m;rw[dD b] at hk;rw[AR b,this,Option.some.inj hk]
omit hG E in
theorem DT (a:xJ n G L [0])(b:L.getD 0 []=bL n):Pz L (λx=>x=bL n)= [0]:=by
 refine (Dy L _).uniq (K:=λx=>x=bL n) ⟨a.rk.asc,λi=>?_⟩;rw[a.rk.mem i]
 refine and_congr_right λ_=>⟨λ⟨j,hj,e⟩=>?_,λe=>⟨0,List.mem_singleton.2 rfl,?_⟩⟩
 ·rw[List.mem_singleton.1 hj] at e;rw[←e,b]
 ·rw[b,e]
theorem OZ (i:Ky n G L K rs)(k:Cm n G L K){a:LN}(f:FG n L [0]=true)(l:L.getD 0 []=bL n)(h:WL n L Rp Cg ([0]::a)=true):rs= [0]::a:=by
 obtain⟨r,c,j⟩:=i.ex;have d:=FG.ok hG E f;have e:=DT d l;have b:=c.hd;rw[e] at b;exact WL.ok hG E c j k a [0] 0 b d h
end
theorem RC {K:List Nat}{rs:LN}(a:Ky 4 (bX 4 (· ∈DD)) DH K rs)(b:Cm 4 (bX 4 (· ∈DD)) DH K):rs= [[0], [0,7,16,23], [0,3,4,7,8,11,12,15,16,19,20,23],List.range 24]:=OZ (Rp:= [1,3,7,9]) (Cg:= [0,2,8]) (bX.dN Wz) Am a b (by decide+kernel) rfl (by decide+kernel)
theorem Ah:dW (bX 4 (· ∈Ij)) qB:=Ze.Xz (ws:= [[], [0], [1], [0,1]]) (by decide+kernel)
theorem acU {i:Nat}(f:i<4)(m:i∉ [0]):yR 4 (bX 4 (· ∈Ij)) qB [0] i= [0,i]/\xJ 4 (bX 4 (· ∈Ij)) qB [0,i]/\WL 4 qB [1,2,3] [0] [[0,i],List.range 4]=true:=by
 have hG:=bX.dN Su;have E:=Ah;have l:xJ 4 (bX 4 (· ∈Ij)) qB [0]:=FG.ok hG E (by decide+kernel);have k: ∀i,i<4->i∉ [0]->FG 4 qB [0,i]=true/\WL 4 qB [1,2,3] [0] [[0,i],List.range 4]=true:=by decide+kernel
 obtain⟨x,o⟩:=k i f m;have d:xJ 4 (bX 4 (· ∈Ij)) qB [0,i]:=FG.ok hG E x;refine⟨VD (akE hG E l f).rk.asc d.rk.asc λt=>?_,d,o⟩;obtain⟨u,s,_⟩:=Gw l f m;refine⟨λc=>?_,λc=>?_⟩
 ·obtain⟨w,p⟩:=(Bj t).1 c
  refine (d.rk.mem t).2 ⟨w,NC.le p d.dN (λa h=>h.elim (λ⟨j,hj,e⟩=>⟨j,by rw[List.mem_singleton.1 hj];exact Ab,e⟩) λe=>by rw[e];exact⟨i,by simp,rfl⟩) λa b v q=>d.nm a b v q⟩
 ·rcases zH.1 c with rfl|c
  ·exact u 0 Ab
  ·rw[List.mem_singleton.1 c];exact s
theorem VC {K:List Nat}{rs:LN}(s:Ky 4 (bX 4 (· ∈Ij)) qB K rs)(d:Cm 4 (bX 4 (· ∈Ij)) qB K): ∃i,i<4/\i∉ [0]/\rs= [[0], [0,i],List.range 4]/\Pw 4 (bX 4 (· ∈Ij)) qB K [0]= [0,i]:=by
 obtain⟨r,c,m⟩:=s.ex;have hG:=bX.dN Su;have E:=Ah;have f:xJ 4 (bX 4 (· ∈Ij)) qB [0]:=FG.ok hG E (by decide+kernel);have a:=c.hd;rw[DT f rfl] at a;have l:=(Ax.1 a).1
 have k:0+1<rs.length:=Nat.lt_of_not_le λh=>by
  have p:=c.la;rw[show rs.length- 1=0 by omega,a] at p;cases p;cases m
 have e:=(c.st 0 _ _ a (dD k)).2;obtain⟨⟨i,hi,o,b⟩,_⟩:=Fv hG E f d (show 1<4 by omega);have j:i<4:=d.lt hi;obtain⟨t,u,q⟩:=acU j o;rw[t] at b;rw[b] at e;have:=WL.ok hG E c m d [List.range 4] [0,i] 1 (by rw[dD k,e]) u q;refine⟨i,j,o,?_,b⟩;rw[←List.take_append_drop 1 rs,this,List.take_succ_eq_append_getElem l];rw[dD l] at a;rw[Option.some.inj a]
 rfl
theorem agL {K:List Nat}{rs:LN}(a:Ky 4 (bX 4 (· ∈Ij)) qB K rs)(b:Cm 4 (bX 4 (· ∈Ij)) qB K):rs.map List.length= [1,2,4]:=by
 obtain⟨i,_,_,e,_⟩:=VC a b;rw[e];rfl
abbrev LA5:LN:= [[0,1,2,3,4], [0,1,3,4,2], [0,1,4,2,3], [0,2,1,4,3], [0,2,3,1,4], [0,2,4,3,1], [0,3,1,2,4], [0,3,2,4,1], [0,3,4,1,2], [0,4,1,3,2], [0,4,2,1,3], [0,4,3,2,1], [1,0,2,4,3], [1,0,3,2,4], [1,0,4,3,2], [1,2,0,3,4], [1,2,3,4,0], [1,2,4,0,3], [1,3,0,4,2], [1,3,2,0,4], [1,3,4,2,0], [1,4,0,2,3], [1,4,2,3,0], [1,4,3,0,2], [2,0,1,3,4], [2,0,3,4,1], [2,0,4,1,3], [2,1,0,4,3], [2,1,3,0,4], [2,1,4,3,0], [2,3,0,1,4], [2,3,1,4,0], [2,3,4,0,1], [2,4,0,3,1], [2,4,1,0,3], [2,4,3,1,0], [3,0,1,4,2], [3,0,2,1,4], [3,0,4,2,1], [3,1,0,2,4], [3,1,2,4,0], [3,1,4,0,2], [3,2,0,4,1], [3,2,1,0,4], [3,2,4,1,0], [3,4,0,1,2], [3,4,1,2,0], [3,4,2,0,1], [4,0,1,2,3], [4,0,2,3,1], [4,0,3,1,2], [4,1,0,3,2], [4,1,2,0,3], [4,1,3,2,0], [4,2,0,1,3], [4,2,1,3,0], [4,2,3,0,1], [4,3,0,2,1], [4,3,1,0,2], [4,3,2,1,0]]
theorem tT:dW (bX 5 (· ∈HH)) LA5:=Ze.Xz (ws:= [[], [1,0,0], [0,1,1,1,1], [1,0,1,0,0,1,1], [1,1,1,1,0,1], [0,1,1,1,0,1], [1,0,1,1,1], [0,1,0], [1,1,0], [1,0,1,0,1,1], [0,0,1,0,1,1], [0,1,0,1,0,0], [1,0,1,0,1,1,1], [0,0,1,0,1,1,1], [0,1,0,1,0,0,1], [0], [1], [1,0,0,1], [0,1,0,0], [1,0,1,1,1,0], [1,1,0,0], [1,1,0,1], [1,0,1,1,1,1], [0,1,0,1], [0,0], [1,0], [0,1,0,1,1], [0,1,0,1,0,0,1,1], [0,0,1,0,1,1,1,0], [0,0,1,0,1,1,1,1], [1,0,0,1,1], [0,1], [1,1], [1,1,0,0,1], [0,1,0,0,1], [0,1,0,1,0], [0,0,1,0,0], [0,1,0,0,1,1], [1,0,1,0,0], [0,1,0,1,1,1], [0,0,1], [1,0,1], [0,0,1,0], [0,1,0,1,1,1,0], [1,0,1,0], [1,1,1], [1,1,1,0], [0,1,1], [1,1,1,1], [1,1,1,0,1], [0,1,1,1], [1,0,1,0,0,1], [1,1,1,1,0], [0,1,1,1,0], [1,0,1,1], [0,1,0,1,1,1,1], [0,0,1,1], [1,0,1,0,1], [0,0,1,0,1], [0,0,1,0,1,0]]) (by decide+kernel)
theorem afY {K:List Nat}{rs:LN}(a:Ky 5 (bX 5 (· ∈HH)) LA5 K rs)(b:Cm 5 (bX 5 (· ∈HH)) LA5 K):rs= [[0],List.range 60]:=OZ (Rp:= [1,3,16,17]) (Cg:= [0,1,30]) (bX.dN HN) tT a b (by decide+kernel) rfl (by decide+kernel)
end
section
variable {n:Nat} {G K:List Nat->Prop} {O O':List (List Nat)} {R R':List (List (List Nat))} {x y g:List Nat} {c d e:nE} {l:List nE} {w:Bool}
theorem inv_inv {s:List Nat}(S:bE n s):dA (dA s)=s:=by
 have h:=fC S.inv;have:=congrArg (aX s) h;rw[←aV S S.inv S.inv.inv,fC S,mN S.inv.inv,bZ S] at this;exact this
theorem NG (X:bE n x)(B:bE n g):cW (dA x) g=dA (cW x g):=by
 have A:=qG X B;have a:=qG X.inv B;have h:aX (cW (dA x) g) (cW x g)=bL n:=by rw[←Ef X.inv X B,iE X,Ro B]
 have:=congrArg (λz=>aX z (dA (cW x g))) h;rwa [aV a A A.inv,fC A,bZ a,mN A.inv] at this
theorem alO (X:bE n x)(Y:bE n y)(B:bE n g):cW (jE x y) g=jE (cW x g) (cW y g):=by
 unfold jE;rw[Ef (X.inv.mul Y.inv) (X.mul Y) B,Ef X.inv Y.inv B,Ef X Y B,NG X B,NG Y B]
theorem amU (u:iX n G)(f:iX n K)(c:bC n K O R)(le: ∀x,K x->G x)(r: ∀y g,K y->G g->K (cW y g))(o:Ad n R R y)(j:G g):Ad n R R (cW y g):=by
 have B:=u.cU j;have m:=Ad.dN f f c c;refine (NC.le o (H:=λy=>bE n y/\Ad n R R (cW y g)) ⟨λh=>h.1,⟨bE.one n,by rw[Ro B];exact m.one⟩,λh k=>⟨h.1.mul k.1,by rw[Ef h.1 k.1 B];exact m.mul h.2 k.2⟩,λh=>⟨h.1.inv,by rw[NG h.1 B];exact m.inv h.2⟩⟩ ?_ ?_).2
 ·rintro a ⟨p,s,q,t,rfl⟩
  have P:=bV c s;have Q:=bV c t;exact⟨Rh (f.cU P) (f.cU Q),by rw[alO (f.cU P) (f.cU Q) B];exact Ad.all f f c c (r _ _ P j) (r _ _ Q j)⟩
 ·rintro y b ⟨Y,o⟩ i
  have i:K b:=i.elim (λh=>bV c h) λh=>bV c h
  have Bb:=f.cU i;exact⟨qG Y Bb,by rw[←ajN Y Bb B];exact Ad.norm f f c c o (r _ _ i j)⟩
structure aiU (n:Nat)(G:List Nat->Prop)(d:nE)(K:List Nat->Prop):Prop where
 dN:iX n K
 isc:bC n K d.1 d.2
 le: ∀x,K x->G x
 nm: ∀y g,K y->G g->K (cW y g)
theorem aiU.first (a:iX n G)(i:bC n G c.1 c.2):aiU n G c G:=⟨a,i,λ_ h=>h,λ_ _ f b=>a.mul (a.mul (a.inv b) f) b⟩
theorem aiU.nx (a:iX n G)(j:bC n G c.1 c.2)(m:aiU n G d K)(i:bC n (Kf n w c d) e.1 e.2):aiU n G e (Kf n w c d)/\ ∀x,Kf n w c d x->K x:=by
 unfold Kf at i ⊢
 cases w with
 |false=>
  have le: ∀x,Ad n d.2 d.2 x->K x:=λx h=>Ad.self m.dN m.isc h
  exact⟨⟨Ad.dN m.dN m.dN m.isc m.isc,i,λx h=>m.le x (le x h),λy g f b=>amU a m.dN m.isc m.le m.nm f b⟩,le⟩
 |true=>
  have le: ∀x,Ad n d.2 c.2 x->K x:=λx h=>Ad.le m.dN a m.isc j m.nm h
  exact⟨⟨Ad.dN m.dN a m.isc j,i,λx h=>m.le x (le x h),λy g f b=>Ad.norm m.dN a m.isc j f b⟩,le⟩
theorem akB (a:iX n G)(b:bC n G c.1 c.2)(s:uC n w c l): ∀(k:Nat) (d:nE),l[k]? =some d-> ∃K,aiU n G d K
 |0,d,hd=>by
  rw[s.hd] at hd;cases hd;exact⟨G,aiU.first a b⟩
 |k+1,d,hd=>by
  have h:=(Ax.1 hd).1;have f:=dD (show k<l.length by omega);obtain⟨K,m⟩:=akB a b s k _ f;exact⟨_,(m.nx a b (s.st k _ _ f hd).1).1⟩
theorem aiU.uniq {f:List Nat->Prop}(a:aiU n G d K)(b:aiU n G d f):K=f:=
 funext λx=>propext ((Ti a.dN a.isc x).symm.trans (Ti b.dN b.isc x))
end
section
variable {x s:List Nat}
def dgb (b:Nat):Nat->Nat->List Nat
 |0,_=> []
 |n+1,m=>m%b::dgb b n (m/b)
def Oa (n:Nat):Nat->List Nat:=dgb n n
def xN:List Nat->Nat
 | []=>0
 |d::l=>d+6*xN l
def AY {α:Type}(f:α->Nat):List α->Nat
 | []=>0
 |x::l=>f x|||AY f l
def alZ (n:Nat)(x:List Nat):Bool:=decide (x.length=n)&&decide x.Nodup&&x.all λi=>decide (i<n)
def amR (n:Nat)(L:List (List Nat)):Nat->Nat->List Nat
 |0,_=>bL n
 |f+1,w=>if w=0 then bL n else match L[w%10- 1]? with|some g=>aX g (amR n L f (w/10))|none=>bL n
structure yO where
 gens:List Nat
 els:List Nat
 certs:List (Nat×Nat×Nat×List Nat)
def yO.g (n:Nat)(r:yO):List (List Nat):=r.gens.map (Oa n)
def yO.e (n:Nat)(r:yO):List (List Nat):=r.els.map (Oa n)
def anD {α β:Type}(p:α->β->Bool):List α->List β->Bool
 | [], []=>true
 |a::l,b::m=>p a b&&anD p l m
 |_,_=>false
def anW (n:Nat)(Rs:List yO)(k:Nat)(G:List (List Nat))(c:Nat×Nat×Nat×List Nat):Bool:=
 decide (k<c.2.1)&&alZ n (Oa n c.1)&&alZ n (Oa n c.2.2.1)&&match Rs[c.2.1]? with|some r=>anD (λw g=>cW (amR n (G++ [Oa n c.1]) 30 w) (Oa n c.2.2.1)==g) c.2.2.2 (r.g n)|none=>false
def rpl (gs:List (List Nat)):Nat->List (List Nat)->List (List Nat)->Nat->Bool
 |_,_, [],_=>true
 |0,_,_::_,_=>false
 |_+1, [],_::_,_=>false
 |f+1,p::S,z::r,k=>if gs.any λg=>aX p g==z then rpl gs f (p::S) r (k+1) else decide (1<k)&&rpl gs f S (z::r) (k- 1)
def anN (n:Nat)(gs E:List (List Nat)):Bool:=match E with| []=>false|x::r=>x==bL n&&rpl gs (2*E.length+2) (x::r) r 1
def oM:Nat->List Nat->List (List Nat)
 |0,_=> [[]]
 |f+1,l=>l.flatMap λa=>(oM f (l.erase a)).map (a:: ·)
def amC (n:Nat)(U:List (List Nat))(Rs:List yO)(k:Nat)(r:yO):Bool:=
 anN n (r.g n) (r.e n)&&(r.g n).all (alZ n)&&(r.certs.all λc=>anW n Rs k (r.g n) c)&&
  (AY (λx=>2^xN x) U&&&(AY (λx=>2^xN x) (r.e n)|||AY (λc=>if r.gens.length=0 then AY (λs=>2^xN (cW (Oa n c.1) s)) (oM n (List.range n)) else AY (λa=>AY (λb=>2^xN (aX (aX a (Oa n c.1)) b)) (if r.els.length<18 then r.e n else [bL n])) (r.e n)) r.certs)==AY (λx=>2^xN x) U)
theorem alL {P:List Nat->Prop}{l:List (List Nat)}(c: ∀x,P x-> ∀g∈l,P (aX x g)): ∀(f:Nat) (S r:List (List Nat)) (k:Nat),0<k->(∀x∈S.take k,P x)->r=S.drop k->rpl l f S r k=true-> ∀x∈r,P x
 |_,_, [],_,_,_,_,_=>λx a=>by cases a
 |0,_,_::_,_,_,_,_,h=>by cases h
 |_+1, [],_::_,_,_,_,_,h=>by cases h
 |f+1,p::S,z::r,k,k0,hP,e,h=>by
  obtain⟨k,rfl⟩: ∃m,k=m+1:=⟨k- 1,om⟩
  rw[List.drop_succ_cons] at e;unfold rpl at h;split at h
  ·rename_i b
   obtain⟨g,b,n⟩:=List.any_eq_true.1 b;have i:P z:=by rw[←beq_iff_eq.1 n];exact c p (hP p (by rw[List.take_succ_cons];exact Ab)) g b
   have d:k<S.length:=Nat.lt_of_not_le λh=>by rw[List.drop_eq_nil_of_le h] at e;cases e
   have j:S[k]=z/\S.drop (k+1)=r:=by
    rw[AR d] at e;exact⟨(List.cons.inj e).1.symm,(List.cons.inj e).2.symm⟩
   have:=alL c f (p::S) r (k+2) om (λx a=>by
    rw[List.take_succ_cons,List.take_succ_eq_append_getElem d,j.1] at a;rcases zH.1 a with rfl|a
    ·exact hP x (by rw[List.take_succ_cons];exact Ab)
    ·rcases pH.1 a with a|a
     ·exact hP x (by rw[List.take_succ_cons];exact Cu _ a)
     ·rw[List.mem_singleton.1 a];exact i) (by rw[List.drop_succ_cons];exact j.2.symm) h
   exact λx a=>(zH.1 a).elim (λe=>by rw[e];exact i) (this x)
  ·rw[vN,Qf] at h
   exact alL c f S (z::r) k om (λx a=>hP x (by rw[List.take_succ_cons];exact Cu _ a)) e h.2
theorem Rj {n:Nat}{P:List Nat->Prop}{c E:List (List Nat)}(d: ∀x,P x-> ∀g∈c,P (aX x g))(b:P (bL n))(h:anN n c E=true): ∀x∈E,P x:=by
 unfold anN at h;split at h
 ·cases h
 ·rename_i x r
  rw[vN,beq_iff_eq] at h;obtain⟨rfl,h⟩:=h;have:=alL d _ (bL n::r) r 1 om (λx a=>by simp at a;rw[a];exact b) rfl h;exact λx a=>(zH.1 a).elim (λe=>by rw[e];exact b) (this x)
theorem sI {α:Type}{f:α->Nat}{i:Nat}: ∀{l:List α},(AY f l).testBit i=true↔ ∃x,x∈l/\(f x).testBit i=true
 | []=>by simp [AY]
 |x::l=>by
  rw[AY,Nat.testBit_or,Bool.or_eq_true,sI];simp
theorem IW: ∀{x y:List Nat},x.length=y.length->(∀i∈x,i<6)->(∀i∈y,i<6)->xN x=xN y->x=y
 | [], [],_,_,_,_=>rfl
 | [],_::_,h,_,_,_=>by cases h
 |_::_, [],h,_,_,_=>by cases h
 |a::x,b::y,hl,h1,h2,e=>by
  have e:a+6*xN x=b+6*xN y:=e;have c:=h1 a Ab;have d:=h2 b Ab;rw[show a=b by omega,IW (by simpa using hl) (λi hi=>h1 i (Cu _ hi)) (λi hi=>h2 i (Cu _ hi)) om]
theorem akC {n:Nat}(h:alZ n x=true):bE n x:=by
 unfold alZ at h;simp only[vN,Qf,Kv] at h;exact⟨h.1.1,h.1.2,λi hi=>h.2 i hi⟩
theorem ajM: ∀(x l:List Nat),x.Perm l->x∈oM l.length l
 | [],l,h=>by
  rw[List.nil_perm.1 h];exact List.mem_singleton.2 rfl
 |a::x,l,h=>by
  have b:a∈l:=h.mem_iff.1 Ab;have c:x.Perm (l.erase a):=List.cons_perm_iff_perm_erase.1 h|>.2;have d:l.length=(l.erase a).length+1:=by rw[List.length_erase_of_mem b];have:=HJ b;omega
  rw[d];exact List.mem_flatMap.2 ⟨a,b,uF.2 ⟨x,ajM x _ c,rfl⟩⟩
theorem alP {n:Nat}(X:bE n x):x∈oM n (List.range n):=by
 have h:x.Perm (List.range n):=(List.perm_ext_iff_of_nodup X.nd List.nodup_range).2 λi=>⟨λhi=>Gu.2 (X.lt i hi),λhi=>X.mem (Gu.1 hi)⟩
 have:=ajM x _ h;rwa [NM] at this
theorem aqS: ∀(f:Nat) (l x:List Nat),l.length=f->x∈oM f l->x.Perm l
 |0,l,x,h,b=>by
  rw[List.mem_singleton.1 b,WJ h]
 |f+1,l,x,h,b=>by
  obtain⟨a,c,b⟩:=List.mem_flatMap.1 b;obtain⟨y,d,rfl⟩:=uF.1 b;have:=aqS f (l.erase a) y (by rw[List.length_erase_of_mem c];omega) d;exact List.cons_perm_iff_perm_erase.2 ⟨c,this⟩
theorem aqT {n:Nat}(h:x∈oM n (List.range n)):bE n x:=by
 have p:=aqS n _ x NM h;exact⟨by rw[p.length_eq,NM],p.nodup_iff.2 List.nodup_range,λi hi=>Gu.1 (p.mem_iff.1 hi)⟩
section
variable {n:Nat} {P V:List Nat->Prop} {U:List (List Nat)} {Rs:List yO}
theorem alJ (a:iX n P){L:List (List Nat)}(b: ∀g∈L,P g): ∀f w,P (amR n L f w)
 |0,_=>a.one
 |f+1,w=>by
  unfold amR;split
  ·exact a.one
  ·split
   ·rename_i g c
    exact a.mul (b g (AW c)) (alJ a b f _)
   ·exact a.one
theorem alC {α β:Type}{p:α->β->Bool}: ∀{l:List α} {m:List β},anD p l m=true-> ∀b∈m,∃a∈l,p a b=true
 | [], [],_,b,d=>by cases d
 | [],_::_,h,_,_=>by cases h
 |_::_, [],h,_,_=>by cases h
 |a::l,c::m,h,b,d=>by
  rw[anD,vN] at h;rcases zH.1 d with e|d
  ·exact⟨a,Ab,by rw[e];exact h.1⟩
  ·obtain⟨x,i,f⟩:=alC h.2 b d
   exact⟨x,Cu _ i,f⟩
def gH (n:Nat)(P:List Nat->Prop)(s x:List Nat):Prop:=bE n x/\P (cW x (dA s))
theorem gH.dN (c:iX n P)(S:bE n s):iX n (gH n P s):=
 ⟨λh=>h.1,⟨bE.one n,by rw[Ro S.inv];exact c.one⟩,λa b=>⟨a.1.mul b.1,by rw[Ef a.1 b.1 S.inv];exact c.mul a.2 b.2⟩,λa=>⟨a.1.inv,by rw[NG a.1 S.inv];exact c.inv a.2⟩⟩
theorem gH.anQ (b:iX n P)(S:bE n s)(a:P x):gH n P s (cW x s):=⟨qG (b.cU a) S,by rw[MO (b.cU a) S];exact a⟩
theorem gH.iff (a:iX n P){y:List Nat}(S:bE n s)(Y:bE n y):P y↔gH n P s (cW y s):=
 ⟨λh=>gH.anQ a S h,λh=>by
  have:=h.2
  rwa [MO Y S] at this⟩
theorem gH.in (b: ∀x,P x->V x)(a: ∀x s,V x->bE n s->V (cW x s))(S:bE n s)(y:List Nat)(c:gH n P s y):V y:=by
 have:=a _ _ (b _ c.2) S;have Y:=c.1;have e:=MO Y S.inv;have d:dA (dA s)=s:=inv_inv S;rw[d] at e;rwa [e] at this
theorem akR (n6:n<=6)(hV: ∀x,V x->bE n x/\x∈U)(u: ∀x s,V x->bE n s->V (cW x s))(chk: ∀k (hk:k<Rs.length),amC n U Rs k Rs[k]=true):
  ∀(d k:Nat) (P:List Nat->Prop) (hk:k<Rs.length),Rs.length-k<=d->iX n P->(∀x,P x->V x)->(∀g∈(Rs[k].g n),P g)-> ∃k' s,∃hk':k'<Rs.length,bE n s/\(∀g∈Rs[k'].g n,g∈Rs[k'].e n)/\ ∀x,bE n x->(P x↔cW x s∈Rs[k'].e n)
 |0,k,P,hk,hd,_,_,_=>om
 |d+1,k,P,hk,hd,hP,hPV,hg=>by
  have c:=chk k hk;generalize hr:Rs[k]=r at c hg;unfold amC at c;simp only[vN,beq_iff_eq,Kv] at c;obtain⟨⟨⟨c1,c2⟩,G⟩,c4⟩:=c;have z: ∀x∈r.e n,P x:=Rj (λx o g h=>hP.mul o (hg g h)) hP.one c1
  by_cases all: ∀x,P x->x∈r.e n
  ·exact⟨k,bL n,hk,bE.one n,λg f=>by rw[hr] at f ⊢;exact all g (hg g f),λx X=>by rw[mG X,hr];exact⟨all x,z x⟩⟩
  ·obtain⟨x,o⟩:=Classical.not_forall.1 all
   obtain⟨o,hn⟩:=Classical.not_imp.1 o;have X:=hP.cU o
   have inj: ∀y,P y->(2^xN y).testBit (xN x)=true->y=x:=λy K h=>by
    rw[Nat.testBit_two_pow,Qf] at h;have Y:=hP.cU K;exact IW (by rw[X.len,Y.len]) (λi hi=>by have:=Y.lt i hi;omega) (λi hi=>by have:=X.lt i hi;omega) h
   have b1:(AY (λx=>2^xN x) U).testBit (xN x)=true:=sI.2 ⟨x,(hV x (hPV x o)).2,by rw[Nat.testBit_two_pow];exact decide_eq_true rfl⟩;rw[←c4,Nat.testBit_and,vN,Nat.testBit_or,Bool.or_eq_true] at b1;rcases b1.2 with h|h
   ·obtain⟨y,K,h2⟩:=sI.1 h
    exact absurd (inj y (z y K) h2▸K) hn
   ·obtain⟨m,a3,h⟩:=sI.1 h
    have G:=G m a3;unfold anW at G;simp only[vN,Qf] at G;obtain⟨⟨⟨q1,q2⟩,q3⟩,N⟩:=G;have l:=akC q2;have S:=akC q3;split at N
    case h_2=>cases N
    rename_i r' a1;obtain⟨hk',a4⟩:=Ax.1 a1
    have step: ∀Q:List Nat->Prop,iX n Q->(∀x,Q x->V x)->(∀g∈r.g n,Q g)->Q (Oa n m.1)-> ∃k' s,∃hk':k'<Rs.length,bE n s/\(∀g∈Rs[k'].g n,g∈Rs[k'].e n)/\ ∀x,bE n x->(Q x↔cW x s∈Rs[k'].e n):=λQ L a2 R a0=>by
     have hL: ∀g∈r.g n++ [Oa n m.1],Q g:=λg h=>(pH.1 h).elim (R g) λe=>by rw[List.mem_singleton.1 e];exact a0
     obtain⟨Z,t,q,J,v,O⟩:=akR n6 hV u chk d m.2.1 (gH n Q (Oa n m.2.2.1)) hk' om (gH.dN L S) (gH.in a2 u S) (λg f=>by
       rw[a4] at f;obtain⟨w,_,hw⟩:=alC N g f;rw[←beq_iff_eq.1 hw]
       exact gH.anQ L S (alJ L hL _ _))
     refine⟨Z,aX (Oa n m.2.2.1) t,q,S.mul J,v,λy Y=>?_⟩;rw[nX Y S J,←O _ (qG Y S)];exact gH.iff L S Y
    split at h
    ·rename_i W
     obtain⟨s,hs,h⟩:=sI.1 h;have j:=aqT hs
     have p:cW (Oa n m.1) s=x:=by
      rw[Nat.testBit_two_pow,Qf] at h;have Y:=qG l j;exact IW (by rw[X.len,Y.len]) (λi hi=>by have:=Y.lt i hi;omega) (λi hi=>by have:=X.lt i hi;omega) h
     obtain⟨Z,t,q,J,v,O⟩:=step (gH n P (dA s)) (gH.dN hP j.inv) (gH.in hPV u j.inv) (λg f=>by
      unfold yO.g at f;rw[WJ W] at f
      cases f) (by
      have:=gH.anQ hP j.inv o
      rwa [←p,MO l j] at this)
     refine⟨Z,aX (dA s) t,q,j.inv.mul J,v,λy Y=>?_⟩;rw[nX Y j.inv J,←O _ (qG Y j.inv)];exact gH.iff hP j.inv Y
    ·obtain⟨a,ha,h⟩:=sI.1 h
     obtain⟨b,F,h⟩:=sI.1 h
     have F:b∈r.e n∨b=bL n:=by
      split at F
      ·exact .inl F
      ·exact .inr (List.mem_singleton.1 F)
     have bP:P b:=F.elim (z b) λe=>by rw[e];exact hP.one
     have A:=hP.cU (z a ha);have B:=hP.cU bP
     have p:aX (aX a (Oa n m.1)) b=x:=by
      rw[Nat.testBit_two_pow,Qf] at h;have Y:=(A.mul l).mul B;exact IW (by rw[X.len,Y.len]) (λi hi=>by have:=Y.lt i hi;omega) (λi hi=>by have:=X.lt i hi;omega) h
     refine step P hP hPV hg ?_;have:P (aX (aX (dA a) x) (dA b)):=hP.mul (hP.mul (hP.inv (z a ha)) o) (hP.inv bP);rw[←p,←aV A.inv (A.mul l) B,←aV A.inv A l,iE A,mN l,aV l B B.inv,fC B,bZ l] at this;exact this
end
end
def anY:List yO:= [
⟨[],[0],[]⟩]
def anX:List yO:= [
⟨[],[2],[(1,1,2,[1])]⟩,
⟨[1],[2,1],[]⟩]
def aoA:List yO:= [
⟨[],[21],[(15,1,21,[1]),(7,2,21,[1])]⟩,
⟨[15],[21,15],[(19,3,21,[1,2])]⟩,
⟨[7],[21,7,11],[(15,3,21,[2,12])]⟩,
⟨[15,19],[21,15,19,7,11,5],[]⟩]
def aoB:List yO:= [
⟨[],[228],[(180,1,228,[1]),(120,3,228,[1]),(177,2,228,[1]),(57,4,228,[1])]⟩,
⟨[180],[228,180],[(216,7,228,[1,2]),(225,5,228,[1,2]),(201,10,228,[1,2]),(210,10,228,[1,22]),(198,7,225,[1,2]),(78,8,228,[1,2])]⟩,
⟨[177],[228,177],[(180,5,228,[2,21]),(216,8,120,[2,1]),(120,9,228,[2,1]),(156,9,228,[22,1]),(108,8,216,[2,1]),(78,6,228,[1,2]),(30,4,216,[2])]⟩,
⟨[120],[228,120,156],[(180,7,228,[2,12]),(225,10,228,[2121121,12112]),(177,9,228,[1,2])]⟩,
⟨[57],[228,57,78,147],[(180,10,228,[2,12]),(108,8,216,[2,12])]⟩,
⟨[180,225],[228,180,225,177],[(216,10,228,[1,23]),(78,8,228,[1,3])]⟩,
⟨[177,78],[228,177,78,27],[(180,8,228,[3,2]),(216,8,120,[3,1]),(120,9,228,[3,1]),(156,9,228,[33,1]),(108,8,216,[3,1])]⟩,
⟨[180,216],[228,180,216,120,156,108],[(225,10,228,[1,32])]⟩,
⟨[180,78],[228,180,78,30,75,27,225,177],[(216,10,228,[1,132])]⟩,
⟨[120,177],[228,120,177,156,45,210,201,54,99,135,78,27],[(180,10,228,[3,211])]⟩,
⟨[180,201],[228,180,201,57,141,210,45,114,30,147,78,99,27,108,39,75,156,135,120,54,216,198,177,225],[]⟩]
def aoC:List yO:= [
⟨[],[2930],[(2430,1,2930,[1]),(1830,3,2930,[1]),(2410,2,2930,[1]),(1210,4,2930,[1]),(1826,8,2930,[1]),(586,7,2930,[1])]⟩,
⟨[2430],[2930,2430],[(2830,9,2930,[1,2]),(2910,5,2930,[1,2]),(2710,16,2930,[1,2]),(2790,16,2930,[1,22]),(2690,9,2910,[1,2]),(1490,11,2930,[1,2]),(2926,5,2886,[1,2]),(2826,13,2930,[1,2]),(2886,8,742,[21]),(2586,18,2930,[1,2]),(2766,18,2930,[1,122212122]),(2566,16,2886,[1,2]),(1366,18,2930,[1,22212]),(2902,8,742,[221]),(2702,18,2930,[1,212221212]),(2882,5,2926,[1,2]),(2582,16,2926,[1,2]),(2642,13,2910,[1,2]),(2542,18,2930,[1,221222121]),(742,18,2930,[1,2221]),(2778,18,2930,[1,222]),(2678,16,2886,[1,22]),(1478,18,2930,[1,1222122]),(2758,16,2926,[1,22]),(2558,9,2902,[1,2]),(1358,11,2926,[1,2]),(2638,18,2930,[1,221212221]),(2538,13,2902,[1,2]),(738,18,2930,[1,1212221]),(1398,18,2930,[1,221]),(1298,18,2930,[1,1221222]),(698,11,2886,[1,2])]⟩,
⟨[2410],[2930,2410],[(2430,5,2930,[2,21]),(2830,11,1830,[2,1]),(1830,14,2930,[2,1]),(2230,14,2930,[22,1]),(1730,11,2830,[2,1]),(1490,6,2930,[1,2]),(990,4,2830,[2]),(2926,13,742,[21212,12121]),(2426,10,742,[21,1]),(2826,12,2930,[1,2]),(1826,18,2930,[222122212221,222122]),(2226,18,2930,[222122212221,22212222]),(1726,12,2430,[1,2]),(2586,15,2930,[1,2]),(586,17,2930,[1222121,2212221]),(1986,17,2930,[212221,2212221]),(486,15,2430,[1,2]),(1366,18,2930,[2212212,122121]),(366,17,2930,[21221,1212222]),(2778,15,2930,[1,222]),(1778,17,2930,[1212221,2221221]),(2678,17,2930,[212122,2212212121]),(1178,15,2430,[1,2221]),(1478,18,2930,[2122122,12121222]),(978,17,2930,[12212,1222212]),(2558,13,2902,[21212,12121]),(558,10,2902,[2,1]),(1358,12,2930,[1,12121]),(358,18,2930,[21222121222121,2121222]),(738,18,2930,[22212221222,222212]),(238,12,2430,[1,221])]⟩,
⟨[1830],[2930,1830,2230],[(2430,9,2930,[2,12]),(2910,16,2930,[2121121,12112]),(2410,14,2930,[1,2]),(2926,8,2930,[21]),(2426,10,2930,[1,2]),(2886,17,2930,[1,2]),(2386,18,2930,[222,211]),(2902,17,2930,[1,22]),(2402,18,2930,[222,121212]),(2882,16,2926,[2121121,12112]),(2382,14,2926,[1,2]),(2642,17,2930,[1,121211]),(1142,18,2930,[22212121,11221211]),(2022,18,2930,[2112112221,2221212]),(1022,17,2930,[1,2121211])]⟩,
⟨[1210],[2930,1210,1490,2170],[(2430,16,2930,[2,12]),(1730,11,2830,[2,12]),(2926,18,2930,[212121121,1112121]),(2426,15,2830,[11,2111]),(2826,15,2230,[11,21]),(1826,18,2930,[1112211,2122111]),(2226,18,2930,[11221,211]),(1726,18,2930,[121212,12112121])]⟩,
⟨[2430,2910],[2930,2430,2910,2410],[(2830,16,2930,[1,23]),(1490,11,2930,[1,3]),(2926,13,742,[2,31]),(2826,18,2930,[1,32131321]),(2586,18,2930,[1,3]),(1366,18,2930,[1,33332]),(2778,18,2930,[1,333]),(1478,18,2930,[1,332]),(2558,13,2902,[1,32]),(1358,18,2930,[1,323213])]⟩,
⟨[2410,1490],[2930,2410,1490,970],[(2430,11,2930,[3,2]),(2830,11,1830,[3,1]),(1830,14,2930,[3,1]),(2230,14,2930,[33,1]),(1730,11,2830,[3,1]),(2926,18,2930,[313131,2321313]),(2426,17,2930,[3232132,31]),(2826,17,2930,[313231,1323]),(1826,18,2930,[3213231,333332]),(2226,18,2930,[3232131,32]),(1726,17,2930,[1321313,13213])]⟩,
⟨[586],[2930,586,742,1398,2154],[(2430,18,2930,[2,12]),(1830,17,2930,[2,122]),(1730,18,2930,[121212,1121212]),(2410,17,2930,[2111212,1121112]),(2110,15,1730,[22,1222]),(1790,15,1730,[22,12]),(970,12,1830,[2,12])]⟩,
⟨[1826],[2930,1826,2230,2926,1830,2226],[(2430,13,2930,[2,12]),(2910,18,2930,[21211212111,12112]),(2410,18,2930,[211121112111,111211]),(2642,18,2930,[1121112,121111121])]⟩,
⟨[2430,2830],[2930,2430,2830,1830,2230,1730],[(2910,16,2930,[1,32]),(2926,13,2930,[1,32]),(2886,18,2930,[1,32]),(2902,18,2930,[1,332]),(2882,16,2926,[1,32]),(2642,18,2930,[1,2132131])]⟩,
⟨[1830,2426],[2930,1830,2426,2230,1726,2826],[(2430,13,2930,[3,12]),(2910,18,2930,[323232,2311]),(2410,17,2930,[1,23]),(2642,17,2930,[1,131311]),(1142,18,2930,[33313131,33312])]⟩,
⟨[2430,1490],[2930,2430,1490,990,1470,970,2910,2410],[(2830,16,2930,[1,132]),(2926,18,2930,[1,2323212]),(2826,18,2930,[1,132])]⟩,
⟨[2410,2826],[2930,2410,2826,1766,2102,1022,1358,298,714,194],[(2430,18,2930,[3,212321]),(1830,17,2930,[3,231]),(990,15,2430,[1,23])]⟩,
⟨[2430,2826],[2930,2430,2826,1826,2226,1726,1730,2230,1830,2830,2426,2926],[(2910,18,2930,[1,23121231]),(2642,18,2930,[1,213131])]⟩,
⟨[1830,2410],[2930,1830,2410,2230,1110,2790,2710,1190,1670,2070,1490,970],[(2430,16,2930,[3,211]),(2926,18,2930,[323232,3211]),(2426,17,2930,[1,32])]⟩,
⟨[2410,2586],[2930,2410,2586,566,1982,2642,422,1202,238,2146,2778,698,1726,1758,334,990,2054,1294,1470,1014],[(2430,18,2930,[3,2]),(2830,18,2930,[323221,2]),(1830,18,2930,[323221,2]),(2230,18,2930,[213221,2]),(1730,18,2930,[23222,2])]⟩,
⟨[2430,2710],[2930,2430,2710,1210,2110,2790,1110,1790,990,2170,1490,1670,970,1730,1070,1470,2230,2070,1830,1190,2830,2690,2410,2910],[(2926,18,2930,[1,32]),(2902,18,2930,[1,33122121]),(2778,18,2930,[1,232]),(2154,18,2930,[1,2132])]⟩,
⟨[1830,2886],[2930,1830,2886,2230,586,1766,2902,1986,366,1202,2146,542,1778,2566,2102,446,742,978,1922,298,1190,2154,558,1346,2642,2678,1022,698,1490,1054,1358,2538,2070,414,970,1934,334,1138,222,1398,2790,1454,2758,1670,714,1634,238,1294,2710,1110,2582,2014,482,894,2410,2382,194,2826,1726,2426],[(2430,18,2930,[3,213])]⟩,
⟨[2430,2586],[2930,2430,2586,586,1986,2642,486,1142,242,2022,2778,742,1022,1778,222,978,298,2154,722,1478,1298,1654,898,954,1730,294,1070,434,1398,1454,2230,1294,2070,1934,894,1670,1634,1830,1054,1190,1346,558,714,1394,2170,2134,2830,2054,2690,346,2558,214,1790,1946,1758,1914,2386,1178,1334,1826,1366,1210,738,2790,446,2758,414,2886,2678,334,2826,366,2710,238,2426,2566,2410,2538,194,542,1358,2014,1726,2382,2102,1110,1766,1490,2926,566,2910,538,694,2542,358,1014,2226,2882,1102,2110,2766,990,582,2702,198,422,2638,1982,1646,2402,1470,2582,1202,698,1922,1138,482,2146,2902,970],[]⟩]
def ajP (n:Nat)(U:List (List Nat))(Rs:List yO)(k:Nat):Bool:=match Rs[k]? with|some r=>amC n U Rs k r|none=>true
def akW (n:Nat)(U:List (List Nat))(Rs:List yO):Bool:=(List.range Rs.length).all (ajP n U Rs)
theorem alH {n:Nat}{U:List (List Nat)}{a:List yO}(h:akW n U a=true): ∀k (hk:k<a.length),amC n U a k a[k]=true:=λk hk=>by
 have:=Kv.1 h k (Gu.2 hk);unfold ajP at this;rwa [dD hk] at this
theorem amY:akW 1 (oM 1 (List.range 1)) anY=true:=by decide+kernel
theorem anF:akW 2 (oM 2 (List.range 2)) anX=true:=by decide+kernel
theorem anE:akW 3 (oM 3 (List.range 3)) aoA=true:=by decide+kernel
theorem amS:akW 4 (oM 4 (List.range 4)) aoB=true:=by decide+kernel
theorem anC:akW 5 (oM 5 (List.range 5)) aoC=true:=by decide+kernel
def EA (n:Nat)(P:List Nat->Prop):Prop:= ∀N:List Nat->Prop,iX n N->(∀x y,P x->P y->N (jE x y))-> ∀x,P x->N x
def aqB (n:Nat)(g gN EN:List (List Nat)):Bool:=gN.all (alZ n)&&anN n gN EN&&EN.contains (bL n)&&(EN.all λx=>gN.all λa=>EN.contains (aX x a))&&(gN.all λy=>g.all λa=>EN.contains (cW y a))&&(g.all λa=>g.all λb=>EN.contains (jE a b))&&g.any λa=>!EN.contains a
section
variable {n:Nat} {P N:List Nat->Prop} {S L:List (List Nat)}
theorem akJ {c b:List (List Nat)}(d:bL n∈b)(h2: ∀x∈b,∀a∈c,aX x a∈b){x:List Nat}(f:bX n (· ∈c) x):x∈b:=by
 induction f with
 |one=>exact d
 |mul _ hk ih=>exact h2 _ ih _ hk
theorem akL (l: ∀g,S.contains g=true->bE n g)(f:iX n N)(q: ∀a∈S,∀b∈S,N (jE a b))(p: ∀y,N y-> ∀a∈S,N (cW y a)){x y:List Nat}(m:bX n (· ∈S) x)(d:bX n (· ∈S) y):N (jE x y):=by
 have c: ∀g,g∈S->bE n g:=λg h=>l g (List.contains_iff_mem.2 h)
 have j: ∀g,bX n (· ∈S) g-> ∀y,N y->N (cW y g):=λg h=>Xw f c (λy b d o=>p y d b o) h
 have one: ∀a∈S,∀y,bX n (· ∈S) y->N (jE a y):=λa i y d=>by
  induction d with
  |one=>rw[JY (c a i)];exact f.one
  | @mul z k hz hk ih=>
   have Z:=hz.cU c;rw[Mo (c a i) Z (c k hk)];exact f.mul (q a i k hk) (j k (bX.of c hk) _ ih)
 induction m with
 |one=>rw[KJ (d.cU c)];exact f.one
 | @mul z k hz hk ih=>
  rw[Qm (hz.cU c) (c k hk) (d.cU c)];exact f.mul (j k (bX.of c hk) _ ih) (one k hk y d)
theorem EA.not {E g j q:List (List Nat)}(d: ∀a∈g,bE n a)(s: ∀x,x∈E->bX n (· ∈g) x)(o: ∀a∈g,a∈E)(h:aqB n g j q=true)(p:EA n (· ∈E)):False:=by
 unfold aqB at h;simp only[vN,Kv,List.any_eq_true,List.contains_iff_mem,Bool.not_eq_true'] at h;obtain⟨⟨⟨⟨⟨⟨w,B⟩,t⟩,A⟩,u⟩,z⟩,a,f,r⟩:=h;have i: ∀g∈j,bE n g:=λg d=>akC (w g d)
 have sub: ∀x∈q,bX n (· ∈j) x:=Rj (P:=bX n (· ∈j)) (λx m g d=>bX.mul m d) .one B;have G:=bX.dN i;have:=p (bX n (· ∈j)) G (λx y m l=>akL (λg k=>d g (List.contains_iff_mem.1 k)) G (λa f b v=>sub _ (z a f b v)) (λy l a f=>YN i (d a f) (λc F=>sub _ (u c F a f)) l) (s x m) (s y l)) a (o a f);rw[List.contains_iff_mem.2 (akJ t A this)] at r;cases r
theorem EA.mv (c:iX n P)(p:EA n P){s:List Nat}(S:bE n s):EA n (gH n P s):=λN k l x f=>by
 have j:dA (dA s)=s:=inv_inv S;have:=p (gH n N (dA s)) (gH.dN k S.inv) (λa b d i=>?_) _ f.2
 ·obtain⟨_,h⟩:=this
  rw[MO f.1 S.inv] at h;exact h
 ·have A:=c.cU d
  have B:=c.cU i;refine⟨Rh A B,?_⟩;rw[j,alO A B S];exact l _ _ (gH.anQ c S d) (gH.anQ c S i)
end
set_option maxRecDepth 100000
def aiE:List yO:= [
⟨[],[44790],[(30750,2,44790,[1]),(38130,1,44790,[1]),(15240,7,44790,[1]),(23005,4,44790,[1]),(30685,3,44790,[1])]⟩,
⟨[38130],[44790,38130],[(30750,13,44790,[2,1]),(36150,13,44790,[22,1]),(27150,5,44790,[1,2]),(38280,8,18090,[21,1]),(43680,12,44790,[1,2]),(29640,12,38310,[1,2]),(15240,19,44790,[1222121,2212221]),(33600,19,44790,[212221,2212221]),(12900,19,44790,[21221,1212222]),(30300,19,44790,[1212221,2221221]),(42180,19,44790,[212122,2212212121]),(20580,19,44790,[12212,1222212]),(15000,8,44550,[2,1]),(25800,12,44790,[1,12121]),(11580,12,38310,[1,221]),(38305,6,44790,[1,2]),(43705,10,44790,[1,2]),(29665,10,38310,[1,2]),(20665,4,43710,[2]),(44725,16,9020,[12212,2122121]),(30685,20,44790,[1,2]),(36085,20,38310,[1,2]),(39865,21,44790,[121212212221,122221212221]),(6385,21,44790,[122122221212,122221212221]),(24565,18,44550,[122212,2122212]),(43225,21,44790,[212122221221,2221212222]),(22705,21,44790,[21212212221,1212122122221]),(27025,18,18090,[122212,2122212]),(39625,16,44300,[12212,2122121]),(5065,20,44790,[1,22122]),(16765,20,38310,[1,1212212]),(44750,16,9020,[12122,2122121]),(30710,20,38310,[1,22]),(36110,20,44790,[1,22]),(41150,21,44790,[121212212221,221222212]),(14150,21,44790,[122122221212,221222212]),(25850,18,18090,[121222,21222121]),(38240,8,18075,[21,1]),(43640,12,44785,[1,2]),(29600,12,38305,[1,2]),(7460,19,44785,[1222121,2212221]),(32300,19,44785,[212221,2212221]),(5120,19,44785,[21221,1212222]),(44300,10,8780,[2,1]),(15140,21,44790,[21221212221221,22212122122]),(33500,21,44790,[1212221212212,22212122122]),(39800,21,44790,[22121222122,1212212221]),(6320,21,44790,[22212221212222,1212212221]),(9020,14,44790,[1,2]),(30050,21,44790,[12212221212212,2121221221]),(40850,9,44790,[1,2]),(12770,18,18090,[122,2122212]),(7190,20,44790,[1,21212]),(24470,17,44790,[1,2]),(2510,21,44790,[2212221212212,21221212212212]),(35240,21,44790,[2122121222121,2121221221]),(13640,9,38310,[1,2]),(25520,18,18090,[122,21222121]),(31820,20,38310,[1,21212]),(4820,17,38310,[1,2]),(8780,21,44790,[212212122212,21221212212212]),(43240,21,44790,[212122221221,12122221221]),(22720,21,44790,[21212212221,21222212121]),(27040,18,44550,[121222,21222121]),(40900,16,44300,[12122,2122121]),(12820,20,38310,[1,2221222]),(18040,20,44790,[1,22121221]),(30250,19,44785,[1212221,2221221]),(42130,19,44785,[212122,2212212121]),(20530,19,44785,[12212,1222212]),(7210,8,44535,[2,1]),(24490,12,44785,[1,12121]),(3790,12,38305,[1,221]),(43000,21,44790,[22221212221222,21221212221]),(14920,20,38310,[1,12121]),(25720,17,44790,[1,222]),(39580,9,27150,[1,2]),(5020,18,44550,[12121,21222121]),(8980,21,44790,[2212221212212,121221212212221]),(22270,21,44790,[1212212122212,22122121222]),(40630,20,44790,[1,221]),(11470,17,38310,[1,221]),(6970,9,20670,[1,12]),(16690,18,44550,[122,21222121]),(2470,21,44790,[222122212212,2212221212222]),(26170,14,44790,[1,22]),(12130,21,44790,[2122121222122,2221221212212]),(17530,21,44790,[122121222122,2222121222122]),(23830,21,44790,[212221212212,212122121222121]),(3310,21,44790,[22212221221212,2212212221221]),(8530,10,35240,[2,1])]⟩,
⟨[30750],[44790,30750,36150],[(38130,13,44790,[1,2]),(38280,8,44790,[1,2]),(44400,19,44790,[1,2]),(44550,19,44790,[1,22]),(37890,13,44760,[1,2]),(41850,19,44790,[1,121211]),(21150,19,44790,[1,2121211]),(38305,8,44725,[1,2]),(44605,16,44790,[1,2]),(44725,11,44790,[1,2]),(37705,21,44790,[1,2]),(38035,21,44790,[1,122212122]),(44155,19,44725,[1,2]),(22195,21,44790,[1,212211211]),(33895,21,44790,[1,21122121]),(44750,11,44790,[1,22]),(37910,21,44790,[1,212221212]),(38240,8,44785,[1,2]),(44180,19,44785,[1,2]),(44300,16,44760,[1,2]),(37640,21,44790,[1,221222121]),(40340,21,44790,[1,2221]),(13160,21,44790,[1,22211]),(38055,21,44790,[1,222]),(44355,19,44725,[1,22]),(22395,21,44790,[1,221121221]),(34095,21,44790,[1,2212112211]),(44505,19,44785,[1,22]),(37665,13,44750,[1,2]),(41625,19,44785,[1,121211]),(20925,19,44785,[1,2121211]),(37815,21,44790,[1,221212221]),(44115,16,44750,[1,2]),(14415,21,44790,[1,211212211]),(32595,21,44790,[1,21211221]),(41715,21,44790,[1,221]),(22095,21,44790,[1,1212212221]),(40275,19,44725,[1,121211]),(10575,18,44790,[1,2]),(20985,21,44790,[1,2211]),(33765,21,44790,[1,2122112122]),(13065,19,44725,[1,2121211]),(17025,18,44790,[1,222])]⟩,
⟨[30685],[44790,30685,36110],[(30750,11,44790,[2,221]),(36150,11,44790,[22,21]),(38130,20,44790,[2,1]),(42450,21,44790,[211221221121,112112212211]),(21930,21,44790,[212212122121,122]),(43350,21,44790,[212212122121,11221121211]),(22830,21,44790,[211221221121,221221121]),(27150,20,36150,[2,1]),(29130,21,44790,[211221221121,12]),(34530,21,44790,[212212122121,21211221]),(20490,20,30750,[2,1]),(38280,9,44400,[2,12]),(43680,9,15240,[2,12]),(29640,9,33600,[2,12]),(44400,21,44790,[2212112122,21121211]),(15240,21,44790,[212221211,222211222]),(33600,20,36150,[112211221,1]),(30180,21,44790,[212221211,222112221]),(40980,21,44790,[2212112122,12121121]),(12900,20,30750,[112211221,1]),(35400,20,44790,[112211221,1]),(13800,21,44790,[2212112122,211212212]),(25680,21,44790,[212221211,1211221211]),(41850,14,15060,[2,1]),(14850,21,44790,[221212211,121121211]),(18090,21,44790,[2212112122,22112222]),(21150,17,33600,[2121121,12]),(33030,20,30750,[112121,1]),(11430,20,36150,[1121121,1]),(22380,20,30750,[1121121,1]),(40740,17,15240,[2121121,12]),(11580,20,44790,[112121,1]),(26340,21,44790,[221212211,222112]),(12300,21,44790,[2212112122,2122121]),(17700,14,43140,[2,1]),(34050,21,44790,[2212112122,2121212221]),(13530,14,25860,[2,1]),(17850,21,44790,[221212211,21121]),(19830,20,36150,[112121,1]),(25230,20,44790,[1121121,1]),(11190,17,44400,[2121121,12]),(10575,18,44790,[221212,2]),(17025,18,44790,[212122,222])]⟩,
⟨[23005],[44790,23005,27150,35605],[(30750,16,44790,[2,122]),(38130,10,38310,[2,21]),(38280,21,44790,[1121211121212,1121112121]),(43680,21,44790,[2121211121211,1121211121]),(29640,18,22410,[211,111]),(44400,21,44790,[22112112,221211121]),(15240,21,44790,[22112,212121112]),(30180,21,44790,[1211222111,2222112212]),(44550,21,44790,[211221122,212122121]),(22950,21,44790,[21122,121211121]),(34830,21,44790,[2122121,21221112]),(37890,21,44790,[12112121112112,112111211212112]),(14130,18,42390,[2,1]),(14850,21,44790,[12111221211,212221222]),(44300,18,42390,[111212,1]),(15140,18,22410,[1122,111]),(33500,21,44790,[112212112,11121221]),(37640,21,44790,[221,1212221]),(6320,21,44790,[21112,21221]),(6860,21,44790,[2112122121,21112211]),(30050,21,44790,[2122121121,11221112]),(40850,17,44790,[12112,211]),(12770,21,44790,[211212211,11221211])]⟩,
⟨[38130,27150],[44790,38130,27150,20490],[(30750,13,44790,[3,1]),(36150,13,44790,[33,1]),(38280,19,44790,[3232132,31]),(43680,19,44790,[313231,1323]),(29640,19,44790,[1321313,13213]),(38305,10,36150,[2,3]),(43705,10,44790,[1,3]),(29665,10,38310,[1,3]),(44725,21,44790,[33132133231,31]),(30685,21,44790,[313213231,2323313]),(36085,21,44790,[3313133232,131332321]),(44750,21,44790,[33132133231,331]),(30710,21,44790,[313213231,1321323]),(36110,21,44790,[3313133232,1323213]),(38240,19,44785,[3232132,31]),(43640,19,44785,[313231,1323]),(29600,19,44785,[1321313,13213]),(44300,17,43710,[2,31]),(15140,21,44790,[31333231,133231]),(33500,21,44790,[323313,1332131]),(30050,21,44790,[33133233,2332131]),(40850,17,44790,[1,32]),(12770,21,44790,[3213323,233131]),(35240,21,44790,[3133213,2133231]),(13640,17,38310,[1,321]),(25520,21,44790,[31333231,2133131])]⟩,
⟨[38130,38305],[44790,38130,38305,44605],[(30750,16,44790,[3,21]),(27150,10,36150,[3,2]),(38280,16,9020,[31,2]),(43680,20,38310,[1,23]),(29640,20,44790,[1,23]),(15240,21,44790,[1333131,23313331]),(33600,21,44790,[313331,23313331]),(12900,21,44790,[31331,31323231]),(30300,21,44790,[1313331,3132323]),(42180,21,44790,[313133,321321332]),(20580,21,44790,[13313,31323332]),(15000,16,44300,[3,21]),(25800,20,38310,[1,213131]),(11580,20,44790,[1,2331]),(44300,10,8780,[3,1]),(15140,21,44790,[333132,3132321]),(9020,14,44790,[1,3]),(30050,21,44790,[231333,3231321]),(40850,20,38310,[1,1321321]),(12770,21,44790,[2132321,2133]),(7190,20,44790,[1,31313]),(24470,21,44790,[21331,1323]),(2510,21,44790,[231333,2133323]),(26170,14,44790,[1,33]),(12130,21,44790,[333132,2132333]),(8530,10,35240,[3,1])]⟩,
⟨[15240],[44790,15240,18090,26340,35490],[(30750,19,44790,[2,122]),(38130,19,44790,[2111212,1121112]),(20490,12,30750,[2,12]),(38305,21,44790,[12111121211,12121121111]),(43705,20,29670,[212111121,1211112]),(29665,21,44790,[1111212112,21112121121111]),(44605,21,44790,[11121211112,2121211212]),(23005,21,44790,[11221,221222121]),(34885,21,44790,[1212112111,111212221]),(30385,21,44790,[1111211212,22112121]),(42265,21,44790,[1211212111,12112121112111]),(20665,21,44790,[21121211,222111]),(35605,21,44790,[11221,21111221]),(21565,20,29670,[2112111211,1212]),(26965,21,44790,[2211221111,2111])]⟩,
⟨[30750,38280],[44790,30750,38280,36150,29640,43680],[(38130,19,44790,[1,23]),(41850,19,44790,[1,131311]),(38305,15,44790,[1,2,3]),(44605,21,44790,[1,31231321]),(37705,21,44790,[1,3]),(22195,21,44790,[1,3323312]),(38055,21,44790,[1,333]),(22395,21,44790,[1,32321]),(37665,16,44750,[1,32]),(41625,21,44790,[1,2131311]),(20925,21,44790,[1,1231131]),(10575,18,44790,[1,3])]⟩,
⟨[38130,40850],[44790,38130,40850,14390,32865,13065],[(30750,21,44790,[3,12312]),(36150,21,44790,[33,123312]),(27150,17,44790,[1,23]),(38280,21,44790,[123231232,2312132131]),(43680,20,38310,[1,132]),(29640,21,44790,[12313213,1323131]),(33600,21,44790,[313331,232332]),(12900,21,44790,[31331,33121]),(20580,21,44790,[13313,2332313]),(15000,15,44550,[3,1,23]),(25800,20,38310,[1,31312]),(20665,18,44550,[31232,3])]⟩,
⟨[38130,43705],[44790,38130,43705,30385,34885,21565,27150,20490],[(30750,16,44790,[3,231]),(38280,21,44790,[132123212131,3123212132]),(43680,21,44790,[31321231,231]),(29640,21,44790,[132121313,121313212]),(44300,21,44790,[2313,12321312]),(15140,21,44790,[231232331,2323323]),(35240,21,44790,[313312131,2133133]),(13640,17,38310,[1,23])]⟩,
⟨[30750,44725],[44790,30750,44725,36150,30685,44750,36085,30710,36110],[(38130,21,44790,[1,23]),(38280,15,44790,[1,3,23]),(44400,21,44790,[1,21331131]),(41850,21,44790,[1,32321]),(21150,21,44790,[1,323211]),(10575,18,44790,[1,3]),(17025,18,44790,[1,333])]⟩,
⟨[38130,43680],[44790,38130,43680,30180,34830,21150,25800,12300,17850,11190],[(30750,19,44790,[3,231]),(38305,20,38310,[1,32]),(43705,21,44790,[21231321,321]),(29665,21,44790,[212313121,131212313]),(20665,21,44790,[1231212323,23121231])]⟩,
⟨[30750,38130],[44790,30750,38130,36150,21930,43350,42450,22830,29130,34530,27150,20490],[(38280,19,44790,[1,32]),(38305,16,44790,[1,32]),(44725,21,44790,[1,32]),(44750,21,44790,[1,332]),(38240,19,44785,[1,32]),(44300,21,44790,[1,21321311])]⟩,
⟨[38130,9020],[44790,38130,9020,2360,8835,26170,2535,19510,25985,19685,44605,38305],[(30750,21,44790,[3,21232]),(27150,17,43710,[3,231]),(43680,20,38310,[1,13231]),(29640,20,44790,[1,31232]),(15240,21,44790,[323121,33221]),(33600,21,44790,[313331,33212])]⟩,
⟨[30750,38280,38305],[44790,30750,38280,38305,36150,29640,29665,43680,44725,43705,44750,30685,30710,36085,38240,36110,29600,43640],[(38130,21,44790,[1,324]),(43350,21,44790,[1,3124]),(29130,21,44790,[1,3214]),(44400,21,44790,[1,34]),(30180,21,44790,[1,134]),(35400,21,44790,[1,314]),(41850,21,44790,[1,424314]),(21150,21,44790,[1,424134]),(26340,21,44790,[1,34411]),(37705,21,44790,[1,4]),(42925,21,44790,[1,114]),(28705,21,44790,[1,14]),(22195,21,44790,[1,143141]),(33895,21,44790,[1,4424421]),(19645,21,44790,[1,4341]),(40340,21,44790,[1,4441]),(13160,21,44790,[1,44411]),(24830,21,44790,[1,432431]),(10575,18,44790,[1,4])]⟩,
⟨[30750,44605],[44790,30750,44605,36150,23005,30385,34885,20665,35605,22830,42265,21565,27150,34530,20490,26965,43350,29130,42450,21930,38130,43705,29665,38305],[(38280,21,44790,[1,21321231]),(44550,21,44790,[1,1211313]),(30300,21,44790,[1,12133]),(35490,21,44790,[1,123113]),(44725,21,44790,[1,3121121]),(38035,21,44790,[1,3112131]),(43225,21,44790,[1,3323321]),(28975,21,44790,[1,1312311]),(44300,21,44790,[1,2131131]),(30050,21,44790,[1,23131]),(35240,21,44790,[1,211331]),(41715,21,44790,[1,331]),(20985,21,44790,[1,3311]),(26170,21,44790,[1,32133])]⟩,
⟨[38130,24470],[44790,38130,24470,4310,16485,42265,2985,23005,10535,35605,25720,17735,29665,11860,32865,6820,13065,39580,40850,5495,20490,14390,31595,27150],[(30750,21,44790,[3,2123312]),(36150,21,44790,[33,212312]),(38280,21,44790,[3232312,13222321]),(43680,21,44790,[13122321,323]),(29640,21,44790,[1213121,23221]),(44550,21,44790,[3233232,33232121]),(22950,21,44790,[123121,12231]),(34830,21,44790,[322323,13213]),(30300,21,44790,[32322,323133]),(42180,21,44790,[212312,2231]),(20580,21,44790,[13313,2313122]),(35490,21,44790,[133313,22131]),(21450,21,44790,[32232,332312]),(26850,21,44790,[3133,22333])]⟩,
⟨[30750,10575],[44790,30750,10575,36150,1935,10510,38280,15975,1870,29640,10535,38240,43680,17025,15910,1895,29600,2985,38305,43640,16985,8385,17050,15935,29665,2945,3010,43705,8345,44725,8410,44750,30685,30710,36085,36110],[(38130,21,44790,[1,123121]),(43350,21,44790,[1,32232]),(29130,21,44790,[1,123321]),(44400,21,44790,[1,21123]),(30180,21,44790,[1,33112]),(35400,21,44790,[1,22332]),(41850,21,44790,[1,132]),(21150,21,44790,[1,113222]),(26340,21,44790,[1,32])]⟩,
⟨[30750,44400],[44790,30750,44400,36150,15240,30180,44550,33600,12900,22950,35400,14850,30300,40980,34830,13800,18090,20580,33030,12300,22830,35490,15000,25680,41850,42180,21150,17700,27150,21450,25800,40740,34530,13530,20490,33150,12630,22380,11430,26340,43350,26850,43080,29130,17850,28830,11580,25230,42450,21930,41130,34050,14130,19830,38130,37890,11190,43680,29640,38280],[(38305,21,44790,[1,32]),(44750,21,44790,[1,331221121]),(38055,21,44790,[1,232]),(43240,21,44790,[1,33331]),(28985,21,44790,[1,2132])]⟩,
⟨[38130,30685],[44790,38130,30685,42925,21835,36110,33895,28910,7190,42375,39230,22395,5685,12630,24490,31425,25230,4510,14350,11580,16535,33065,40630,17700,3395,13085,19685,16375,2535,25985,3595,8835,26170,23965,2360,11200,19510,5065,9020,18040,31595,32540,12245,5495,13640,25565,39580,40275,41850,20925,6820,14715,22950,34785,35400,29960,29640,43640,44605,38305],[(30750,21,44790,[3,3321]),(36150,21,44790,[33,321]),(42450,21,44790,[331,1321]),(21930,21,44790,[13,233]),(27150,21,44790,[212312321,3232212])]⟩,
⟨[30750,37705],[44790,30750,37705,36150,6385,42925,44300,39865,7285,15140,28705,31520,30050,38055,24565,33500,4945,13160,12770,21855,6860,39230,40755,35240,5685,43240,31945,2360,40850,42375,9020,14390,22395,13640,16485,22720,4310,13575,23720,32865,25240,34530,39375,6970,15000,28985,31835,40340,2510,11595,25520,33765,27040,8630,17895,11840,20985,19840,29130,22095,16690,25800,20345,28595,5540,8385,14800,22830,1935,40630,42180,32945,3395,42450,23830,33150,4385,13685,12630,20875,7210,39825,40300,24830,34095,2120,11265,11200,20490,3735,41530,43080,34385,4835,8780,17025,18040,27150,15975,22270,30300,21065,23915,38130,19510,28830,16265,25565,3595,24490,37665,6820,14715,8410,17700,12245,21395,1870,11190,25085,26850,35095,42130,3645,11860,36085,31595,2045,41130,41605,8530,15195,22150,14130,16765,22195,13085,33600,24785,33935,32540,2985,41800,43350,10575,11470,20580,11345,19595,21930,3310,25985,35285,31675,42850,6345,8980,17955,17050,26340,17645,26795,15910,25230,19685,35490,5935,30250,31725,2140,44725,20795,23645,37890,7045,24730,33555,3790,3835,2285,44400,4265,13415,12130,21450,8345,17850,26095,16390,22905,29860,1895,11045,11430,19645,34830,5065,44155,35045,12900,15935,39800,40900,2265,10510,34885,8735,16985,12820,28745,23005,16375,28910,14415,40980,42355,32595,3010,41715,12300,26285,35435,19830,24295,20530,20925,23740,30685,3515,11765,4210,44355,39430,39475,31445,15240,8585,17735,17530,34050,4495,26110,34785,5020,33030,3445,44550,39625,7435,5885,10535,37640,30100,31425,44605,32495,2945,12545,12710,2535,30180,38035,5595,22950,29905,18090,27025,33895,16535,29640,5495,11580,20665,43705,37910,44115,39190,13800,16615,24470,33815,2470,42265,43640,8955,26170,37815,29600,7065,21150,25680,36110,41850,13530,4510,44505,39580,23965,32275,24245,6320,13065,33065,33230,39255,21835,8835,43225,5815,43680,40740,38305,14150,7395,14350,42830,5735,30385,38240,40275,14055,16785,35400,44750,14850,29665,26965,34375,4820,43130,25720,38280,6795,20335,21565,24380,32300,25850,31820,41625,43000,35180,32235,22380,35605,22705,41150,7190,41055,30710,28975,15050,44180,28580,14920,6020,7460,5120,29960,39680],[]⟩]
def Aa:List (List Nat):= [Oa 6 30750,Oa 6 37705]
def A6:List (List Nat):=(aiE.getD 21 ⟨[], [], []⟩).e 6
def aqJ (n:Nat)(g E:List (List Nat))(C:List (Nat×List (List Nat))):Bool:=(AY (λx=>2^xN x) E&&&AY (λc=>AY (λg=>2^xN (cW (Oa n c.1) g)) E) C==AY (λx=>2^xN x) E)&&C.all λc=>E.contains (Oa n c.1)&&(Oa n c.1==bL n||anD (λp z=>p.all (λa=>E.contains (Oa n a))&&p.foldl (λu a=>aX u (cW (Oa n c.1) (Oa n a))) (bL n)==z) c.2 g)
def aqA (n:Nat)(r:yO)(d:List Nat×List Nat×List (Nat×List (List Nat))):Bool:=
 decide (r.els.length=1)||aqB n (r.g n) (d.1.map (Oa n)) (d.2.1.map (Oa n))||((decide (r.els.length=60)||decide (r.els.length=360))&&decide ((r.e n).map xN).Nodup&&aqJ n (r.g n) (r.e n) d.2.2)
def akI (n:Nat)(Rs:List yO)(D:List (List Nat×List Nat×List (Nat×List (List Nat)))):Bool:=(List.range Rs.length).all λk=>match Rs[k]? with|some r=>aqA n r (D.getD k ([], [], []))|none=>true
theorem aqF: [0].all (ajP 6 A6 aiE)=true:=by decide+kernel
theorem apX: [1,2,3].all (ajP 6 A6 aiE)=true:=by decide+kernel
theorem aqG: [4,5,6,7].all (ajP 6 A6 aiE)=true:=by decide+kernel
theorem apW: [8,9,10,11,12,13,14].all (ajP 6 A6 aiE)=true:=by decide+kernel
theorem aqE: [15,16,17,18].all (ajP 6 A6 aiE)=true:=by decide+kernel
theorem apV: [19,20].all (ajP 6 A6 aiE)=true:=by decide+kernel
theorem aqD: [21].all (ajP 6 A6 aiE)=true:=by decide+kernel
theorem apM:akW 6 A6 aiE=true:=by
 unfold akW;rw[show List.range aiE.length= [0]++ [1,2,3]++ [4,5,6,7]++ [8,9,10,11,12,13,14]++ [15,16,17,18]++ [19,20]++ [21] by decide];simp only[List.all_append,aqF,apX,aqG,apW,aqE,apV,aqD,Bool.and_true]
def trn:List (List (List Nat)):= [[Oa 6 44790,Oa 6 44785], [Oa 6 44790,Oa 6 44720,Oa 6 44760], [Oa 6 44790,Oa 6 44145,Oa 6 44370,Oa 6 44610], [Oa 6 44790,Oa 6 39610,Oa 6 40920,Oa 6 42270,Oa 6 43710], [Oa 6 44790,Oa 6 5915,Oa 6 13710,Oa 6 21570,Oa 6 29670,Oa 6 38310]]
def aqC (a:List Nat):List (List (List Nat))->Nat
 | []=>2^xN a
 |l::r=>AY (λb=>aqC (aX a b) r) l
def aqM:Bool:=(AY (λx=>2^xN x) (oM 6 (List.range 6))&&&aqC (bL 6) trn==AY (λx=>2^xN x) (oM 6 (List.range 6)))&&
 ((AY (λx=>2^xN x) A6|||AY (λx=>AY (λa=>2^xN (aX x a)) Aa) A6)==AY (λx=>2^xN x) A6)&&A6.contains (bL 6)&&Aa.all (alZ 6)&&A6.all (alZ 6)&&anN 6 Aa A6&&trn.all (λl=>l.all (alZ 6))&&
 (Aa.all λa=>trn.all λl=>l.all λt=>A6.contains (cW a t))&&trn.all λl=>l.all λa=>trn.all λm=>m.all λb=>A6.contains (jE a b)
theorem apY:aqM=true:=by decide+kernel
theorem aqO:akI 1 anY [([],[],[])]=true:=by decide+kernel
theorem aqP:akI 2 anX [([],[],[]),([],[2],[])]=true:=by decide+kernel
theorem aqI:akI 3 aoA [([],[],[]),([],[21],[]),([],[21],[]),([7],[21,7,11],[])]=true:=by decide+kernel
theorem aqK:akI 4 aoB [([],[],[]),([],[228],[]),([],[228],[]),([],[228],[]),([],[228],[]),([],[228],[]),([],[228],[]),([120],[228,120,156],[]),([177],[228,177],[]),([177,78],[228,177,78,27],[]),([120,177],[228,120,177,156,45,210,201,54,99,135,78,27],[])]=true:=by decide+kernel
theorem aqL:akI 5 aoC [([],[],[]),([],[2930],[]),([],[2930],[]),([],[2930],[]),([],[2930],[]),([],[2930],[]),([],[2930],[]),([],[2930],[]),([],[2930],[]),([1830],[2930,1830,2230],[]),([1830],[2930,1830,2230],[]),([2410],[2930,2410],[]),([1766],[2930,1766,298,714,2102],[]),([1830],[2930,1830,2230],[]),([2410,1490],[2930,2410,1490,970],[]),([2146],[2930,2146,1294,238,1202],[]),([1830,2410],[2930,1830,2410,2230,1110,2790,2710,1190,1670,2070,1490,970],[]),([],[],[(2930,[]),(1830,[[2930],[1398]]),(2410,[[2902,2154],[2930,2902]]),(586,[[2410,1670],[2710,2070]]),(1986,[[1110,970],[1110,1190]])]),([1830,2886],[2930,1830,2886,2230,586,1766,2902,1986,366,1202,2146,542,1778,2566,2102,446,742,978,1922,298,1190,2154,558,1346,2642,2678,1022,698,1490,1054,1358,2538,2070,414,970,1934,334,1138,222,1398,2790,1454,2758,1670,714,1634,238,1294,2710,1110,2582,2014,482,894,2410,2382,194,2826,1726,2426],[])]=true:=by decide+kernel
theorem aqN:akI 6 aiE [([],[],[]),([],[44790],[]),([],[44790],[]),([],[44790],[]),([],[44790],[]),([],[44790],[]),([],[44790],[]),([],[44790],[]),([30750],[44790,30750,36150],[]),([14390],[44790,14390,32865],[]),([20490],[44790,20490],[]),([],[44790],[]),([30180],[44790,30180,12300,17850,34830],[]),([38130,27150],[44790,38130,27150,20490],[]),([38130,38305],[44790,38130,38305,44605],[]),([30750,44725],[44790,30750,44725,36150,30685,44750,36085,30710,36110],[]),([30750,38130],[44790,30750,38130,36150,21930,43350,42450,22830,29130,34530,27150,20490],[]),([27150,14390],[44790,27150,14390,4310,11860,32865,6820,16485,31595,17735,42265,29665],[]),([30750,44725],[44790,30750,44725,36150,30685,44750,36085,30710,36110],[]),([],[],[(44790,[]),(30750,[[44790],[26340]]),(38130,[[44550,35490],[44790,44550]]),(15240,[[38130,29130],[42450,34530]]),(33600,[[21930,20490],[21930,22830]])]),([],[],[(44790,[]),(38130,[[44790],[11580,9020]]),(35400,[[36110,36110,25565],[44790,36110]]),(11580,[[36110,11200,11200],[42375,12245]]),(30685,[[35400,3595],[44790]])]),([],[],[(44790,[]),(30750,[[44790],[44790,26340,32540]]),(38130,[[44550,35490],[38280,26170]]),(15240,[[38130,29130],[36150,36110]]),(33600,[[21930,20490],[30750,30710]]),(23005,[[38130,22830],[26170]]),(30685,[[38280,17025],[44790,22380,28705]])])]=true:=by decide+kernel
def aoS (n:Nat)(P:List Nat->Prop)(L:List (List Nat)):Prop:=(∀x,P x->x=bL n)∨(L.length=60∨L.length=360)/\ ∀N:List Nat->Prop,iX n N->(∀x,N x->P x)->(∀y g,N y->P g->N (cW y g))->(∀x,N x->x=bL n)∨ ∀x,P x->N x
section
variable {n:Nat} {P:List Nat->Prop} {L E:List (List Nat)} {s:List Nat}
theorem alQ {A B:List (List Nat)}{m:Nat}(h:(AY (λx=>2^xN x) A&&&m)=AY (λx=>2^xN x) A){x:List Nat}(b:x∈A):m.testBit (xN x)=true:=by
 have a:(AY (λx=>2^xN x) A).testBit (xN x)=true:=sI.2 ⟨x,b,by rw[Nat.testBit_two_pow];exact decide_eq_true rfl⟩;rw[←h,Nat.testBit_and,vN] at a;exact a.2
theorem akV (a:n<=6){x y:List Nat}(X:bE n x)(Y:bE n y)(h:(2^xN y).testBit (xN x)=true):y=x:=by
 rw[Nat.testBit_two_pow,Qf] at h;exact IW (by rw[X.len,Y.len]) (λi hi=>by have:=Y.lt i hi;omega) (λi hi=>by have:=X.lt i hi;omega) h
theorem AX (S:bE n s){x:List Nat}(X:bE n x):cW (cW x (dA s)) s=x:=by
 have:=MO X S.inv;rwa [inv_inv S] at this
theorem aqH {r:yO}{d:List Nat×List Nat×List (Nat×List (List Nat))}(n6:n<=6)(i:iX n P)(w:dW P L)(p:EA n P)(S:bE n s)(A: ∀g∈r.g n,bE n g)(k:anN n (r.g n) (r.e n)=true)(a7: ∀g∈r.g n,g∈r.e n)(o: ∀x,bE n x->(P x↔cW x s∈r.e n))(h:aqA n r d=true):aoS n P L:=by
 have j: ∀x∈r.e n,bE n x:=Rj (λx X g h=>X.mul (A g h)) (bE.one n) k;have eG: ∀x∈r.e n,bX n (· ∈r.g n) x:=Rj (P:=bX n (· ∈r.g n)) (λx f g h=>bX.mul f h) .one k
 have mv: ∀x,gH n P s x↔x∈r.e n:=λx=>⟨λh=>by
  have:=(o _ (qG h.1 S.inv)).1 h.2
  rwa [AX S h.1] at this,λh=>⟨j x h,(o _ (qG (j x h) S.inv)).2 (by rw[AX S (j x h)];exact h)⟩⟩
 have J:gH n P s=(· ∈r.e n):=funext λx=>propext (mv x)
 have gE:iX n (· ∈r.e n):=by rw[←J];exact gH.dN i S
 have a0:=w.nodup;have cL: ∀x∈L,cW x s∈r.e n:=λx f=>(o x (i.cU ((w.mem x).1 f))).1 ((w.mem x).1 f)
 have U:(L.map λx=>cW x s).Nodup:=by
  rw[nPN,List.pairwise_map];exact (nPN.1 a0).imp_of_mem λ{a b} W q ne e=>ne (AP (i.cU ((w.mem a).1 W)) (i.cU ((w.mem b).1 q)) S e)
 unfold aqA at h;rw[Bool.or_eq_true,Bool.or_eq_true] at h;rcases h with (h|h)|h
 ·refine .inl λx f=>?_
  have K:r.els.length=1:=of_decide_eq_true h;have Q:=(o x (i.cU f)).1 f;have h3:=(o _ (bE.one n)).1 i.one;have l1:(r.e n).length=1:=by unfold yO.e;rw[jV,K]
  obtain⟨z,v⟩:=List.length_eq_one_iff.1 l1;rw[v,List.mem_singleton] at Q h3;exact AP (i.cU f) (bE.one n) S (Q.trans h3.symm)
 ·have:=p.mv i S
  rw[J] at this;exact (EA.not A eG a7 h this).elim
 ·rw[vN,vN,Bool.or_eq_true,Qf,Qf,Qf] at h
  obtain⟨⟨R,a5⟩,hs⟩:=h;have a6:(r.e n).Nodup:=List.Pairwise.imp (λh e=>h (congrArg xN e)) (List.pairwise_map.1 (nPN.1 a5))|>nPN.2
  have pm:(L.map λx=>cW x s).Perm (r.e n):=(List.perm_ext_iff_of_nodup U a6).2 λx=>by
   rw[uF];exact⟨λ⟨y,m,e⟩=>by rw[←e];exact cL y m,λf=>⟨cW x (dA s),(w.mem _).2 ((mv x).2 f).2,AX S (j x f)⟩⟩
  have ll:L.length=r.els.length:=by
   have:=pm.length_eq;rwa [jV,yO.e,jV] at this
  refine .inr ⟨by rw[ll];exact R,λN hN le nm=>?_⟩;refine Jg λhc=>?_
  obtain⟨K,Q⟩:=not_or.1 hc;obtain⟨x,f⟩:=Classical.not_forall.1 K;obtain⟨f,a1⟩:=Classical.not_imp.1 f;refine Q ?_;unfold aqJ at hs;simp only[vN,beq_iff_eq,Kv,Bool.or_eq_true,List.contains_iff_mem] at hs;obtain⟨hm,hC⟩:=hs;have X:=hN.cU f;have m:=(o x X).1 (le x f);have Y:=qG X S;obtain⟨c,hc,q⟩:=sI.1 (alQ (B:= []) hm m);obtain⟨g,F,q⟩:=sI.1 q;obtain⟨a2,a3⟩:=hC c hc;have Cc:=j _ a2;have G:=j g F;have e:=akV n6 Y (qG Cc G) q;have t:=gH.dN hN S
  have O: ∀y g,gH n N s y->g∈r.e n->gH n N s (cW y g):=λy g m A=>by
   refine⟨qG m.1 (j g A),?_⟩;rw[←ajN m.1 (j g A) S.inv];exact nm _ _ m.2 ((mv g).2 A).2
  have cN:gH n N s (Oa n c.1):=by
   have:=O _ _ (gH.anQ hN S f) (gE.inv F);rw[←e,←nX Cc G G.inv,fC G,mG Cc] at this;exact this
  rcases a3 with h|h
  ·exfalso
   rw[h,Ro G] at e;exact a1 (AP X (bE.one n) S (e.symm.trans (Ro S).symm))
  ·have gN: ∀z∈r.g n,gH n N s z:=λz v=>by
    obtain⟨p,hp,h⟩:=alC h z v;rw[vN,Kv,beq_iff_eq] at h;rw[←h.2]
    have a4: ∀(l:List Nat) (u:List Nat),gH n N s u->(∀a∈l,Oa n a∈r.e n)->gH n N s (l.foldl (λu a=>aX u (cW (Oa n c.1) (Oa n a))) u):=by
     intro l
     induction l with
     |nil=>exact λu hu _=>hu
     |cons a l ih=>exact λu hu R=>ih _ (t.mul hu (O _ _ cN (R a Ab))) λb q=>R b (Cu _ q)
    exact a4 p _ t.one λa W=>List.contains_iff_mem.1 (h.1 a W)
   intro z v;have Z:=i.cU v;have K:=bX.le t gN (eG _ ((o z Z).1 v));have:=K.2;rwa [MO Z S] at this
theorem alS {a:List yO}{D:List (List Nat×List Nat×List (Nat×List (List Nat)))}{V:List Nat->Prop}{U:List (List Nat)}(q:n<=6)(w: ∀x,V x->bE n x/\x∈U)(l: ∀x s,V x->bE n s->V (cW x s))(chk:akW n U a=true)(h:a.length≠0)(u: ∀r,a[0]? =some r->r.gens= [])(j:akI n a D=true)(o:iX n P)(i: ∀x,P x->V x)(t:dW P L)(p:EA n P):aoS n P L:=by
 have h:0<a.length:=om
 obtain⟨k,s,d,S,m,v⟩:=akR q w l (alH chk) _ 0 P h (fM _) o i (λg b=>by
  have:=u a[0] (dD h);unfold yO.g at b;rw[this] at b
  cases b)
 have c:=alH chk k d;have f:=Kv.1 j k (Gu.2 d);rw[dD d] at f;unfold amC at c;simp only[vN,Kv] at c;exact aqH q o t p S (λg b=>akC (c.1.1.2 g b)) c.1.1.1 m v f
end
theorem amV {a:List Nat}{i:Nat}: ∀{ls:List (List (List Nat))} {a:List Nat},(aqC a ls).testBit i=true-> ∀{Q:List Nat->Prop},Q a->(∀x,Q x-> ∀l∈ls,∀b∈l,Q (aX x b))-> ∃y,Q y/\(2^xN y).testBit i=true
 | [],a,h,Q,ha,_=>⟨a,ha,h⟩
 |l::r,a,h,Q,ha,hm=>by
  obtain⟨b,k,h⟩:=sI.1 h;exact amV (a:= []) h (hm a ha l Ab b k) λx j f d m c=>hm x j f (Cu _ d) m c
theorem akM {n:Nat}{P:List Nat->Prop}{L:List (List Nat)}(n0:1<=n)(N:n<=6)(f:iX n P)(E:dW P L)(p:EA n P):aoS n P L:=by
 have j: ∀{n:Nat} {P:List Nat->Prop} {Rs:List yO} {D:List (List Nat×List Nat×List (Nat×List (List Nat)))},n<=6->akW n (oM n (List.range n)) Rs=true->Rs.length≠0->(∀r,Rs[0]? =some r->r.gens= [])->akI n Rs D=true->iX n P->dW P L->EA n P->aoS n P L:=λN chk h0 Y G f E p=>alS (V:=bE _) N (λx X=>⟨X,alP X⟩) (λx s X S=>qG X S) chk h0 Y G f (λx d=>f.cU d) E p
 rcases (show n=1∨n=2∨n=3∨n=4∨n=5∨n=6 by omega) with rfl|rfl|rfl|rfl|rfl|rfl
 ·exact j om amY (by decide) (λr h=>by cases h;rfl) aqO f E p
 ·exact j om anF (by decide) (λr h=>by cases h;rfl) aqP f E p
 ·exact j om anE (by decide) (λr h=>by cases h;rfl) aqI f E p
 ·exact j om amS (by decide) (λr h=>by cases h;rfl) aqK f E p
 ·exact j om anC (by decide) (λr h=>by cases h;rfl) aqL f E p
 ·have q:=apY
  unfold aqM at q;simp only[vN,beq_iff_eq,Kv,List.contains_iff_mem] at q;obtain⟨⟨⟨⟨⟨⟨⟨⟨s1,s2⟩,s3⟩,R⟩,s5⟩,s6⟩,s7⟩,O⟩,U⟩:=q;have w: ∀g∈Aa,bE 6 g:=λg v=>akC (R g v)
  have J: ∀x∈A6,bE 6 x:=λx d=>akC (s5 x d)
  have z: ∀g∈trn.flatten,bE 6 g:=λg v=>by
   obtain⟨l,o,h⟩:=List.mem_flatten.1 v;exact akC (s7 l o g h)
  have K: ∀x∈A6,bX 6 (· ∈Aa) x:=Rj (P:=bX 6 (· ∈Aa)) (λx d g h=>bX.mul d h) .one s6
  have cl: ∀x∈A6,∀a∈Aa,aX x a∈A6:=λx d a k=>by
   have b:(AY (λx=>2^xN x) A6).testBit (xN (aX x a))=true:=by
    rw[←s2,Nat.testBit_or,Bool.or_eq_true];exact .inr (sI.2 ⟨x,d,sI.2 ⟨a,k,by rw[Nat.testBit_two_pow];exact decide_eq_true rfl⟩⟩)
   obtain⟨y,i,h⟩:=sI.1 b;exact akV om ((J x d).mul (w a k)) (J y i) h▸i
  have V2: ∀x,bX 6 (· ∈Aa) x->x∈A6:=λx d=>akJ s3 cl d
  have all: ∀x,bE 6 x->bX 6 (· ∈trn.flatten) x:=λx X=>by
   obtain⟨y,i,h⟩:=amV (a:= []) (alQ (B:= []) s1 (alP X)) (Q:=bX 6 (· ∈trn.flatten)) .one λx d l o b u=>bX.mul d (List.mem_flatten.2 ⟨l,o,u⟩)
   exact akV om X (i.cU z) h▸i
  have A:=bX.dN w
  have t: ∀y,bX 6 (· ∈Aa) y-> ∀a∈trn.flatten,bX 6 (· ∈Aa) (cW y a):=λy i a k=>by
   obtain⟨l,o,h⟩:=List.mem_flatten.1 k;exact YN w (z a k) (λc hc=>K _ (O c hc l o a h)) i
  have cj: ∀x s,bX 6 (· ∈Aa) x->bE 6 s->bX 6 (· ∈Aa) (cW x s):=λx s d S=>Xw A z (λy b i u=>t y i b u) (all s S) x d
  have F: ∀x,P x->bX 6 (· ∈Aa) x:=p _ A λx y d i=>akL (λg v=>z g (List.contains_iff_mem.1 v)) A (λa k b u=>by
   obtain⟨l,o,h⟩:=List.mem_flatten.1 k;obtain⟨m,Z,W⟩:=List.mem_flatten.1 u
   exact K _ (U l o a h m Z b W)) t (all x (f.cU d)) (all y (f.cU i))
  exact alS om (λx d=>⟨d.cU w,V2 x d⟩) cj apM (by decide) (λr h=>by cases h;rfl) aqN f F E p
theorem ajG {α:Type}(p:α->Bool): ∀A:List α,A.length=(A.filter p).length+(A.filter λx=>!p x).length
 | []=>rfl
 |a::A=>by
  have b:=ajG p A;cases h:p a<;>simp [List.filter_cons,h]<;>omega
set_option maxRecDepth 100000
set_option maxRecDepth 100000
set_option maxRecDepth 100000
set_option maxHeartbeats 32000000
set_option maxHeartbeats 32000000
set_option maxRecDepth 100000
set_option maxHeartbeats 32000000
set_option maxRecDepth 100000
end Go.Proofs.YtcdbmkidaecdiaaGreat
namespace Go.Proofs.YtcdbmkidaecdiaaGreat
set_option maxRecDepth 100000
open Go Go.Ay Go.Pm
end Go.Proofs.YtcdbmkidaecdiaaGreat
namespace Go.Proofs.YtcdbmkidaecdiaaGreat
open Go Go.Ay Go.Pm
set_option maxRecDepth 100000
structure KFd (n:Nat)(G:List Nat->Prop)(L:LN)(W:Nat->Prop)(h:H)(a:Cls.KE)(r:Nat):Prop where
 ord:a.ord=qF (L.getD r []) n
 size:a.size=(kY G L r).length
 rep:PV W h a.rep (L.getD r [])
structure RdO (n:Nat)(G:List Nat->Prop)(L:LN)(K:List Nat)(b:Nat)(vO vR:V)(hh:H)(v:V):Prop where
 ex: ∃vL S ks vM,v= .agg [aC n,vO,vR,vL,.sl S 0 K.length (.kn K.length),vM]/\b<=S/\S<hh.next/\hh.get S=aZ (uK ks)/\aM (KFd n G L (λq=>q<b∨S<=q) hh) ks K/\SP hh vL L/\SI hh vM (zi (apS G L K))
section
variable {n:Nat} {G:List Nat->Prop} {L:LN}
theorem KFd.go {W W':Nat->Prop}{h h':H}{a:Cls.KE}{r:Nat}(k:KFd n G L W h a r)(f:Fx W h h')(b: ∀id,id<h.next->W' id->W id):KFd n G L W' h' a r:=⟨k.ord,k.size,PV.go k.rep f b⟩
theorem KFd.fr {W:Nat->Prop}{h h':H}{a:Cls.KE}{r:Nat}(k:KFd n G L W h a r)(f:Fr h h'):KFd n G L W h' a r:=⟨k.ord,k.size,k.rep.si.mono f,k.rep.off⟩
theorem RdO.open {K:List Nat}{b:Nat}{i c:V}{a:H}{v:V}(r:RdO n G L K b i c a v):
  ∃vL S ks vM,v= .agg [aC n,i,c,vL,.sl S 0 K.length (.kn K.length),vM]/\vL.one=true/\vM.one=true/\b<=S/\S<a.next/\a.get S=aZ (uK ks)/\ks.length=K.length/\aM (KFd n G L (λq=>q<b∨S<=q) a) ks K/\SP a vL L/\SI a vM (zi (apS G L K)):=by
 obtain⟨vL,S,ks,vM,e,l,j,k,d,f,h⟩:=r.ex
 exact⟨vL,S,ks,vM,e,(SV.cK (show SV a vL 1 _ from f.choose_spec.1)).2.1,(SV.cK h).2.1,l,j,k,aM.length d,d,f,h⟩
end
set_option maxRecDepth 100000
end Go.Proofs.YtcdbmkidaecdiaaGreat
namespace Go.Proofs.YtcdbmkidaecdiaaGreat
open Go Go.Ay Go.Pm Go.Sort
set_option maxRecDepth 100000
theorem Oc: ∀a:List Nat,kP a a=false
 | []=>rfl
 |a::l=>by unfold kP;rw[bF rfl];exact Oc l
theorem uD: ∀{a b c:List Nat},kP a b=true->kP b c=true->kP a c=true
 | [], [],_,h,_=>by cases h
 | [],_::_, [],_,h=>by cases h
 | [],_::_,_::_,_,_=>rfl
 |_::_, [],_,h,_=>by cases h
 |_::_,_::_, [],_,h=>by cases h
 |x::a,y::b,z::c,h1,h2=>by
  unfold kP at h1 h2 ⊢;split at h1
  ·rename_i e
   subst e;split at h2
   ·rename_i e;rw[bF e];exact uD h1 h2
   ·rename_i e;rw[bI e];exact h2
  ·rename_i e
   have:=of_decide_eq_true h1;split at h2
   ·rename_i d
    subst d;rw[bI e];exact h1
   ·have f:=of_decide_eq_true h2
    rw[bI om];exact oQ om
theorem Hw: ∀{a b:List Nat},kP a b=false->kP b a=false->a=b
 | [], [],_,_=>rfl
 | [],_::_,h,_=>by cases h
 |_::_, [],_,h=>by cases h
 |x::a,y::b,h1,h2=>by
  unfold kP at h1 h2;split at h1
  ·rename_i e
   subst e;rw[bF rfl] at h2;rw[Hw h1 h2]
  ·rename_i e
   rw[bI (Ne.symm e)] at h2;have c:=of_decide_eq_false h1;have d:=of_decide_eq_false h2;omega
def ZD (a b:List Nat):Int:=if (a.length:Int)≠b.length then (a.length:Int)-b.length else Hx a b
def NI (a b:List Nat):Bool:=decide (ZD a b<0)
theorem EO (a b:List Nat):NI a b=true↔a.length<b.length∨a.length=b.length/\kP a b=true:=by
 unfold NI ZD;rw[Qf];split
 ·omega
 ·rw[Uq]
  constructor
  ·exact λh=> .inr ⟨om,h⟩
  ·rintro (h|h)
   ·omega
   ·exact h.2
theorem UZ (a b:List Nat):NI a b=false↔ ¬(a.length<b.length∨a.length=b.length/\kP a b=true):=by
 rw[←EO,Bool.not_eq_true]
theorem By:SWO NI where
 irrefl x:=by rw[UZ,Oc];simp
 trans x y z c b:=by
  rw[EO] at*;rcases c with c|⟨c,d⟩<;>rcases b with b|⟨b,a⟩
  ·exact .inl om
  ·exact .inl om
  ·exact .inl om
  ·exact .inr ⟨om,uD d a⟩
 ntrans x y z c b:=by
  rw[UZ] at*;rintro (h|⟨h,k⟩)
  ·omega
  ·have j:y.length=x.length:=om
   have i:z.length=y.length:=om
   have d:kP x y=false:=by
    rw[←Bool.not_eq_true];exact λk=>c (.inr ⟨j.symm,k⟩)
   have a:kP y z=false:=by
    rw[←Bool.not_eq_true];exact λk=>b (.inr ⟨i.symm,k⟩)
   by_cases f:kP y x=true
   ·have:=uD f k
    rw[this] at a;cases a
   ·have:=Hw d (by simpa using f)
    rw[this] at k;rw[k] at a;cases a
theorem abK {a b:List Nat}(c:NI a b=false)(h2:NI b a=false):a=b:=by
 rw[UZ] at c h2;have e:a.length=b.length:=om
 exact Hw (by rw[←Bool.not_eq_true];exact λk=>c (.inr ⟨e,k⟩)) (by rw[←Bool.not_eq_true];exact λk=>h2 (.inr ⟨e.symm,k⟩))
theorem RO {W W':Nat->Prop}{L:LN}{h:H}{p q:V×V×V}{a b:List Nat}(n:Nat)(Q:L.length<=5040)(j:Nm W n L h p a)(l:Nm W' n L h q b):
  Ev T 84 [Zw n p,Zw n q] h (λv h'=>v= aC (ZD a b)/\Fr h h'):=by
 obtain⟨y,J,x⟩:=j.one
 obtain⟨K,A,N⟩:=l.one
 have la:=j.rk.short
 have lb:=l.rk.short
 have o:=j.si.lens
 rw[aQ] at o
 have w:=l.si.lens
 rw[aQ] at w
 refine cV oU rfl ?_
 obtain⟨B,r⟩:=exI h.next
 obtain⟨F,G,u,R,q1,m⟩:=dF r [aC n,p.1,p.2.1,p.2.2]
 obtain⟨O,z,Y,s,U,k⟩:=dF u [aC n,q.1,q.2.1,q.2.2]
 have i:O.get B=aZ (Bt n p):=by rw[U B om];exact R
 unfold ZD
 by_cases f:(a.length:Int)≠(b.length:Int)
 ·have t:=oQ f
  simp(disch:=omega)only[go_sem,oU,aD,fZ h (a:= aC n) (b:=p.1) (c:=p.2.1) (d:=p.2.2) rfl y J x,r,G,fZ F (a:= aC n) (b:=q.1) (c:=q.2.1) (d:=q.2.2) rfl K A N,u,z,H.aF i,H.aF s,o,w,t,bF f]
  exact m.trans k
 ·have t:=bH f
  simp(disch:=omega)only[go_sem,oU,aD,fZ h (a:= aC n) (b:=p.1) (c:=p.2.1) (d:=p.2.2) rfl y J x,r,G,fZ F (a:= aC n) (b:=q.1) (c:=q.2.1) (d:=q.2.2) rfl K A N,u,z,H.aF i,H.aF s,o,w,t,gU i,gU s,bI f]
  refine (ET n Q (j.mono (m.trans k)) (l.mono (m.trans k))).mono ?_
  rintro _ Z ⟨rfl,P⟩
  simp(disch:=omega)only[go_sem]
  exact m.trans (k.trans P)
structure NE where
 n:Nat
 p:V×V×V
 r:List Nat
 one:p.1.one=true/\p.2.1.one=true/\p.2.2.one=true
 eq:dE p.1 p.1=true/\dE p.2.1 p.2.1=true/\dE p.2.2 p.2.2=true
instance:Inhabited NE:=⟨⟨0,(.aE,.aE,.aE), [],⟨rfl,rfl,rfl⟩,⟨rfl,rfl,rfl⟩⟩⟩
def NE.enc (a:NE):List V:=Bt a.n a.p
def NE.lt (a b:NE):Bool:=NI a.r b.r
def NE.Pp (n:Nat)(L:LN)(hB:H)(b0 S:Nat)(a:NE):Prop:=a.n=n/\Nm (λq=>b0<=q∨q=S) n L hB a.p a.r
theorem ahA {a h:H}{c S:Nat}(f:a.next=c)(b:Cls.Bb a c S h):Fx (λq=>c<=q∨q=S) a h:=
 ⟨by rw[f];exact b.1,λq i d=>b.2 q om λe=>d (.inr e)⟩
def apJ (k:Nat):Nat:=if k=247 then 168 else if k=260 then 211 else if k=248 then 169 else if k=227 then 127 else if k=254 then 175 else if k=253 then 174 else if k=252 then 173 else if k=249 then 170 else if k=250 then 171 else if k=264 then 245 else if k=262 then 215 else if k=261 then 214 else if k=251 then 172 else if k=186 then 83 else k
theorem aoZ {ρ:Nat->Nat}{k m:Nat}{c d:Ay.Fn}(h:T k=some c)(h':T m=some d)(e:d=Cls.apE ρ c):T m=(T k).map (Cls.apE ρ):=by
 rw[h,h',e]
 rfl
theorem apG: ∀k,k∈Cls.sK->T (apJ k)=(T k).map (Cls.apE apJ):=by
 intro k a;simp only[Cls.sK,zH,List.not_mem_nil,or_false] at a;rcases a with rfl|rfl|rfl|rfl|rfl|rfl|rfl|rfl|rfl|rfl|rfl|rfl|rfl|rfl
 ·exact aoZ fK.ok fL.ok (by kernel_rfl)
 ·exact aoZ gJ.ok gO.ok (by kernel_rfl)
 ·exact aoZ gX.ok gW.ok (by kernel_rfl)
 ·exact aoZ iA.ok iB.ok (by kernel_rfl)
 ·exact aoZ sP.ok fN.ok (by kernel_rfl)
 ·exact aoZ sV.ok fE.ok (by kernel_rfl)
 ·exact aoZ dU.ok dV.ok (by kernel_rfl)
 ·exact aoZ dI.ok dJ.ok (by kernel_rfl)
 ·exact aoZ sH.ok cQ.ok (by kernel_rfl)
 ·exact aoZ iD.ok iH.ok (by kernel_rfl)
 ·exact aoZ iF.ok iI.ok (by kernel_rfl)
 ·exact aoZ fF.ok eZ.ok (by kernel_rfl)
 ·exact aoZ fP.ok fS.ok (by kernel_rfl)
 ·exact aoZ eU.ok eS.ok (by kernel_rfl)
@[reducible] def agT (n:Nat)(L:LN)(hL:L.length<=5040)(hB:H)(b0 S:Nat)(hb:hB.next=b0):Cls.aN NE where
 lt:=NE.lt
 enc:=NE.enc
 P:=NE.Pp n L hB b0 S
 B:=Cls.Bb hB b0 S
 f:=84
 b0:=b0
 S:=S
 swo:=⟨λx=>By.irrefl x.r,λx y z=>By.trans x.r y.r z.r,λx y z=>By.ntrans x.r y.r z.r⟩
 len _:=rfl
 one a:=by simp [NE.enc,Bt,a.one,show (aC (a.n:Int)).one=true from rfl]
 eqv a:=by simp [NE.enc,Bt,dE,aoW,a.eq]
 cmp h a b hb' pa pb:=by
  have fx:=ahA hb hb';obtain⟨ea,na⟩:=pa;obtain⟨eb,nb⟩:=pb;have:=RO n hL (na.go fx (W':=λ_=>False) λ_ _ h=>h.elim) (nb.go fx (W':=λ_=>False) λ_ _ h=>h.elim);unfold NE.enc;rw[ea,eb]
  exact this.mono λv h' ⟨e,f⟩=>⟨_,e,rfl,f⟩
 bfr h h' b f:=⟨mT b.1 f.next,λq h1 h2=>by rw[f.get q (iW h1 b.1)];exact b.2 q h1 h2⟩
 bS h h' b f:=⟨mT b.1 f.next,λq h1 h2=>by rw[f.get q (iW h1 b.1) h2];exact b.2 q h1 h2⟩
 bR h h' R b hR f:=⟨mT b.1 f.next,λq h1 h2=>by rw[f.get q (iW h1 b.1) (λe=>by have:q=R:=e;omega)];exact b.2 q h1 h2⟩
 bn h b:=b.1
 ρ:=apJ
 hT:=apG
 s1:=rfl
 s2:=rfl
 s3:=rfl
theorem IH {l:List NE}{N:Nat}(k:l.length=N){e:Array NE}(q:PermIn 0 N l.toArray e)(o:SortedIn NE.lt 0 N e):e.toList.Perm l/\e.toList.Pairwise (λa b=>NE.lt b a=false):=by
 obtain⟨s,u,p⟩:=q;have c:e.size=N:=by rw[s];simpa using k
 refine⟨?_,?_⟩
 ·have r:(e.extract 0 N).toList=e.toList:=by rw[←c];simp
  have t:(l.toArray.extract 0 N).toList=l:=by rw[←k];simp
  rwa [r,t] at p
 ·rw[JX]
  intro i j hi d f;have h:j<N:=by simpa [c] using d
  have:=o i j (iJ _) f h;have n:e[i]! =e.toList[i]:=by simp at hi;simp [hi]
  have m:e[j]! =e.toList[j]:=by simp at d;simp [d]
  rw[n,m] at this;exact this
theorem PA (n:Nat)(L:LN)(j:L.length<=5040)(h:H)(S:Nat)(l:List NE)(d:Kh)(r:l.length<60000)(o:h.get S=aZ (l.flatMap NE.enc))(k:S<h.next)(f: ∀a∈l,a.Pp n L h h.next S):
  Ev T 83 [.sl S 0 l.length d,.fn 84 [] []] h (λ_ h'=> ∃l':List NE,h'.get S=aZ (l'.flatMap NE.enc)/\l'.Perm l/\l'.Pairwise (λa b=>NE.lt b a=false)/\Fx (· =S) h h'):=by
 letI:=agT n L j h h.next S rfl
 have A:Cls.fD h S l.length l.toArray:=⟨o,by simp,k,rfl,⟨fM _,λ_ _ _=>rfl⟩,λi hi=>by
  have c:i<l.length:=by simpa using hi
  have:l.toArray[i]! =l[i]:=by simp [c]
  rw[this]
  exact f _ (zG c)⟩
 refine (Cls.zU h S l.length l.toArray d r A).mono ?_
 rintro _ h' ⟨e,m,p,s,F⟩
 obtain⟨t,q⟩:=IH rfl p s
 exact⟨e.toList,m.get,t,q,F⟩
end Go.Proofs.YtcdbmkidaecdiaaGreat
namespace Go.Proofs.YtcdbmkidaecdiaaGreat
open Go Go.Ay Go.Pm
set_option maxRecDepth 100000
structure Bm (n:Nat)(G:List Nat->Prop)(L:LN)(rs:LN):Prop where
 mem: ∀r,r∈rs↔xJ n G L r
 srt:rs.Pairwise λa b=>NI a b=true
theorem Bm.uniq {n:Nat}{G:List Nat->Prop}{L:LN}{rs c:LN}(a:Bm n G L rs)(b:Bm n G L c):rs=c:=by
 have nd: ∀{l:LN},(l.Pairwise λa b=>NI a b=true)->l.Nodup:=λh=>h.imp λ{a b} h e=>by
  rw[e,By.irrefl] at h;cases h
 have p:rs.Perm c:=(List.perm_ext_iff_of_nodup (nd a.srt) (nd b.srt)).2 λr=>(a.mem r).trans (b.mem r).symm
 exact p.eq_of_pairwise (λx y _ _ f d=>by have:=By.trans x y x f d;rw[By.irrefl] at this;cases this) a.srt b.srt
section
variable {n:Nat} {G:List Nat->Prop} {L:LN} {K:List Nat} {fs:LN} (hG:iX n G) (E:dW G L)
include hG E
theorem Sv (F:K.Perm (jW G L L.length))(A:(Pz L λx=>x=bL n)∈fs)(all: ∀r∈fs,xJ n G L r)(cl: ∀r∈fs,∀k∈K,k∈r∨yR n G L r k∈fs)(M:List Nat)(c:xJ n G L M):M∈fs:=by
 have B: ∀(d:Nat) (N:List Nat),N∈fs->(∀x∈N,x∈M)->L.length<=N.length+d->M∈fs:=by
  intro d
  induction d with
  |zero=>
   intro N l v Z;have f:=all N l
   have:N=M:=VD f.rk.asc c.rk.asc λx=>⟨v x,λi=>Jg λo=>by
    have:=List.Nodup.length_le_of_subset (List.nodup_cons.2 ⟨o,f.rk.asc.imp λh=>Nat.ne_of_lt h⟩) (l₂:=List.range L.length) λy z=>by
     rcases zH.1 z with rfl|z
     ·exact Gu.2 ((c.rk.mem y).1 i).1
     ·exact Gu.2 ((f.rk.mem y).1 z).1
    rw[List.length_cons,NM] at this
    omega⟩
   rw[←this];exact l
  |succ d ih=>
   intro N l v Z;have f:=all N l
   by_cases h: ∃x,x∈M/\x∉N
   ·obtain⟨x,i,o⟩:=h
    have s:=((c.rk.mem x).1 i).1;obtain⟨k,hk,hR,g,q,e⟩:=Vo hG E s;have m:k∈K:=F.mem_iff.2 (kV.2 ⟨om,hR⟩)
    have p:k∉N:=λh=>o (by
     obtain⟨t,u,W⟩:=f.nm _ _ ⟨k,h,rfl⟩ q;have:t=x:=yK E.nodup ((f.rk.mem t).1 u).1 s (W.trans e)
     rw[←this];exact u)
    have w:RG L M (L.getD k []):=by
     have P:=lY hG E (show k<L.length by omega);have:=c.nm _ _ ⟨x,i,rfl⟩ (hG.inv q);rwa [←e,←nX P (hG.cU q) (hG.cU q).inv,fC (hG.cU q),mG P] at this
    rcases cl N l k m with h|h
    ·exact absurd h p
    ·have gr:=Gw f ((kV.1 (F.mem_iff.1 m)).1) p
     refine ih _ h (λt u=>?_) om;obtain⟨Q,U⟩:=(Bj t).1 u;exact (c.rk.mem t).2 ⟨Q,NC.le U c.dN (λa h=>h.elim (λ⟨j,hj,e⟩=>⟨j,v j hj,e⟩) λe=>by rw[e];exact w) λa b O Y=>c.nm a b O Y⟩
   ·have:N=M:=VD f.rk.asc c.rk.asc λx=>⟨v x,λi=>Jg λo=>h ⟨x,i,o⟩⟩
    rw[←this];exact l
 refine B L.length _ A (λx i=>?_) om;obtain⟨R,J⟩:=((Dy L _).mem x).1 i;exact (c.rk.mem x).2 ⟨R,by rw[J];exact c.dN.one⟩
end
theorem acZ {W:Nat->Prop}{n:Nat}{L:LN}{h:H}: ∀{ps:List (V×V×V)} {rs:LN},aM (Nm W n L h) ps rs-> ∃l:List NE,l.flatMap NE.enc=zB n ps/\l.map NE.r=rs/\ ∀a∈l,a.n=n/\Nm W n L h a.p a.r
 | [], [],_=>⟨[],rfl,rfl,λa b=>by cases b⟩
 |p::ps,r::rs,⟨m,a⟩=>by
  obtain⟨l,c,d,f⟩:=acZ a;refine⟨⟨n,p,r,m.one,m.eq⟩::l,?_,by rw[List.map_cons,d],λa b=>?_⟩
  ·rw[List.flatMap_cons,c];rfl
  ·rcases zH.1 b with rfl|b
   ·exact⟨rfl,m⟩
   ·exact f a b
def agX (n:Nat)(G:List Nat->Prop)(L:LN)(h:H)(v:V)(h':H):Prop:=
 ((∃vl ls rs,v= .tup [vl,aC 0]/\Bm n G L rs/\rs.length<=200/\SV h' vl 3 (Kr n ls)/\aM (AV (λ_=>False) n L h') ls rs)∨
  (v= .tup [.aE,aC 5]/\ ∃fs:LN,fs.Nodup/\(∀r∈fs,xJ n G L r)/\200<fs.length))/\Fr h h'
structure NwJ (n:Nat)(G:List Nat->Prop)(L:LN)(K:List Nat)(b Q:Nat)(h0 hh:H)(fs:LN)(i j:Nat):Prop where
 ex: ∃vf,hh.get Q=aZ [vf]/\NmL (λq=>q=Q) n L b hh vf fs/\ ¬dO vf Q
 fr:Fr h0 hh
 nx:Q<hh.next
 bn:b<=hh.next
 nd:fs.Nodup
 all: ∀r∈fs,xJ n G L r
 bot:(Pz L λx=>x=bL n)∈fs
 il:i<fs.length∨(i=fs.length/\j=0)
 cl: ∀t k,(t<i∨t=i/\k∈K.take j)->t<fs.length->k∈K->k∈fs.getD t []∨yR n G L (fs.getD t []) k∈fs
theorem apP {l:LN}{a:List Nat}(h:l.Nodup):(tF l a).Nodup:=by
 unfold tF;split
 ·exact h
 ·rename_i c
  rw[List.nodup_append];exact⟨h,List.pairwise_singleton _ _,λx b y d e=>c (by rw[←List.mem_singleton.1 d,←e];exact b)⟩
theorem LQ {l:LN}{a:List Nat}{t:Nat}(h:t<l.length):(tF l a).getD t []=l.getD t []:=by
 unfold tF;split
 ·rfl
 ·rw[WN,WN,Dv h]
theorem TG (l:LN)(a:List Nat):l.length<=(tF l a).length/\(tF l a).length<=l.length+1:=by
 unfold tF;split
 ·omega
 ·rw[jZ];exact⟨Nat.le_add_right _ _,fM _⟩
theorem Cf {W0:Nat->Prop}(vc:V)(n:Nat)(O:LN)(R:jI)(G:List Nat->Prop)(h:H)(gc:GC W0 h vc n O R G):
  Ev T 26 [vc] h (λv h'=> ∃L,cZ O R n 0 (bL n)=L/\agX n G L h v h'):=by
 obtain⟨vO,vR,rfl,e9,i1⟩:=gc.shape
 refine cV yS rfl ?_
 obtain⟨A,hA⟩:=exI h.next
 obtain⟨o,e1,n1,g1,q1,f1⟩:=dF hA [aC n,vO,vR]
 simp(disch:=omega)only[go_sem,yS,aD,bM h (v:= aC n) (u:=vO) (w:=vR) rfl e9 i1,hA,e1,aI g1]
 refine (FX _ n O R G o (gc.mono f1)).mono ?_
 rintro _ z ⟨T0,L,K,rfl,zC,f2⟩
 obtain⟨ll,E,hG,l5,n0,n7⟩:=zC.few
 have ik:=zC.isK
 have eL:=zC.hL
 have F2:=f1.trans f2
 simp(disch:=omega)only[go_sem]
 refine aW (λhc=>(hc rfl).elim) (λ_=>?_)
 simp(disch:=omega)only[go_sem]
 refine (EU T0 n O R G L K z zC).mono ?_
 rintro _ h3 ⟨p0,rfl,c2,f3⟩
 obtain⟨o1,o2,o3⟩:=c2.one
 obtain⟨N,g9⟩:=exI h3.next
 obtain⟨h4,e4,n4,g4,q4,f4⟩:=dF g9 (Bt n p0)
 obtain⟨h5,e5,n5,g5,q5,f5⟩:=dF n4 [.sl N 0 1 (.kn 1)]
 have bx:Cv h4 (.agg [.sl N 0 1 (.kn 1)])=some (.ptr (N+1) 0,h5):=by rw[←e5,←n4];rfl
 simp(disch:=omega)only[go_sem,WD h3 (a:= aC n) (b:=p0.1) (c:=p0.2.1) (d:=p0.2.2) rfl o1 o2 o3,g9,e4,show rO [.aE] [(0,1,.sl N 0 1 (.kn 1))]=some (.agg [.sl N 0 1 (.kn 1)]) from rfl,bx]
 have l0:=f3.next
 have i5:Fr z h5:=⟨om,λq hq=>by rw[q5 q om,q4 q om,f3.get q hq]⟩
 have b7:h5.get N=aZ (Bt n p0):=by rw[q5 _ om];exact g4
 have c6:Nm (λq=>q=N+1∨dO (.sl N 0 1 (.kn 1)) q) n L h5 p0 (Pz L λx=>x=bL n):=
  ((c2.go (Fx.refl _ _) (W':=λq=>q=N+1∨dO (.sl N 0 1 (.kn 1)) q) λq o z=>by
   rcases z with e|⟨_,_,_,e⟩
   ·omega
   ·cases e;omega).mono f4).mono f5
 have J0:NwJ n G L K N (N+1) z h5 [Pz L λx=>x=bL n] 0 0:=by
  refine⟨⟨_,g5,⟨[p0],.inr ⟨N,1,_, [],rfl,rfl,.inr ⟨rfl,rfl⟩,fM _,om,b7⟩,⟨c6,trivial⟩,λid a5 m c e=>by cases e;exact b7⟩,λ⟨_,_,_,e⟩=>by cases e⟩,i5,om,om,List.pairwise_singleton _ _,λr hr=>by rw[List.mem_singleton.1 hr];exact WA hG E,List.mem_singleton.2 rfl,.inl (by show 0<1;omega),λt k o=>?_⟩;rcases o with o|⟨_,o⟩
  ·omega
  ·cases o
 obtain⟨Q,hQ⟩:=exI (N+1)
 rw[hQ] at J0 ⊢
 clear c6 c2 b7 bx
 obtain⟨lO,lR,M,lr,gT,gM,_,e8,nM⟩:=zC.ex
 have j5:=zC.nx
 have i8: ∀h',Fr z h'->h'.get T0=aZ [aC n,lO,lR,.mp M,lr]:=λh' f=>by rw[f.get T0 j5];exact gT
 have h0:=e8.lens
 simp only[jV] at h0
 have kl:K.length<=L.length:=by
  have:=List.Nodup.length_le_of_subset (l₂:=List.range L.length) ik.nd λx hx=>Gu.2 (ik.lt hx)
  rwa [NM] at this
 refine aH (λU s hh=> ∃(i:Nat) (fs:LN),(∃g:Nat->V,s= [g 0,g 1,g 2,g 3,.ptr T0 0,g 5,.ptr Q 0,aC i,g 8,g 9,g 10,g 11,g 12,g 13,g 14,g 15,g 16,g 17,g 18,g 19,g 20,g 21,g 22])/\NwJ n G L K N Q z hh fs i 0/\fs.length<=200/\i<=fs.length/\U=201-i) 201
  ⟨0,_,aB rfl,J0,by show 1<=200;omega,iJ _,rfl⟩ ?_
 clear J0
 rintro U s hh ⟨i,fs,⟨g,rfl⟩,J,l2,hi,rfl⟩
 obtain⟨vf,gQ,ml,nb⟩:=J.ex
 obtain⟨ps,ow,al,_⟩:=ml.ex
 have a9:=aM.length al
 have W:=zP ow.sv
 rw[a9] at W
 have F:=J.fr
 by_cases c7:(i:Int)<(fs.length:Int)
 case neg=>
  have d1:=bH c7;obtain rfl:i=fs.length:=om
  obtain⟨g8,c5,b0,j1⟩:=ml.ex;have b5:=aM.length b0;have k3:=HJ J.bot
  have a2: ∀M,xJ n G L M->M∈fs:=Sv hG E ik.perm J.bot J.all λr hr k hk=>by
   obtain⟨t,ht,rfl⟩:=zF.1 hr;have:=J.cl t k (.inl ht) ht hk;rwa [List.getD,dD ht] at this
  rcases c5 with ⟨_,e⟩|⟨S,m,a3,k2,rfl,e1,_,e3,e4,_⟩
  ·have:=congrArg List.length e
   rw[mH] at this;have:g8.length*4=0:=this;omega
  have gS:=j1 _ _ _ _ rfl;have SQ:S≠Q:=λe=>nb (by rw[e];exact⟨_,_,_,rfl⟩)
  obtain⟨l,l1,l3,l4⟩:=acZ b0;have l8:l.length=fs.length:=by rw[←l3,jV]
  have em:m=l.length:=by rw[mH] at e1;omega
  subst em;simp(disch:=omega)only[go_sem,H.aF gQ,W,d1];refine (PA n L ll hh S l a3 om (by rw[l1];exact gS) e4 λa ha=>⟨(l4 a ha).1,(l4 a ha).2.go (Fx.refl _ _) λq o z=>?_⟩).mono ?_
  ·rcases z with z|z
   ·omega
   ·exact .inr (by rw[z];exact⟨_,_,_,rfl⟩)
  rintro _ P ⟨l',j6,pm,j9,F3⟩;have k4:=F3.next;have jn:=J.nx;have k0:P.get Q=aZ [.sl S 0 l.length a3]:=by rw[F3.get Q jn λe=>SQ e.symm];exact gQ
  have Z: ∀a∈l',a.n=n/\Nm (λ_=>False) n L P a.p a.r:=λa ha=>by
   obtain⟨x,y⟩:=l4 a (pm.mem_iff.1 ha);exact⟨x,y.go (Fx.wide F3 λq (e:q=S)=> .inr (by rw[e];exact⟨_,_,_,rfl⟩)) λ_ _ h=>h.elim⟩
  have b3:l'.length=l.length:=pm.length_eq
  have j3:Bm n G L (l'.map NE.r):=by
   have pr:(l'.map NE.r).Perm fs:=by rw[←l3];exact pm.map _
   refine⟨λr=>⟨λhr=>J.all r (pr.mem_iff.1 hr),λhr=>pr.mem_iff.2 (a2 r hr)⟩,?_⟩;have nd:(l'.map NE.r).Nodup:=pr.nodup_iff.2 J.nd;refine List.pairwise_map.2 ((List.pairwise_and_iff.2 ⟨j9,List.pairwise_map.1 nd⟩).imp λ{a b} h=>?_);obtain⟨o,z⟩:=h;have o:NI b.r a.r=false:=o
   cases h3:NI a.r b.r with
   |true=>rfl
   |false=>exact absurd (abK h3 o) z
  have j4:SV P (.sl S 0 l.length a3) 4 (l'.flatMap NE.enc):=SV.all (by rw[agV (k:=4) (f:=NE.enc) (λ_=>rfl),b3]) om j6 _
  have j7:Fr z P:=⟨by have:=F.next;omega,λq hq=>by rw[F3.get q (by have:=F.next;omega) om];exact F.get q hq⟩
  simp(disch:=omega)only[go_sem,H.aF k0,show bT (.sl S 0 l.length a3)=some (aC (l.length:Int)) from rfl];refine aH (λU s h'=> ∃(j:Nat) (w:V) (ls:List (V×V)),(∃g:Nat->V,s= [g 0,g 1,g 2,g 3,g 4,g 5,g 6,g 7,g 8,w,g 10,g 11,g 12,g 13,g 14,g 15,g 16,g 17,g 18,.sl S 0 l.length a3,aC (l.length:Int),aC j,g 22])/\j<=l.length/\cY h' w 3 (Kr n ls) P.next/\aM (AV (λ_=>False) n L P) ls ((l'.map NE.r).take j)/\Fr P h'/\U=l.length-j) l.length
   ⟨0,.aE, [],aB rfl,iJ _,cY.aE _ _ _,trivial,Fr.refl _,rfl⟩ ?_
  rintro U s c0 ⟨j,w,ls,⟨g,rfl⟩,hj,c3,all,F4,rfl⟩;have j0:=aM.length all;rw[Fj,jV,Nat.min_eq_left om] at j0
  by_cases c8:(j:Int)<(l.length:Int)
  case neg=>
   have d2:=bH c8;obtain rfl:j=l.length:=om
   rw[Tn (by rw[jV];omega)] at all;simp(disch:=omega)only[go_sem,d2];exact⟨L,eL,.inl ⟨w,ls,_,rfl,j3,by rw[jV];omega,c3.sv,aM.mono (λ_ _ x=>AV.go x (Fx.of F4) λ_ _ h=>h) all⟩,F2.trans (j7.trans F4)⟩
  have d2:=oQ c8;have c4:j<l'.length:=om
  obtain⟨ij,oj,g3,rj,_⟩:=SV.rec (k:=4) (f:=NE.enc) om (λ_=>rfl) (j4.mono F4) c4;rw[b3] at g3;obtain⟨en,mj⟩:=Z _ (zG c4);have ej:(l'.map NE.r).take (j+1)=(l'.map NE.r).take j++ [l'[j].r]:=by rw[List.take_succ_eq_append_getElem (by rw[jV];exact c4),List.getElem_map]
  generalize l'[j]=a at rj en mj ej;have rj:c0.row ij (oj+j*4) 4=some [aC n,a.p.1,a.p.2.1,a.p.2.2]:=by rw[rj,←en];rfl
  obtain⟨o1,o2,o3⟩:=a.one;obtain⟨C,hC⟩:=exI c0.next;obtain⟨k5,e5,n5,g5,q5,f5⟩:=dF hC [aC 0,.aE,.aE,.aE];obtain⟨k6,e6,n6,g6,q6⟩:=pJ k5 C (Bt n a.p);obtain⟨k7,e7,k9,g7,q7,f7⟩:=dF (h:=k6) (n6.trans n5) [aC n,a.p.1,a.p.2.1]
  have h6:Fr c0 k7:=⟨om,λq hq=>by rw[q7 q om,q6 q om,q5 q om]⟩
  have l9:=F4.next;obtain⟨k8,a8,p8⟩:=((c3.fr h6).le (iJ _)).push (bytes:=56) (SV.all (sz:=3) (len:=1) (vs:= [aC n,a.p.1,a.p.2.1]) rfl om g7 (.kn 1)) (n:=ls.length) (m:=1) (lC n ls) rfl om om om;have n8:=p8.next;have k1: ∀{hh:H} {id:Nat} {a b c d:V},hh.get id=aZ [a,b,c,d]->hh.row id 0 3=some [a,b,c]:=λhg=>by simp [H.row,hg,sub]
  simp(disch:=omega)only[go_sem,d2,g3.ixa,rj,hC,e5,kL k5 C 0 (a:= aC n) (b:=a.p.1) (c:=a.p.2.1) (d:=a.p.2.2) rfl o1 o2 o3,g5,jS,e6,k1 g6,Vj k6 (d:=(n:Int)) o1 o2,n6,n5,e7,a8];rw[eJ j];refine⟨l.length-(j+1),om,j+1,_,ls++ [(a.p.1,a.p.2.1)],aB rfl,om,by rw[Tt];exact p8.own (b:=P.next) (lC n ls) rfl om,by rw[ej];exact aM.append all ⟨mj.ch,trivial⟩,⟨om,λq hq=>?_⟩,rfl⟩;rw[p8.old q om λid a5 m c e e2=>by have:=(c3.in _ _ _ _ e).2.1;omega,h6.get q om];exact F4.get q hq
 have d1:=oQ c7
 have i7:i<fs.length:=om
 simp(disch:=omega)only[go_sem,H.aF gQ,W,d1,H.aF (i8 hh F),h0]
 refine aH (λU s h'=> ∃(j:Nat) (c1:LN),(∃g:Nat->V,s= [g 0,g 1,g 2,g 3,.ptr T0 0,g 5,.ptr Q 0,aC i,g 8,g 9,g 10,g 11,g 12,lr,aC (K.length:Int),aC j,g 16,g 17,g 18,g 19,g 20,g 21,g 22])/\j<=K.length/\NwJ n G L K N Q z h' c1 i j/\i<c1.length/\c1.length<=200/\U=K.length-j) K.length
  ⟨0,fs,aB rfl,iJ _,J,i7,l2,rfl⟩ ?_
 rintro U s h7 ⟨j,Y,⟨g,rfl⟩,l7,B,a0,f6,rfl⟩
 clear J al ow ml gQ a9 W
 obtain⟨vf,gQ,ml,nb⟩:=B.ex
 obtain⟨ps,ow,al,_⟩:=ml.ex
 have a9:=aM.length al
 have F7:=B.fr
 by_cases d6:(j:Int)<(K.length:Int)
 case neg=>
  have d2:=bH d6;obtain rfl:j=K.length:=om
  simp(disch:=omega)only[go_sem,d2];rw[eJ i];refine⟨201-(i+1),om,i+1,Y,aB rfl,⟨B.ex,B.fr,B.nx,B.bn,B.nd,B.all,B.bot,?_,λt k o z h3=>B.cl t k (o.elim (λh=>?_) λh=>?_) z h3⟩,f6,om,rfl⟩
  ·by_cases e:i+1<Y.length
   ·exact .inl e
   ·exact .inr ⟨om,rfl⟩
  ·by_cases e:t=i
   ·exact .inr ⟨e,by rw[List.take_length];exact h3⟩
   ·exact .inl om
  ·cases h.2
 have d2:=oQ d6
 have a4:j<K.length:=om
 obtain⟨ia,a5,ws,sh,g0,j8,hc,f0⟩:=e8.open
 simp only[jV] at sh g0 j8 hc
 have ci:h7.cell ia (a5+j)=some (ws.getD j .undef):=by rw[F7.cell (g0 om),hc j a4]
 have s0:=(Ml f0 (i:=j) (by rw[jV];exact a4)).mono F7
 have eK:(K.map λr=>L.getD r []).getD j []=L.getD K[j] []:=by rw[List.getD,Ol,dD a4];rfl
 rw[eK] at s0
 have d5:=zG a4
 have a6:=ik.lt d5
 have b8: ∀k,k∈K.take (j+1)->k∈K.take j∨k=K[j]:=λk hk=>by
  rw[List.take_succ_eq_append_getElem a4] at hk;exact (pH.1 hk).imp id List.mem_singleton.1
 generalize ws.getD j .undef=vx at ci s0
 generalize K[j]=k at s0 d5 a6 b8
 have g2:i<ps.length:=om
 obtain⟨is,os,d8,d9,i4⟩:=Lu ow.sv g2
 have mi:=aM.get al i g2 om
 have er:Y.getD i []=Y[i]:=by rw[List.getD,dD a0];rfl
 have kr:=B.all _ (zG a0)
 have b1:=B.cl
 generalize Y[i]=r at mi er kr
 have W:=zP ow.sv
 rw[a9] at W
 simp(disch:=omega)only[go_sem,d2,sh.ixa,ci,H.aF gQ,d8.ixa,d9]
 refine (GQ T0 ps[i] vx n O R G L K r k h7 (zC.mono F7) mi a6 s0).mono ?_
 rintro _ h8 ⟨rfl,f8⟩
 have F8:=F7.trans f8
 have a7:h8.get Q=aZ [vf]:=by rw[f8.get Q B.nx];exact gQ
 have n8:=f8.next
 have jn:=B.nx
 have jb:=B.bn
 by_cases b9:k∈r
 ·have d3:=oQ b9
  have d4:decide ((200:Int)<(Y.length:Int))=false:=bH om
  simp(disch:=omega)only[go_sem,d3,Bool.not_true,H.aF a7,W,d4]
  rw[eJ j]
  refine⟨K.length-(j+1),om,j+1,Y,aB rfl,om,⟨⟨vf,a7,ml.mono f8,nb⟩,F8,om,om,B.nd,B.all,B.bot,.inl a0,λt U o z h3=>?_⟩,a0,f6,rfl⟩
  rcases o with o|⟨o,h4⟩
  ·exact b1 t U (.inl o) z h3
  ·rcases b8 U h4 with h4|rfl
   ·exact b1 t U (.inr ⟨o,h4⟩) z h3
   ·rw[o,er];exact .inl b9
 have d3:=bH b9
 have d0:h8.row is (os+i*4) 4=some [aC n,ps[i].1,ps[i].2.1,ps[i].2.2]:=by rw[DL f8 i4];exact d9
 simp(disch:=omega)only[go_sem,d3,Bool.not_false,H.aF a7,d8.ixa,d0]
 refine (Xn T0 ps[i] vx n O R G L K r k h8 (zC.mono F8) (mi.mono f8) a6 (s0.mono f8)).mono ?_
 rintro _ h9 ⟨q,rfl,nq,f9⟩
 have F9:=F8.trans f9
 have n9:=f9.next
 have j2:h9.get Q=aZ [vf]:=by rw[f9.get Q om];exact a7
 have d7: ∀q',dO vf q'->q'<h7.next/\N<=q':=λq' ⟨a5,m,c,e⟩=>by have:=ow.in _ _ _ _ e;omega
 have i6:Nm (λq=>q=Q∨dO vf q) n L h9 q (yR n G L r k):=nq.go (Fx.refl _ _) λq' _ h=>by
  rcases h with h|h
  ·show q'<h8.next
   omega
  ·have:=d7 q' h
   show q'<h8.next;omega
 simp(disch:=omega)only[go_sem]
 refine (FQ n L N Q vf Y q _ h9 ((ml.mono f8).mono f9) om i6 j2 om nb rfl ll om).mono ?_
 rintro _ i0 ⟨rfl,i9,b6,i2,b2,i3⟩
 have m0:=b2.next
 obtain⟨g8,c5,b0,_⟩:=i2.ex
 have b5:=aM.length b0
 have a1:=zP c5.sv
 rw[b5] at a1
 have ln:=TG Y (yR n G L r k)
 have l6:z.next<=N:=om
 have c9:Fr z i0:=⟨by have:=F9.next;omega,λq' hq=>by
  rw[b2.get q' (by have:=F9.next;omega) λh=>h.elim (λe=>om) λh=>by have:=d7 q' h;omega]
  exact F9.get q' hq⟩
 have Z: ∀r'∈tF Y (yR n G L r k),xJ n G L r':=λr' hr=>(wF.1 hr).elim (B.all r') λe=>by rw[e];exact akE hG E kr a6
 have e0:NwJ n G L K N Q z i0 (tF Y (yR n G L r k)) i (j+1):=by
  refine⟨⟨i9,b6,i2,λh=>(i3 Q h).elim nb λh=>om⟩,c9,om,om,apP B.nd,Z,wF.2 (.inl B.bot),.inl om,λt U o z h3=>?_⟩
  by_cases ht:t<Y.length
  ·rw[LQ ht]
   rcases o with o|⟨o,h4⟩
   ·exact (b1 t U (.inl o) ht h3).imp id λh=>wF.2 (.inl h)
   ·rcases b8 U h4 with h4|rfl
    ·exact (b1 t U (.inr ⟨o,h4⟩) ht h3).imp id λh=>wF.2 (.inl h)
    ·rw[o,er];exact .inr (wF.2 (.inr rfl))
  ·rcases o with o|⟨o,h4⟩<;>omega
 by_cases b4:(200:Int)<((tF Y (yR n G L r k)).length:Int)
 ·have d4:decide ((200:Int)<((tF Y (yR n G L r k)).length:Int))=true:=oQ b4
  simp(disch:=omega)only[go_sem,H.aF b6,a1,d4]
  exact⟨L,eL,.inr ⟨rfl,_,e0.nd,Z,om⟩,F2.trans c9⟩
 ·have d4:decide ((200:Int)<((tF Y (yR n G L r k)).length:Int))=false:=bH b4
  simp(disch:=omega)only[go_sem,H.aF b6,a1,d4]
  rw[eJ j]
  exact⟨K.length-(j+1),om,j+1,_,aB rfl,om,e0,om,om,rfl⟩
section
variable {n:Nat} {G:List Nat->Prop} {L:List (List Nat)} {K r:List Nat} {a b:List Nat} {fd:List (List Nat)}
theorem Rk.ne (g:iX n (RG L a)):0<a.length:=by
 obtain⟨j,c,_⟩:=g.one;exact HJ c
theorem Ky.uniq {rs f:List (List Nat)}(x:Ky n G L K rs)(y:Ky n G L K f):rs=f:=by
 obtain⟨r,c,t⟩:=x.ex;obtain⟨s,d,u⟩:=y.ex
 have j: ∀(k:Nat) (a b:List Nat),rs[k]? =some a->f[k]? =some b->a=b:=by
  intro k
  induction k with
  |zero=>
   intro a b o m;rw[c.hd] at o;rw[d.hd] at m;cases o;cases m;rfl
  |succ k ih=>
   intro a b o m;have F:=(Ax.1 o).1;have w:=(Ax.1 m).1;have q:=dD (l:=rs) (i:=k) om;have p:=dD (l:=f) (i:=k) om;have e:=ih _ _ q p;rw[(c.st k _ _ q o).2,(d.st k _ _ p m).2,e]
 have len: ∀{rs f:List (List Nat)} {r s:List Nat},Ql n G L K rs r->Ql n G L K f s->r.length=L.length->(∀(k:Nat) (a b:List Nat),rs[k]? =some a->f[k]? =some b->a=b)->f.length<=rs.length:=by
  intro rs f r s c d t j;refine Nat.le_of_not_lt λh=>?_
  have z:=(Ax.1 c.hd).1;have p:=dD (l:=f) (i:=rs.length- 1) om;have v:=dD (l:=f) (i:=rs.length- 1+1) om;have:=(d.st _ _ _ p v).1;rw[←j _ _ _ c.la p] at this;omega
 have B:=len c d t j;have A:=len d c u λk a b o m=>(j k b a m o).symm
 refine List.ext_getElem om λk o m=>j k _ _ (dD o) (dD m)
end
structure BsJ (n:Nat)(D:Nat)(lf:List (V×V))(fd ls:List (List Nat))(vb:V)(hh:H):Prop where
 cl: ∃a b c,hh.get D=some (.cells false [a,b,c])
 ex:(ls= []/\vb= .aE)∨(ls≠ []/\ ∃j,∃hj:j<lf.length,fd.getD j []=NH ls/\SI hh vb (zi (NH ls))/\(∃id off m c,vb= .sl id off m c/\id≠D)/\hh.get D=some (.cells false [.int .i64 (n:Int),lf[j].1,lf[j].2]))
theorem BsJ.mono {n D:Nat}{k:List (V×V)}{i ls:List (List Nat)}{h:V}{a h':H}(b:BsJ n D k i ls h a)(f:Fr a h')(d:D<a.next):BsJ n D k i ls h h':=by
 obtain⟨⟨x,y,z,c⟩,e⟩:=b;refine⟨⟨x,y,z,by rw[f.get D d];exact c⟩,e.imp id λ⟨l,j,hj,h2,h3,h4,h5⟩=>⟨l,j,hj,h2,h3.mono f,h4,by rw[f.get D d];exact h5⟩⟩
set_option maxRecDepth 100000
set_option maxRecDepth 100000
structure FcP (hh:H)(v6 v7:V)(fl:List (Nat×List Nat)):Prop where
 a:cY hh v6 1 (fl.map λx=> .str x.2) 0
 b:cY hh v7 1 (fl.map λx=> .int .i64 (x.1:Int)) 0
theorem FcP.mono {h h':H}{i c:V}{d:List (Nat×List Nat)}(p:FcP h i c d)(f:Fr h h'):FcP h' i c d:=⟨p.a.fr f,p.b.fr f⟩
def akH (p:Nat):Prop:=1<p/\ ∀d,d∣p->d=1∨d=p
theorem ajV {Q:Nat->Prop}: ∀(k:Nat),Q k-> ∃d,Q d/\ ∀e,e<d-> ¬Q e:=by
 intro k
 induction k using Nat.strongRecOn with
 |_ k ih=>
  intro c
  by_cases h: ∃e,e<k/\Q e
  ·obtain⟨e,i,b⟩:=h
   exact ih e i b
  ·exact⟨k,c,λe f a=>h ⟨e,f,a⟩⟩
theorem alN {d:Nat}(h:1<d): ∃p,akH p/\p∣d:=by
 obtain⟨p,⟨l,b⟩,i⟩:=ajV (Q:=λp=>1<p/\p∣d) d ⟨h,Nat.dvd_refl _⟩;refine⟨p,⟨l,λc a=>?_⟩,b⟩
 by_cases f:c=1
 ·exact .inl f
 ·have m:0<c:=Nat.pos_of_dvd_of_pos a om
  have:=i c;have j:=Nat.le_of_dvd om a;refine .inr (Nat.le_antisymm j (Nat.le_of_not_lt λk=>this k ⟨om,Nat.dvd_trans a b⟩))
theorem akH.pow {r p:Nat}(a:akH r): ∀k,r∣p^k->r∣p
 |0,h=>by
  have:=Nat.le_of_dvd (by simp) h;have:=a.1;simp at*;omega
 |k+1,h=>by
  rw[Nat.pow_succ] at h;rcases a.2 (Nat.gcd r p) (Nat.gcd_dvd_left r p) with e|e
  ·exact a.pow k (Nat.Coprime.dvd_of_dvd_mul_right e h)
  ·rw[←e];exact Nat.gcd_dvd_right r p
theorem aoN {q p:Nat}(a:p∣q): ∀f c,0<c->c<=p->p<=c+f->(∀d,c<=d->d<p-> ¬d∣q)->LY f q c=p
 |0,c,_,h1,h2,_=>by
  show c=p;omega
 |f+1,c,c0,h1,h2,h3=>by
  show (if q%c=0 then c else LY f q (c+1))=p
  by_cases e:c=p
  ·rw[bF (by rw[e];exact Nat.mod_eq_zero_of_dvd a),e]
  ·rw[bI λh=>h3 c (fM _) om (Nat.dvd_of_mod_eq_zero h)]
   exact aoN a f (c+1) om om om λd b=>h3 d om
section
variable {n:Nat} {G K M H:List Nat->Prop} {LK LM LH:List (List Nat)} {x y z:List Nat} {p:Nat}
theorem aoL (a:iX n H)(X:bE n x): ∃d,0<d/\ ∀e,H (pw n x e)↔d∣e:=by
 obtain⟨k,m,_,j⟩:=Wi X;obtain⟨d,⟨h,q⟩,o⟩:=ajV (Q:=λd=>0<d/\H (pw n x d)) k ⟨m,by rw[j];exact a.one⟩
 have mul: ∀c,H (pw n x (d*c)):=λc=>by
  induction c with
  |zero=>exact a.one
  |succ c ih=>rw[Nat.mul_succ,RW X];exact a.mul ih q
 refine⟨d,h,λe=>⟨λr=>?_,λ⟨c,hc⟩=>by rw[hc];exact mul c⟩⟩
 have s:H (pw n x (e%d)):=by
  have f:d*(e/d)+e%d=e:=Nat.div_add_mod e d
  have i:aX (dA (pw n x (d*(e/d)))) (pw n x e)=pw n x (e%d):=by
   conv=>lhs;rw[←f]
   have b:=rM X (d*(e/d));rw[f];have:pw n x e=aX (pw n x (d*(e/d))) (pw n x (e%d)):=by rw[←RW X,f]
   rw[this,←aV b.inv b (rM X _),iE b,mN (rM X _)]
  rw[←i];exact a.mul (a.inv (mul _)) r
 have lt:=Nat.mod_lt e h
 by_cases l:e%d=0
 ·exact Nat.dvd_of_mod_eq_zero l
 ·exact absurd ⟨om,s⟩ (o _ lt)
theorem ajE (X:bE n x)(Y:bE n y):aX x y=aX (aX y x) (jE x y):=by
 unfold jE;have b:=X.mul Y;have a:=Y.mul X;rw[←aV a (X.inv.mul Y.inv) b,←aV a X.inv Y.inv,aV Y X X.inv,fC X,bZ Y,fC Y,mN b]
theorem amD (d:iX n M)(b:iX n K)(le: ∀x,K x->M x)(o: ∀x y,M x->M y->K (jE x y))(r:M x)(i:M y): ∀j,∃k,K k/\pw n (aX x y) j=aX (aX (pw n x j) (pw n y j)) k
 |0=>⟨bL n,b.one,by
  show bL n=aX (aX (bL n) (bL n)) (bL n)
  rw[bZ (bE.one n),bZ (bE.one n)]⟩
 |j+1=>by
  obtain⟨k,m,e⟩:=amD d b le o r i j;have X:=d.cU r;have Y:=d.cU i;have t:=b.cU m;have f:=rM X j;have a:=rM Y j;have l:M (pw n y j):=Ri d i j;have U:M (aX (pw n y j) k):=d.mul l (le k m);have v:=o _ _ U r;have w:=b.cU v;have q:=b.mul m v;have c:=b.cU q;have u:=o _ _ (le _ q) i;have s:=b.cU u;refine⟨aX (aX k (jE (aX (pw n y j) k) x)) (jE (aX k (jE (aX (pw n y j) k) x)) y),b.mul q u,?_⟩;show aX (pw n (aX x y) j) (aX x y)=aX (aX (aX (pw n x j) x) (aX (pw n y j) y)) _;rw[e];have h:=d.cU U;rw[aV f a t,←aV (f.mul h) X Y,aV f h X,ajE h X];rw[aV X h w,aV a t w];rw[←aV f X (a.mul c),aV (f.mul X) (a.mul c) Y,aV a c Y,ajE c Y];rw[←aV a (Y.mul c) s,←aV a Y c,aV (a.mul Y) c s,←aV (f.mul X) (a.mul Y) (c.mul s)]
open Classical in
theorem anT (hp:akH p)(v:iX n M)(c:iX n H)(Q:dW H LH)(EM:dW M LM)(le: ∀x,H x->M x)(cm: ∀x y,M x->M y->H (jE x y))(hx:M x)(nx: ¬H x)(a0:H (pw n x p)):
  ∃H' LH',iX n H'/\dW H' LH'/\(∀z,H z->H' z)/\(∀z,H' z->M z)/\LH'.length=p*LH.length:=by
 have X:=v.cU hx
 obtain⟨d,d0,W⟩:=aoL c X
 have dp:d=p:=(hp.2 d ((W p).1 a0)).resolve_left λe=>nx (by
  have:=(W 1).2 (by rw[e];exact Nat.dvd_refl _)
  rwa [ajJ X] at this)
 subst dp
 have gP: ∀g,(H g∨g=x)->bE n g:=λg h=>h.elim (λh=>c.cU h) λe=>by rw[e];exact X
 have cj: ∀y g,H y->M g->H (cW y g):=λy g t r=>by
  have:=cm y g (le y t) r;rw[xX (c.cU t) (v.cU r)] at this;have s:=c.mul t this;rwa [←aV (c.cU t) (c.cU t).inv (qG (c.cU t) (v.cU r)),fC (c.cU t),mN (qG (c.cU t) (v.cU r))] at s
 obtain⟨H',m⟩: ∃H',bX n (λg=>H g∨g=x)=H':=⟨_,rfl⟩
 have o:iX n H':=by rw[←m];exact bX.dN gP
 have J: ∀z,H' z->M z:=λz f=>by rw[←m] at f;exact bX.le v (λg h=>h.elim (le g) λe=>by rw[e];exact hx) f
 have R: ∀z,H' z-> ∃h i,H h/\z=aX h (pw n x i):=λz f=>by
  rw[←m] at f
  induction f with
  |one=>exact⟨bL n,0,c.one,(bZ (bE.one n)).symm⟩
  | @mul z g _ r N=>
   obtain⟨h,i,l,e⟩:=N;have u:=c.cU l;have P:=rM X i;rcases r with r|rfl
   ·have Gg:=c.cU r
    have mP:M (pw n x i):=Ri v hx i;have w:=cj g _ r (v.inv mP);refine⟨aX h (cW g (dA (pw n x i))),i,c.mul l w,?_⟩;rw[e];unfold cW;have e2:=inv_inv P;rw[e2];have Y:=P.mul Gg;rw[aV u (Y.mul P.inv) P,aV Y P.inv P,iE P,bZ Y,aV u P Gg]
   ·exact⟨h,i+1,l,by rw[e,aV u P X];rfl⟩
 obtain⟨LH',a3⟩: ∃L,LM.filter (λz=>decide (H' z))=L:=⟨_,rfl⟩
 have U:dW H' LH':=by
  rw[←a3];exact⟨EM.asc.filter _,λz=>by rw[CH,EM.mem,Qf];exact⟨λh=>h.2,λh=>⟨J z h,h⟩⟩⟩
 have O: ∀z,H z->H' z:=λz f=>by rw[←m];exact bX.of gP (.inl f)
 have a5: ∀i,H' (pw n x i):=λi=>Ri o (by rw[←m];exact bX.of gP (.inr rfl)) i
 obtain⟨k,q⟩: ∃k:Nat->List Nat->Prop,(λi z=>H (aX z (dA (pw n x i))))=k:=⟨_,rfl⟩
 have a2: ∀z i j,H' z->k i z->k j z->i<=j->d∣j-i:=λz i j f h1 s a6=>by
  rw[←q] at h1 s;have Z:=o.cU f;have F:=rM X i;have Pj:=rM X j;refine (W _).1 ?_;have h3:=c.mul (c.inv s) h1
  have e:aX (dA (aX z (dA (pw n x j)))) (aX z (dA (pw n x i)))=pw n x (j-i):=by
   have e2:=inv_inv Pj;rw[Nr Z Pj.inv,e2,aV Pj Z.inv (Z.mul F.inv),←aV Z.inv Z F.inv,iE Z,mN F.inv];have:pw n x j=aX (pw n x (j-i)) (pw n x i):=by rw[←RW X];congr 1;omega
   rw[this,aV (rM X _) F F.inv,fC F,bZ (rM X _)]
  rwa [e] at h3
 have a4: ∀j,j<=d->(LH'.filter λz=>decide (∃i,i<j/\k i z)).length=j*LH.length:=by
  intro j
  induction j with
  |zero=>
   intro _;rw[Nat.zero_mul];exact List.length_eq_zero_iff.2 (List.filter_eq_nil_iff.2 λz _=>by simp)
  |succ j N=>
   intro hj;have N:=N om;rw[ajG (λz=>decide (∃i,i<j/\k i z)) (LH'.filter λz=>decide (∃i,i<j+1/\k i z)),Nat.succ_mul]
   have a1:(LH'.filter λz=>decide (∃i,i<j+1/\k i z)).filter (λz=>decide (∃i,i<j/\k i z))=LH'.filter λz=>decide (∃i,i<j/\k i z):=by
    rw[List.filter_filter];refine List.filter_congr λz _=>?_
    by_cases h: ∃i,i<j/\k i z
    ·have s: ∃i,i<j+1/\k i z:=by obtain⟨i,h1,s⟩:=h;exact⟨i,om,s⟩
     simp [h,s]
    ·simp [h]
   rw[a1,N];congr 1;have P:=rM X j
   have p:((LH'.filter λz=>decide (∃i,i<j+1/\k i z)).filter λz=>!decide (∃i,i<j/\k i z)).Perm (LH.map λh=>aX h (pw n x j)):=by
    refine (List.perm_ext_iff_of_nodup ((U.nodup.filter _).filter _) ?_).2 λz=>?_
    ·rw[nPN,List.pairwise_map]
     refine (nPN.1 Q.nodup).imp_of_mem λ{a b} ha hb ne e=>ne ?_
     have A:=c.cU ((Q.mem a).1 ha);have B:=c.cU ((Q.mem b).1 hb);have:=congrArg (λz=>aX z (dA (pw n x j))) e;rwa [aV A P P.inv,aV B P P.inv,fC P,bZ A,bZ B] at this
    ·rw[CH,CH,uF,U.mem,Qf,Bool.not_eq_true',decide_eq_false_iff_not]
     constructor
     ·rintro⟨⟨f,i,hi,w⟩,hn⟩
      have:i=j:=Nat.le_antisymm om (Nat.le_of_not_lt λh=>hn ⟨i,h,w⟩);subst this;rw[←q] at w;have Z:=o.cU f;exact⟨_,(Q.mem _).2 w,by rw[aV Z P.inv P,iE P,bZ Z]⟩
     ·rintro⟨h,l,rfl⟩
      have l:=(Q.mem h).1 l;have u:=c.cU l;have f:H' (aX h (pw n x j)):=o.mul (O h l) (a5 j)
      have cj:k j (aX h (pw n x j)):=by
       rw[←q];show H (aX (aX h (pw n x j)) (dA (pw n x j)));rw[aV u P P.inv,fC P,bZ u];exact l
      refine⟨⟨f,j,om,cj⟩,λ⟨i,hi,w⟩=>?_⟩;have:=Nat.le_of_dvd om (a2 _ i j f w cj om);omega
   rw[p.length_eq,jV]
 refine⟨H',LH',o,U,O,J,?_⟩
 rw[←a4 d (fM _)]
 congr 1
 refine (List.filter_eq_self.2 λz f=>?_).symm
 refine decide_eq_true ?_
 obtain⟨h,i,l,e⟩:=R z ((U.mem z).1 f)
 have u:=c.cU l
 have P:=rM X (i%d)
 refine⟨i%d,Nat.mod_lt _ d0,?_⟩
 rw[←q,e]
 show H (aX (aX h (pw n x i)) (dA (pw n x (i%d))))
 have:pw n x i=aX (pw n x (d*(i/d))) (pw n x (i%d)):=by rw[←RW X,Nat.div_add_mod]
 have P':=rM X (d*(i/d))
 rw[this,aV u (P'.mul P) P.inv,aV P' P P.inv,fC P,bZ P']
 exact c.mul l ((W _).2 ⟨_,rfl⟩)
theorem aqR (t:akH p)(w:iX n M)(f:dW M LM)(m: ∀x,M x->K (pw n x p))(J: ∀x y,M x->M y->K (jE x y)): ∀(d:Nat) (H:List Nat->Prop) (LH:List (List Nat)),LM.length-LH.length<=d->iX n H->dW H LH->(∀x,K x->H x)->(∀x,H x->M x)-> ∃k,LM.length=LH.length*p^k:=by
 intro d
 induction d with
 |zero=>
  intro H LH L r a i le;have l:=List.Nodup.length_le_of_subset a.nodup λz c=>(f.mem z).2 (le z ((a.mem z).1 c))
  exact⟨0,by simp;omega⟩
 |succ d ih=>
  intro H LH L r a i le
  by_cases all: ∀x,M x->H x
  ·have O:=List.Nodup.length_le_of_subset a.nodup λz c=>(f.mem z).2 (le z ((a.mem z).1 c))
   have N:=List.Nodup.length_le_of_subset f.nodup λz c=>(a.mem z).2 (all z ((f.mem z).1 c))
   exact⟨0,by simp;omega⟩
  ·obtain⟨x,b⟩:=Classical.not_forall.1 all
   obtain⟨b,nx⟩:=Classical.not_imp.1 b;obtain⟨F,o,q,v,s,j,el⟩:=anT t w r a f le (λx y b B=>i _ (J x y b B)) b nx (i _ (m x b));have pos:0<LH.length:=HJ ((a.mem _).2 r.one);have A:=t.1;have EB:2*LH.length<=p*LH.length:=Nat.mul_le_mul_right _ A;obtain⟨k,u⟩:=ih F o om q v (λx h=>s x (i x h)) j;exact⟨k+1,by rw[u,el,Nat.pow_succ,Nat.mul_comm p,Nat.mul_assoc,Nat.mul_comm p]⟩
end
section
variable {n:Nat} {G K M P:List Nat->Prop} {L LK LM LP:List (List Nat)}
open Classical in
theorem aoJ (a:dW M LM)(le: ∀x,P x->M x):dW P (LM.filter λz=>decide (P z)):=
 ⟨a.asc.filter _,λz=>by rw[CH,a.mem,Qf];exact⟨λh=>h.2,λh=>⟨le z h,h⟩⟩⟩
theorem aoG (c:dW M LM)(a:dW P LP)(le: ∀x,P x->M x){x:List Nat}(d:M x)(nx: ¬P x):LP.length<LM.length:=by
 have nd:(x::LP).Nodup:=List.nodup_cons.2 ⟨λh=>nx ((a.mem x).1 h),a.nodup⟩
 have:=List.Nodup.length_le_of_subset nd (l₂:=LM) λy b=>by
  rcases zH.1 b with rfl|b
  ·exact (c.mem _).2 d
  ·exact (c.mem y).2 (le y ((a.mem y).1 b))
 rw[List.length_cons] at this;omega
def lH (P K:List Nat->Prop)(m:List Nat):Prop:= ∃x k,P x/\K k/\m=aX x k
theorem lH.dN (s:iX n M)(f:iX n P)(i:iX n K)(r: ∀x,P x->M x)(q: ∀y g,K y->M g->K (cW y g)):iX n (lH P K):=by
 refine⟨λ⟨x,k,d,h,e⟩=>by rw[e];exact (f.cU d).mul (i.cU h),⟨_,_,f.one,i.one,(bZ (bE.one n)).symm⟩,?_,?_⟩
 ·rintro a b ⟨x,k,d,h,rfl⟩ ⟨y,j,l,p,rfl⟩
  have X:=f.cU d;have Y:=f.cU l;have c:=i.cU h;have J:=i.cU p;have o:=q k y h (r y l);refine⟨aX x y,aX (cW k y) j,f.mul d l,i.mul o p,?_⟩;unfold cW;have m:=Y.inv.mul c;rw[aV X c (Y.mul J),←aV c Y J,aV X Y (((m).mul Y).mul J),←aV Y (m.mul Y) J,←aV Y m Y,←aV Y Y.inv c,fC Y,mN c]
 ·rintro a ⟨x,k,d,h,rfl⟩
  have X:=f.cU d;have c:=i.cU h;have o:=q _ _ (i.inv h) (s.inv (r x d));refine⟨dA x,cW (dA k) (dA x),f.inv d,o,?_⟩;unfold cW;rw[inv_inv X,Nr X c];have t:=X.mul c.inv;rw[←aV X.inv t X.inv,←aV X.inv X c.inv,iE X,mN c.inv]
theorem ajY {N:List Nat->Prop}(f:iX n M)(m:iX n N)(w: ∀x,N x->M x)(d:iX n K)(c: ∀x,K x->M x)(r: ∀y g,K y->M g->K (cW y g))(b: ∀x,K x->N x)(l: ∀y g,N y->M g->N (cW y g)){x y k j:List Nat}(s:M x)(q:M y)(a:K k)(o:K j)(h:N (jE x y)):N (jE (aX x k) (aX y j)):=by
 have X:=f.cU s;have Y:=f.cU q;have t:=d.cU a;have J:=d.cU o
 have v: ∀k z,K k->M z->N (jE k z):=λk z a i=>by
  rw[xX (d.cU a) (f.cU i)];exact m.mul (m.inv (b k a)) (b _ (r k z a i))
 have p: ∀z k,M z->K k->N (jE z k):=λz k i a=>by
  rw[zK (f.cU i) (d.cU a)];exact m.mul (b _ (r _ _ (d.inv a) i)) (b k a)
 have u:=Y.mul J;rw[Qm X t u];refine m.mul (l _ _ ?_ (c k a)) (v k _ a (f.mul q (c j o)));rw[Mo X Y J];exact m.mul (p x j s o) (l _ _ h (c j o))
theorem aoU (F:iX n M)(EM:dW M LM)(l:iX n K)(t: ∀x,K x->M x)(Y: ∀y g,K y->M g->K (cW y g))
  (pf: ∀N:List Nat->Prop,iX n N->(∀x,K x->N x)->(∀x,N x->M x)->(∀x y,M x->M y->N (jE x y))-> ∀x,M x->N x): ∀(d:Nat) (P:List Nat->Prop) (LP:List (List Nat)),LP.length<=d->iX n P->dW P LP->(∀x,P x->M x)->(∀m,M m->lH P K m)-> ∃P',iX n P'/\(∀x,P' x->M x)/\(∀m,M m->lH P' K m)/\EA n P':=by
 intro d
 induction d with
 |zero=>
  intro P LP hd c B;have:=HJ ((B.mem _).2 c.one);omega
 |succ d ih=>
  intro P LP hd c B o sp
  by_cases p:EA n P
  ·exact⟨P,c,o,sp,p⟩
  ·obtain⟨N,h⟩:=Classical.not_forall.1 p
   obtain⟨R,h⟩:=Classical.not_imp.1 h;obtain⟨hc,h⟩:=Classical.not_imp.1 h;obtain⟨x,h⟩:=Classical.not_forall.1 h;obtain⟨hx,nx⟩:=Classical.not_imp.1 h
   have W:iX n (λz=>P z/\N z):=⟨λh=>c.cU h.1,⟨c.one,R.one⟩,λa b=>⟨c.mul a.1 b.1,R.mul a.2 b.2⟩,λa=>⟨c.inv a.1,R.inv a.2⟩⟩
   have EQ:=aoJ (P:=λz=>P z/\N z) B λz h=>h.1
   have ll:=aoG B EQ (λz h=>h.1) hx λh=>nx h.2
   have j:=lH.dN F W l (λz h=>o z h.1) Y
   have A: ∀k,K k->lH (λz=>P z/\N z) K k:=λk f=>⟨bL n,k,W.one,f,(mN (l.cU f)).symm⟩
   have v: ∀a b,P a->P b->lH (λz=>P z/\N z) K (jE a b):=λa b i r=>⟨jE a b,bL n,⟨by
    unfold jE
    exact c.mul (c.mul (c.inv i) (c.inv r)) (c.mul i r),hc a b i r⟩,l.one,(bZ (Rh (c.cU i) (c.cU r))).symm⟩
   have Z: ∀y g,lH (λz=>P z/\N z) K y->P g->lH (λz=>P z/\N z) K (cW y g):=λy g ⟨q,k,hq,f,e⟩ s=>by
    rw[e,Ef (c.cU hq.1) (l.cU f) (c.cU s)];refine j.mul ?_ (A _ (Y k g f (o g s)));have Q:=c.cU hq.1;have O:=c.cU s
    have e2:cW q g=aX q (jE q g):=by
     rw[xX Q O,←aV Q Q.inv (qG Q O),fC Q,mN (qG Q O)]
    rw[e2];exact j.mul ⟨q,bL n,hq,l.one,(bZ Q).symm⟩ (v q g hq.1 s)
   have U: ∀y g,lH (λz=>P z/\N z) K y->M g->lH (λz=>P z/\N z) K (cW y g):=λy g hy s=>by
    obtain⟨a,k,i,f,rfl⟩:=sp g s;rw[nX (j.cU hy) (c.cU i) (l.cU f)];have h1:=Z y a hy i;have k':=A k f;exact j.mul (j.mul (j.inv k') h1) k'
   have lS: ∀x,lH (λz=>P z/\N z) K x->M x:=λx ⟨q,k,hq,f,e⟩=>by rw[e];exact F.mul (o q hq.1) (t k f)
   have all:=pf (lH (λz=>P z/\N z) K) j A lS λa b i r=>by
    obtain⟨p1,k1,u,a0,rfl⟩:=sp a i;obtain⟨p2,k2,w,J,rfl⟩:=sp b r;exact ajY F j lS l t Y A U (o p1 u) (o p2 w) a0 J (v p1 p2 u w)
   exact ih _ _ om W EQ (λz h=>o z h.1) all
structure Chf (n:Nat)(G K M:List Nat->Prop):Prop where
 gG:iX n G
 gK:iX n K
 gM:iX n M
 le: ∀x,K x->M x
 lG: ∀x,M x->G x
 nK: ∀y g,K y->G g->K (cW y g)
 nM: ∀y g,M y->G g->M (cW y g)
 ne: ∃x,M x/\ ¬K x
 min: ∀N:List Nat->Prop,iX n N->(∀x,K x->N x)->(∀x,N x->M x)->(∀y g,N y->G g->N (cW y g))->(∃x,N x/\ ¬K x)-> ∀x,M x->N x
theorem Chf.two (c:Chf n G K M):(∀x y,M x->M y->K (jE x y))∨ ∀N:List Nat->Prop,iX n N->(∀x,K x->N x)->(∀x,N x->M x)->(∀x y,M x->M y->N (jE x y))-> ∀x,M x->N x:=by
 by_cases h: ∀x y,M x->M y->K (jE x y)
 ·exact .inl h
 ·right
  intro N w t u v
  have b: ∀z,(K z∨ ∃p q,M p/\M q/\z=jE p q)->bE n z:=λz j=>by
   rcases j with h|⟨p,q,d,f,rfl⟩
   ·exact c.gK.cU h
   ·exact Rh (c.gM.cU d) (c.gM.cU f)
  have r:=bX.dN b
  have o: ∀x,bX n (λz=>K z∨ ∃p q,M p/\M q/\z=jE p q) x->N x:=λx a=>bX.le w (λg i=>by
   rcases i with h|⟨p,q,d,f,rfl⟩
   ·exact t g h
   ·exact v p q d f) a
  have s: ∀y g,bX n (λz=>K z∨ ∃p q,M p/\M q/\z=jE p q) y->G g->bX n (λz=>K z∨ ∃p q,M p/\M q/\z=jE p q) (cW y g):=λy g l i=>by
   have m:=c.gG.cU i
   induction l with
   |one=>rw[Ro m];exact .one
   | @mul z k j hk ih=>
    rw[Ef (j.cU b) (b k hk) m];refine r.mul ih ?_;rcases hk with h|⟨p,q,d,f,rfl⟩
    ·exact bX.of b (.inl (c.nK k g h i))
    ·rw[alO (c.gM.cU d) (c.gM.cU f) m]
     exact bX.of b (.inr ⟨_,_,c.nM p g d i,c.nM q g f i,rfl⟩)
  have:=c.min (bX n (λz=>K z∨ ∃p q,M p/\M q/\z=jE p q)) r (λx h=>bX.of b (.inl h)) (λx a=>u x (o x a)) s (by
   obtain⟨x,h⟩:=Classical.not_forall.1 h;obtain⟨y,h⟩:=Classical.not_forall.1 h;obtain⟨a,h⟩:=Classical.not_imp.1 h;obtain⟨l,h⟩:=Classical.not_imp.1 h
   exact⟨_,bX.of b (.inr ⟨x,y,a,l,rfl⟩),h⟩)
  exact λx a=>o x (this x a)
theorem Chf.comm (c:Chf n G K M)(F:dW K LK)(A:dW M LM)(J: ∀x y,M x->M y->K (jE x y)): ∃p k,akH p/\0<k/\LM.length=LK.length*p^k/\ ∃x,M x/\p∣qF x n:=by
 obtain⟨x,q,nx⟩:=c.ne;have X:=c.gM.cU q;obtain⟨d,d0,o⟩:=aoL c.gK X
 have d1:d≠1:=λe=>nx (by
  have:=(o 1).2 (by rw[e];exact Nat.dvd_refl _)
  rwa [ajJ X] at this)
 obtain⟨p,w,t,m⟩:=alN (show 1<d by omega);have Q:=w.1;have t0:0<t:=Nat.pos_of_ne_zero λe=>by rw[e,Nat.mul_zero] at m;omega
 have B:M (pw n x t):=Ri c.gM q t;have Y:=c.gM.cU B
 have W: ¬K (pw n x t):=λh=>by
  have:=Nat.le_of_dvd t0 ((o t).1 h);rw[m] at this;have:=Nat.mul_le_mul_right t Q;omega
 have O:K (pw n (pw n x t) p):=by
  rw[ajI X];exact (o _).2 (by rw[m,Nat.mul_comm];exact Nat.dvd_refl _)
 have i: ∀z,(K z∨ ∃g,G g/\z=cW (pw n x t) g)->bE n z:=λz a=>by
  rcases a with h|⟨g,b,rfl⟩
  ·exact c.gK.cU h
  ·exact qG Y (c.gG.cU b)
 have N:=bX.dN i
 have v: ∀z,bX n (λz=>K z∨ ∃g,G g/\z=cW (pw n x t) g) z->M z:=λz a=>bX.le c.gM (λz a=>by
  rcases a with h|⟨g,b,rfl⟩
  ·exact c.le z h
  ·exact c.nM _ g B b) a
 have Z: ∀z g,bX n (λz=>K z∨ ∃g,G g/\z=cW (pw n x t) g) z->G g->bX n (λz=>K z∨ ∃g,G g/\z=cW (pw n x t) g) (cW z g):=λz g a b=>by
  have s:=c.gG.cU b
  induction a with
  |one=>rw[Ro s];exact .one
  | @mul z k a f ih=>
   rw[Ef (a.cU i) (i k f) s];refine N.mul ih ?_;rcases f with h|⟨g',l,rfl⟩
   ·exact bX.of i (.inl (c.nK k g h b))
   ·rw[←nX Y (c.gG.cU l) s]
    exact bX.of i (.inr ⟨_,c.gG.mul l b,rfl⟩)
 have all:=c.min _ N (λx h=>bX.of i (.inl h)) v Z ⟨pw n x t,by
  refine bX.of i (.inr ⟨bL n,c.gG.one,(mG Y).symm⟩),W⟩
 have r: ∀z,M z->K (pw n z p):=λz a=>by
  have u:=all z a;clear a
  induction u with
  |one=>
   have: ∀j,pw n (bL n) j=bL n:=λj=>by
    induction j with
    |zero=>rfl
    |succ j ih=>
     show aX (pw n (bL n) j) (bL n)=_;rw[ih,bZ (bE.one n)]
   rw[this];exact c.gK.one
  | @mul z k a f ih=>
   have U:M k:=v k (bX.of i f);obtain⟨j,R,e⟩:=amD c.gM c.gK c.le J (v z a) U p;rw[e];refine c.gK.mul (c.gK.mul ih ?_) R;rcases f with h|⟨g,b,rfl⟩
   ·exact Ri c.gK h p
   ·rw[←amB Y (c.gG.cU b)]
    exact c.nK _ _ O b
 obtain⟨k,f⟩:=aqR w c.gM A r J _ K LK (fM _) c.gK F (λ_ h=>h) c.le;refine⟨p,k,w,Nat.pos_of_ne_zero λe=>?_,f,x,q,Nat.dvd_trans ⟨t,m⟩ ((o _).1 (by rw[(Hu X _).1 (Nat.dvd_refl _)];exact c.gK.one))⟩;rw[e,Nat.pow_zero,uW] at f;have:=aoG A F c.le q nx;omega
theorem Chf.aqQ (n0:1<=n)(n6:n<=6)(c:Chf n G K M)(t:dW K LK)(Q:dW M LM)(pf: ∀N:List Nat->Prop,iX n N->(∀x,K x->N x)->(∀x,N x->M x)->(∀x y,M x->M y->N (jE x y))-> ∀x,M x->N x):LM.length=LK.length*60∨LM.length=LK.length*360:=by
 have R: ∀y g,K y->M g->K (cW y g):=λy g W U=>c.nK y g W (c.lG g U)
 obtain⟨P,f,lP,sp,p⟩:=aoU c.gM Q c.gK c.le R pf _ M LM (fM _) c.gM Q (λ_ h=>h) λm hm=>⟨m,bL n,hm,c.gK.one,(bZ (c.gM.cU hm)).symm⟩
 have EP:=aoJ Q lP
 obtain⟨LP,i⟩: ∃LP,dW P LP:=⟨_,EP⟩
 obtain⟨x,hx,nx⟩:=c.ne;rcases akM n0 n6 f i p with h|⟨s,Y⟩
 ·exfalso
  obtain⟨q,k,hq,d,e⟩:=sp x hx;rw[h q hq,mN (c.gK.cU d)] at e;exact nx (by rw[e];exact d)
 ·have hQ:iX n (λz=>P z/\K z):=⟨λh=>f.cU h.1,⟨f.one,c.gK.one⟩,λa b=>⟨f.mul a.1 b.1,c.gK.mul a.2 b.2⟩,λa=>⟨f.inv a.1,c.gK.inv a.2⟩⟩
  rcases Y (λz=>P z/\K z) hQ (λz h=>h.1) (λy g W U=>⟨f.mul (f.mul (f.inv U) W.1) U,R y g W.2 (lP g U)⟩) with h|h
  ·have inj: ∀a b k j,P a->P b->K k->K j->aX a k=aX b j->a=b/\k=j:=λa b k j o w d O e=>by
    have A:=f.cU o;have B:=f.cU w;have r:=c.gK.cU d;have J:=c.gK.cU O
    have e1:aX (dA b) a=aX j (dA k):=by
     have:=congrArg (λz=>aX (aX (dA b) z) (dA k)) e;rwa [←aV B.inv A r,aV (B.inv.mul A) r r.inv,fC r,bZ (B.inv.mul A),←aV B.inv B J,iE B,mN J] at this
    have h1:=h (aX (dA b) a) ⟨f.mul (f.inv w) o,by rw[e1];exact c.gK.mul O (c.gK.inv d)⟩
    have ea:a=b:=by
     have:=congrArg (aX b) h1;rwa [←aV B B.inv A,fC B,mN A,bZ B] at this
    refine⟨ea,?_⟩;rw[h1] at e1;have:=congrArg (λz=>aX z k) e1;rwa [mN r,aV J r.inv r,iE r,bZ J] at this
   have pm:LM.Perm (LP.flatMap λa=>LK.map (aX a)):=by
    refine (List.perm_ext_iff_of_nodup Q.nodup ?_).2 λz=>?_
    ·have F: ∀l:List (List Nat),l.Nodup->(∀a∈l,P a)->(l.flatMap λa=>LK.map (aX a)).Nodup:=by
      intro l
      induction l with
      |nil=>exact λ_ _=>List.Pairwise.nil
      |cons a l ih=>
       intro nd s;obtain⟨na,nd⟩:=List.nodup_cons.1 nd;rw[List.flatMap_cons,List.nodup_append];refine⟨?_,ih nd λb w=>s b (Cu _ w),λu hu v hv e=>?_⟩
       ·rw[nPN,List.pairwise_map]
        exact (nPN.1 t.nodup).imp_of_mem λ{k j} d O ne e=>ne (inj a a k j (s a Ab) (s a Ab) ((t.mem k).1 d) ((t.mem j).1 O) e).2
       ·obtain⟨k,d,rfl⟩:=uF.1 hu
        obtain⟨b,w,hv⟩:=List.mem_flatMap.1 hv;obtain⟨j,O,rfl⟩:=uF.1 hv;have:=(inj a b k j (s a Ab) (s b (Cu _ w)) ((t.mem k).1 d) ((t.mem j).1 O) e).1;rw[this] at na;exact na w
     exact F LP i.nodup λa o=>(i.mem a).1 o
    ·rw[Q.mem,List.mem_flatMap]
     constructor
     ·intro Z
      obtain⟨a,k,o,d,e⟩:=sp z Z;exact⟨a,(i.mem a).2 o,uF.2 ⟨k,(t.mem k).2 d,e.symm⟩⟩
     ·rintro⟨a,o,Z⟩
      obtain⟨k,d,rfl⟩:=uF.1 Z;exact c.gM.mul (lP a ((i.mem a).1 o)) (c.le k ((t.mem k).1 d))
   have ll:LM.length=LK.length*LP.length:=by
    rw[pm.length_eq]
    have F: ∀l:List (List Nat),(l.flatMap λa=>LK.map (aX a)).length=LK.length*l.length:=λl=>by
     induction l with
     |nil=>rfl
     |cons a l ih=>rw[List.flatMap_cons,jZ,ih,jV,List.length_cons,Nat.mul_succ,Nat.add_comm]
    exact F LP
   rw[ll];exact s.imp (λe=>by rw[e]) λe=>by rw[e]
  ·exfalso
   obtain⟨q,k,hq,d,e⟩:=sp x hx;exact nx (by rw[e];exact c.gK.mul (h q hq).2 d)
theorem akX {J r:List Nat}{rs:List (List Nat)}(l:iX n G)(E:dW G L)(c:Ql n G L J rs r)(o:Cm n G L J){i:Nat}(hi:i+1<rs.length):Chf n G (RG L rs[i]) (RG L rs[i+1]):=by
 have m:=c.all _ (zG (show i<rs.length by omega));have f:=c.all _ (zG hi);obtain⟨h1,h2⟩:=c.st i _ _ (dD om) (dD hi);obtain⟨⟨j,Y,W,e⟩,_,a0,U⟩:=Fv l E m o h1;rw[←h2] at e U;have g:=Gw m (o.lt Y) W;rw[←e] at g;refine⟨l,m.dN,f.dN,λx ⟨t,d,e⟩=>⟨t,g.1 t d,e⟩,f.le,λy g v Q=>m.nm y g v Q,λy g v Q=>f.nm y g v Q,⟨_,⟨j,g.2.1,rfl⟩,λ⟨t,d,e⟩=>W (by rw[←yK E.nodup ((m.rk.mem t).1 d).1 (o.lt Y) e];exact d)⟩,?_⟩;intro N hN kN nM Z ⟨x,hx,nx⟩ z hz;have q:=f.le x (nM x hx);obtain⟨t,d,ex⟩:=zF.1 ((E.mem x).2 q);have O:L.getD t []=x:=by rw[List.getD,dD d];exact ex
 obtain⟨s,hs,hR,g',k,A⟩:=Vo l E d;have sK:s∈J:=o.perm.mem_iff.2 (kV.2 ⟨om,hR⟩);have S:=lY l E (show s<L.length by omega);rw[O] at A
 have R:N (L.getD s []):=by
  have:=Z x _ hx (l.inv k);rwa [←A,MO S (l.cU k)] at this
 have ns:s∉rs[i]:=λh=>nx (by
  rw[←A]
  exact m.nm _ _ ⟨s,h,rfl⟩ k)
 have ov: ∀u∈yR n G L rs[i] s,u∈rs[i+1]:=λu p=>by
  obtain⟨h3,B⟩:=(Bj u).1 p;have:RG L rs[i+1] (L.getD u []):=NC.le B f.dN (λa h=>h.elim (λ⟨t,d,e⟩=>⟨t,g.1 t d,e⟩) λe=>by rw[e];exact nM _ R) λa b w F=>f.nm a b w F
  exact (f.rk.mem u).2 ⟨h3,this⟩
 have e2:=U s sK ns ov;obtain⟨u,p,rfl⟩:=hz;rw[←e2] at p;obtain⟨_,B⟩:=(Bj u).1 p;exact NC.le B hN (λa h=>h.elim (kN a) λe=>by rw[e];exact R) λa b w F=>Z a b w F
end
theorem ajQ {W:Nat->Prop}(vc:V)(n:Nat)(O:LN)(R:jI)(G:List Nat->Prop)(h:H)(p:GC W h vc n O R G):
  Ev T 42 [vc] h (λv h'=>v= aC (kI O n 0:Nat)/\Fr h h'):=by
 obtain⟨K,Y,s,a1,rfl,F,oO,pO,sR,oR,aR⟩:=p.cw
 refine cV Fl rfl ?_
 have r:=(SV.cK F).2.1
 have k:=(SV.cK sR).2.1
 have d:=p.isc
 have n7:=p.n7
 have a0:=jH p
 have lO:=aM.length pO
 rw[d.lo] at lO
 obtain⟨B,P⟩:=exI h.next
 obtain⟨h1,e1,n1,Z,o1,J⟩:=dF P [aC n,K,Y]
 have t:bT K=some (aC n):=by unfold bT;rw[SV.len F (n:=n) om om];rfl
 obtain⟨L,l,z,q,cO⟩:=SV.shape F n om om
 simp(disch:=omega)only[go_sem,Fl,aD,bM h (v:= aC n) (u:=K) (w:=Y) rfl r k,P,e1]
 refine aH (λk' b x=> ∃(i a:Nat),(∃g:Nat->V,b= [g 0,.ptr B 0,g 2,aC a,aC i,g 5])/\i<=n/\a*kI O (n-i) i=kI O n 0/\x=h1/\k'=n-i) n
  ⟨0,1,aB rfl,iJ _,by rw[Nat.one_mul];rfl,rfl,rfl⟩ ?_
 rintro k' b x ⟨i,a,⟨g,rfl⟩,hi,c,rfl,rfl⟩
 by_cases o:(i:Int)<(n:Int)
 case neg=>
  have y:=bH o;obtain rfl:i=n:=om
  simp(disch:=omega)only[go_sem,H.aF Z,t,y];rw[Nat.sub_self] at c;have:kI O 0 i=1:=rfl;rw[this,uW] at c;exact⟨by rw[c],J⟩
 have y:=oQ o
 have f:i<n:=om
 have A:=aM.get pO i om (by rw[d.lo];exact f)
 rw[show O[i]'(by rw[d.lo];exact f)=O.getD i [] from rN _] at A
 have Q:x.cell L (l+i)=some (s[i]'om):=by
  rw[J.cell (q om),cO i om,dD om]
 generalize s[i]'om=vo at A Q
 have N:=(A.si.mono J).lens
 rw[aQ] at N
 have st:kI O (n-i) i=(O.getD i []).length*kI O (n-(i+1)) (i+1):=by
  rw[show n-i=(n-(i+1))+1 by omega];rfl
 have pos:=Ln (O:=O) (n-(i+1)) (i+1) (λj h1 h2=>(p.row om).1)
 obtain⟨m,U⟩:=exI ((O.getD i []).length)
 rw[st,←Nat.mul_assoc,U] at c
 rw[U] at N
 have bd:a*m<=kI O n 0:=by rw[←c];exact Nat.le_mul_of_pos_right _ pos
 have em:(a:Int)*(m:Int)=((a*m:Nat):Int):=rfl
 obtain⟨w,hw⟩:=exI (a*m)
 rw[hw] at em bd c
 simp(disch:=omega)only[go_sem,H.aF Z,t,y,z.ixa,Q,N,em]
 rw[eJ i]
 exact⟨n-(i+1),om,i+1,w,aB rfl,om,c,rfl⟩
theorem ZS {h:H}{id o:Nat}{a b c:V}(r:h.row id o 3=some [a,b,c]):h.cell id (o+1)=some b:=by
 unfold H.row at r;unfold H.cell;split at r
 ·rename_i f d e
  rw[e];simp only[sub] at r;split at r
  ·have r:=Option.some.inj r
   have:=congrArg (λl:List V=>l[1]?) r;simp at this;exact this
  ·cases r
 ·cases r
theorem lU {W:Nat->Prop}(x A:V)(n:Nat)(ls:List (V×V))(l:List nE)(a:List Nat)(h:H)(sv:SV h x 3 (Kr n ls))(al:aM (λp (e:nE)=> ∃G,GC W h (.agg [aC n,p.1,p.2]) n e.1 e.2 G) ls l)(l6:l.length<=6000)(O:SI h A (zi a))(P:l.map (λe=>kI e.1 n 0)=a):
  Ev T 29 [x,aC 0,A] h (λv h'=>v= .bool true/\Fr h h'):=by
 refine cV Du rfl ?_
 have la:=aM.length al
 have N:a.length=l.length:=by rw[←P,jV]
 have z:bT x=some (aC (l.length:Int)):=by unfold bT;rw[SV.len sv (n:=l.length) (by rw[lC,la]) om];rfl
 have r:=O.lens
 rw[aQ,N] at r
 have d0:decide ((0:Int)≠0)=false:=rfl
 have d1:decide ((l.length:Int)≠(l.length:Int))=false:=bH λh=>h rfl
 obtain⟨t,f,u,c,q⟩:=O.open
 rw[aQ,N] at u c q
 simp(disch:=omega)only[go_sem,Du,aD,d0,z,r,d1]
 refine aH (λU j m=> ∃(i:Nat),(∃g:Nat->V,j= [x,aC 0,A,g 3,aC i,g 5,g 6,g 7])/\i<=l.length/\Fr h m/\U=l.length-i) l.length
  ⟨0,aB rfl,iJ _,Fr.refl h,rfl⟩ ?_
 rintro U j m ⟨i,⟨g,rfl⟩,hi,F,rfl⟩
 by_cases s:(i:Int)<(l.length:Int)
 case neg=>
  have J:=bH s;simp(disch:=omega)only[go_sem,z,J];exact F
 have J:=oQ s
 have o:i<l.length:=om
 obtain⟨r1,o1,B,K⟩:=Lw (sv.mono F) (i:=i) om
 obtain⟨G1,b⟩:=aM.get al i om o
 have w:a.getD i 0=kI l[i].1 n 0:=by rw[←P,List.getD,Ol,dD o];rfl
 generalize ls[i]'om=p1 at K b
 generalize l[i]=e at b w
 have Q:m.cell t (f+i)=some (aC (kI e.1 n 0:Nat)):=by
  rw[F.cell (c om),q i o,←w];congr 2;exact nP (λk:Nat=>(k:Int)) (d:=0) om
 have Z:bT p1.1=some (aC n):=by
  obtain⟨vO,vR,a0,a1,R,sO,oO,pO,_⟩:=b.cw;simp only[V.agg.injEq,List.cons.injEq,true_and,and_true] at R;rw[R.1];have lO:=aM.length pO;rw[b.isc.lo] at lO;unfold bT;rw[SV.len sO (n:=n) om om];rfl
 have d3:decide ((n:Int)=0)=false:=bH (by have:=b.n0;omega)
 have d4:decide (((kI e.1 n 0:Nat):Int)≠((kI e.1 n 0:Nat):Int))=false:=bH λh=>h rfl
 have L:Fr m (H.mk m.tr (m.next+19)):=(Fr.refl m).bA om
 simp(disch:=omega)only[go_sem,z,J,B.ixa,ZS K,Z,d3,K,u.ixa,Q]
 refine (ajQ _ n e.1 e.2 G1 _ (b.mono (F.trans L))).mono ?_
 rintro _ Y ⟨rfl,f2⟩
 have F2:=L.trans f2
 have y:Y.cell t (f+i)=some (aC (kI e.1 n 0:Nat)):=by rw[F2.cell (by have:=c om;have:=F.next;omega)];exact Q
 simp(disch:=omega)only[go_sem,y,d4,dE]
 refine⟨by simp,?_⟩
 rw[eJ i]
 exact⟨l.length-(i+1),om,i+1,aB rfl,om,F.trans F2,rfl⟩
section
variable {L rs:LN} {K:List Nat}
def aeM (h:H)(neg:Bool)(x y:V):Option (V×H):=match x,y with
 | .str a,.str b=>some (.bool (if neg then !(a.map (· %256)==b.map (· %256)) else a.map (· %256)==b.map (· %256)),h)
 |_,_=>none
theorem XZ (ρ:X->V)(h:H)(neg:Bool)(x y:X):cI ρ h (.seq neg x y)=aeM h neg (ρ x) (ρ y):=by
 simp only[cI,aeM]
 rfl
theorem QH (h:H)(a:List Nat):aeM h true (.str a) (.str a)=some (.bool false,h):=by
 show some (V.bool (!(_==_)),h)=_;rw[beq_self_eq_true];rfl
theorem WV (d f:V)(l:LN)(h:H)(J:l.length<1000000)(u:SV h d 1 (l.map V.str))(s:SV h f 1 (l.map V.str)):
  Ev T 17 [d,f] h (λv h'=>v= .bool true/\Fr h h'):=by
 refine cV uX rfl ?_
 have j:(l.map V.str).length=l.length*1:=by rw[jV];omega
 have o:bT d=some (aC (l.length:Int)):=by unfold bT;rw[SV.len u j om];rfl
 have lb:bT f=some (aC (l.length:Int)):=by unfold bT;rw[SV.len s j om];rfl
 have x:decide ((l.length:Int)≠(l.length:Int))=false:=bH λh=>h rfl
 simp(disch:=omega)only[go_sem,uX,aD,o,lb,x]
 refine aH (λt a b=> ∃(i:Nat),(∃g:Nat->V,a= [d,f,g 2,aC i,g 4,g 5,g 6])/\i<=l.length/\Fr h b/\t=l.length-i) l.length
  ⟨0,aB rfl,iJ _,Fr.refl h,rfl⟩ ?_
 rintro t a b ⟨i,⟨g,rfl⟩,hi,F,rfl⟩
 by_cases c:(i:Int)<(l.length:Int)
 case neg=>
  have p:=bH c;simp(disch:=omega)only[go_sem,o,p];exact F
 have p:=oQ c
 have k:i<l.length:=om
 obtain⟨G,B,m,_,z⟩:=(u.mono F).shape l.length j om
 obtain⟨N,A,n,_,y⟩:=(s.mono F).shape l.length j om
 have r:=z i om
 have q:=y i om
 rw[Ol,dD k] at r q
 have w:Fr b (H.mk b.tr (b.next+9)):=(Fr.refl b).bA om
 simp(disch:=omega)only[go_sem,o,p,m.ixa,r,n.ixa,q,XZ,QH]
 rw[eJ i]
 exact⟨l.length-(i+1),om,i+1,aB rfl,om,F.trans w,rfl⟩
theorem Ut {W:Nat->Prop}(m d:V)(n:Nat)(O:LN)(R:jI)(G:List Nat->Prop)(a:LN)(h:H)(b:GC W h m n O R G)(t:SV h d 1 (a.map V.str))(q: ∀L K rs,dW G L->Cm n G L K->Ky n G L K rs->akA rs=a):
  Ev T 45 [m,d] h (λv h'=>v= .bool true/\Fr h h'):=by
 obtain⟨l,j,rfl,N,z⟩:=b.shape
 refine cV yT rfl ?_
 obtain⟨A,k⟩:=exI h.next
 obtain⟨J,y,P,x,U,f⟩:=dF k [aC n,l,j]
 simp(disch:=omega)only[go_sem,yT,aD,bM h (v:= aC n) (u:=l) (w:=j) rfl N z,k,y,aI x]
 refine (CR _ n O R G J (b.mono f)).mono ?_
 rintro _ o ⟨F,L,K,rs,rfl,r,s,B,sv,c,i⟩
 have E:=(dM b.dN b.isc).1
 rw[r] at E
 have e:=q L K rs E s B
 rw[e] at sv c
 simp(disch:=omega)only[go_sem,eq_self,decide_true]
 refine (WV F d a o om sv (t.mono (f.trans i))).mono ?_
 rintro _ Q ⟨rfl,p⟩
 simp(disch:=omega)only[go_sem]
 exact f.trans (i.trans p)
theorem AH {n:Nat}(h:n<=9):vT n= [48+n]:=by unfold vT;rw[bI om]
theorem afW (E:dW (bX 4 (· ∈DD)) L)(b:Cm 4 (bX 4 (· ∈DD)) L K)(a:Ky 4 (bX 4 (· ∈DD)) L K rs):akA rs= [[67,50], [67,50], [67,50], [67,51]]:=by
 obtain rfl:=E.uniq Am;rw[RC a b];have e:akA=λrs=>(Lr (mU (rs.map List.length))).map Prod.snd:=rfl
 rw[e];simp [mU,iY,Eg,LY,stA,Lr,Ep,AH,List.replicate]
theorem afH (E:dW (bX 4 (· ∈Ij)) L)(a:Cm 4 (bX 4 (· ∈Ij)) L K)(b:Ky 4 (bX 4 (· ∈Ij)) L K rs):akA rs= [[67,50], [67,50]]:=by
 obtain rfl:=E.uniq Ah;unfold akA;rw[agL b a];simp [mU,iY,Eg,LY,stA,Lr,Ep,AH,List.replicate]
theorem afG (E:dW (bX 5 (· ∈HH)) L)(a:Cm 5 (bX 5 (· ∈HH)) L K)(b:Ky 5 (bX 5 (· ∈HH)) L K rs):akA rs= [[65,53]]:=by
 obtain rfl:=E.uniq tT;unfold akA;rw[afY b a];simp [mU,iY,Eg,LY,stA,Lr,Ep,Eh]
end
theorem adL (h:H)(x y z w:List Nat):lQ h 1 [.str []] 4 [(0,1,.str x),(1,1,.str y),(2,1,.str z),(3,1,.str w)]=some (.sl h.next 0 4 (.kn 4),h.new (.cells false [.str x,.str y,.str z,.str w])):=rfl
theorem aeS (h:H)(x y:List Nat):lQ h 1 [.str []] 2 [(0,1,.str x),(1,1,.str y)]=some (.sl h.next 0 2 (.kn 2),h.new (.cells false [.str x,.str y])):=rfl
theorem agM (h:H)(x:List Nat):lQ h 1 [.str []] 1 [(0,1,.str x)]=some (.sl h.next 0 1 (.kn 1),h.new (.cells false [.str x])):=rfl
theorem CQ (h:H):Ev T 11 [] h (λv h'=>v= .bool true/\Fr h h'):=by
 refine cV Da rfl ?_;simp(disch:=omega)only[go_sem,Da,aD];refine (Ke h).mono ?_;rintro _ h1 ⟨c0,c1,c2,c3,O0,R0,O1,R1,O2,R2,O3,R3,rfl,c,n,l,o,f1⟩;obtain⟨p0,W,rfl,a0,b0⟩:=c.shape;obtain⟨p1,q1,rfl,a1,b1⟩:=n.shape;obtain⟨p2,q2,rfl,a2,b2⟩:=l.shape;obtain⟨p3,q3,rfl,a3,b3⟩:=o.shape;obtain⟨A,hA⟩:=exI h1.next;obtain⟨k1,e1,n1,g1,o1,F1⟩:=dF hA [aC 0,.aE,.aE];obtain⟨k2,e2,n2,g2,o2,F2⟩:=dF n1 [aC 0,.aE,.aE];obtain⟨k3,e3,n3,g3,o3,F3⟩:=dF n2 [aC 0,.aE,.aE];obtain⟨y,e4,n4,g4,F,F4⟩:=dF n3 [aC 0,.aE,.aE];have z1:y.get A=aZ [aC 0,.aE,.aE]:=by rw[F _ om,o3 _ om,o2 _ om];exact g1
 have z2:y.get (A+1)=aZ [aC 0,.aE,.aE]:=by rw[F _ om,o3 _ om];exact g2
 have z3:y.get (A+1+1)=aZ [aC 0,.aE,.aE]:=by rw[F _ om];exact g3
 obtain⟨k5,e5,n5,g5,P⟩:=pJ y A [aC (4:Nat),p0,W];obtain⟨R,e6,n6,g6,N⟩:=pJ k5 (A+1) [aC (4:Nat),p1,q1];obtain⟨k7,e7,n7,g7,O⟩:=pJ R (A+1+1) [aC (4:Nat),p2,q2];obtain⟨d,e8,n8,g8,J⟩:=pJ k7 (A+1+1+1) [aC (5:Nat),p3,q3];have y2:k5.get (A+1)=aZ [aC 0,.aE,.aE]:=by rw[P _ om];exact z2
 have y3:R.get (A+1+1)=aZ [aC 0,.aE,.aE]:=by rw[N _ om,P _ om];exact z3
 have y4:k7.get (A+1+1+1)=aZ [aC 0,.aE,.aE]:=by rw[O _ om,N _ om,P _ om];exact g4
 have b:Fr h1 d:=⟨om,λq hq=>by rw[J q om,O q om,N q om,P q om,F q om,o3 q om,o2 q om,o1 q om]⟩
 have r1: ∀a,Fr d a->a.row A 0 3=some [aC (4:Nat),p0,W]:=λa f=>aI (by rw[f.get A om,J _ om,O _ om,N _ om];exact g5)
 have r2: ∀a,Fr d a->a.row (A+1) 0 3=some [aC (4:Nat),p1,q1]:=λa f=>aI (by rw[f.get _ om,J _ om,O _ om];exact g6)
 have r3: ∀a,Fr d a->a.row (A+1+1) 0 3=some [aC (4:Nat),p2,q2]:=λa f=>aI (by rw[f.get _ om,J _ om];exact g7)
 have r4: ∀a,Fr d a->a.row (A+1+1+1) 0 3=some [aC (5:Nat),p3,q3]:=λa f=>aI (by rw[f.get _ om];exact g8)
 simp(disch:=omega)only[go_sem,hA,e1,n1,e2,n2,e3,n3,e4,bW y A 0 (v:= aC (4:Nat)) (u:=p0) (w:=W) rfl a0 b0,z1,cF,e5,bW k5 (A+1) 0 (v:= aC (4:Nat)) (u:=p1) (w:=q1) rfl a1 b1,y2,e6,bW R (A+1+1) 0 (v:= aC (4:Nat)) (u:=p2) (w:=q2) rfl a2 b2,y3,e7,bW k7 (A+1+1+1) 0 (v:= aC (5:Nat)) (u:=p3) (w:=q3) rfl a3 b3,y4,e8,r1 d (Fr.refl _)];refine (Eu _ 4 O0 R0 _ d (c.mono b)).mono ?_;rintro _ h2 ⟨v2,c6,l2,rfl,s2,U,uA,f2⟩;simp(disch:=omega)only[go_sem,r3 h2 f2];refine (Nq _ 4 O2 R2 _ h2 (l.mono (b.trans f2))).mono ?_;rintro _ h3 ⟨v3,a4,l3,rfl,s3,b7,c4,f3⟩;have w2:=Zi c.isc uA;have w3:=Xs l.isc c4;have L2:l2.length<=6000:=by have:=congrArg List.length w2;rw[jV] at this;rw[this];decide
 have L3:l3.length<=6000:=by have:=congrArg List.length w3;rw[jV] at this;rw[this];decide
 obtain⟨h4,c5,d6,a9,d5,f4⟩:=dF (h:=h3) rfl (ints [24,12,4,1]);have p:=f3.trans f4;simp(disch:=omega)only[go_sem,Ec,c5];have b4: ∀q,Fr d q->Fr h q:=λq f=>f1.trans (b.trans f)
 refine (lU v2 _ 4 c6 l2 [24,12,4,1] h4 (s2.mono p) (aM.mono (λ_ _ ⟨G,g,_⟩=>⟨G,g.mono p⟩) U) L2 (SV.all rfl om a9 _) w2).mono ?_;rintro _ h5 ⟨rfl,f5⟩;obtain⟨h6,b6,d1,Z,d2,f6⟩:=dF (h:=h5) rfl (ints [8,2,1]);have a6:=f5.trans f6;have m:=f4.trans a6;simp(disch:=omega)only[go_sem,SA,b6];refine (lU v3 _ 4 a4 l3 [8,2,1] h6 (s3.mono m) (aM.mono (λ_ _ ⟨G,g,_⟩=>⟨G,g.mono m⟩) b7) L3 (SV.all rfl om Z _) w3).mono ?_;rintro _ h7 ⟨rfl,f7⟩;have B:Fr d h7:=f2.trans (f3.trans (m.trans f7));obtain⟨h8,b9,e0,Y,d3,f8⟩:=dF (h:=h7) rfl [.str [67,50],.str [67,50],.str [67,50],.str [67,51]];have z:=B.trans f8;simp(disch:=omega)only[go_sem,r1 h7 B,adL,b9];refine (Ut _ _ 4 O0 R0 _ [[67,50], [67,50], [67,50], [67,51]] h8 (c.mono (b.trans z)) (SV.all (len:=4) rfl om Y _) λL K rs E x t=>afW E x t).mono ?_;rintro _ h9 ⟨rfl,f9⟩;have r:=z.trans f9;obtain⟨b8,a8,d9,b5,d8,a5⟩:=dF (h:=h9) rfl [.str [67,50],.str [67,50]];have k:=r.trans a5;simp(disch:=omega)only[go_sem,r2 h9 r,aeS,a8];refine (Ut _ _ 4 O1 R1 _ [[67,50], [67,50]] b8 (n.mono (b.trans k)) (SV.all (len:=2) rfl om b5 _) λL K rs E x t=>afH E x t).mono ?_;rintro _ s ⟨rfl,c7⟩;have j:=k.trans c7;obtain⟨c8,a7,e9,c9,d4,Q⟩:=dF (h:=s) rfl [.str [65,53]];have i:=j.trans Q;simp(disch:=omega)only[go_sem,r4 s j,agM,a7];refine (Ut _ _ 5 O3 R3 _ [[65,53]] c8 (o.mono (b.trans i)) (SV.all (len:=1) rfl om c9 _) λL K rs E x t=>afG E x t).mono ?_;rintro _ d7 ⟨rfl,d0⟩;simp(disch:=omega)only[go_sem];exact b4 _ (i.trans d0)
section
variable {n:Nat} {w:Bool} {c d:nE} {l:List nE} {Gc Gd:List Nat->Prop} {A C:LN}
theorem aiZ {x:Nat}{a:List Nat}(h:l.map (λe=>kI e.1 n 0)=a)(b:a[a.length- 1]? =some x):ajS n l=decide (x=1):=by
 have e:l.length=a.length:=by rw[←h,jV]
 unfold ajS;rw[e];rw[←h,Ol,jV,e] at b;split
 ·rename_i f;rw[f] at b;cases b
 ·rename_i e f
  rw[f] at b;cases b
  rfl
theorem amN (s:uC n w c l){k:Nat}(f:l[k]? =some d)(m:Mem n d Gd A)(g:iX n (Kf n w c d))(E:dW (Kf n w c d) A):l.length=k+1:=by
 have p:k<l.length:=(Ax.1 f).1
 by_cases j:k+1<l.length
 ·have i:=dD j
  obtain⟨o,h⟩:=s.st k _ _ f i;obtain⟨a,b⟩:=(o.congr (To E m.el)).uniq m.isc;exact absurd (Prod.ext a b) h
 ·omega
end
theorem aoF:Cq 4 MQ (if true then DH else MQ) MQ [[], [(1,1)], [(2,1)], [(1,12)], [(2,13)], [(1,18)], [(1,6)], [(2,18)], [(1,19)], [(2,6)], [(1,13)], [(1,7)]]=true:=by decide+kernel
theorem akQ {c:nE}{l:List nE}(j:bC 4 (bX 4 (· ∈DD)) c.1 c.2)(s:uC 4 true c l):l.map (λe=>kI e.1 4 0)= [24,12]:=by
 have a:Mem 4 c _ DH:=⟨bX.dN Wz,j,Am⟩
 have h:=s.hd;obtain⟨k,f,b⟩:=vZ s a h a agW (by decide);have m:=Ua s a f b aoF;refine List.ext_getElem? λi=>?_
 rw[Ol]
 match i with
 |0=>rw[h];exact congrArg some a.sz
 |1=>rw[f];exact congrArg some b.sz
 |i+2=>rw[List.getElem?_eq_none om];rfl
theorem ajO {c:nE}{l:List nE}(b:bC 5 (bX 5 (· ∈HH)) c.1 c.2)(s:uC 5 false c l):l.map (λe=>kI e.1 5 0)= [60]:=by
 have a:=bX.dN HN
 have j:Mem 5 c _ LA5:=⟨a,b,tT⟩
 have g:iX 5 (Kf 5 false c c):=Ad.dN a a b b
 have E:dW (Kf 5 false c c) LA5:=by
  have e:Kf 5 false c c=bX 5 (· ∈HH):=funext λx=>propext ⟨λh=>Ad.self a b h,λh=>bX.le g (λy f=>?_) h⟩
  ·rw[e];exact tT
  ·have o:jE (LA5.getD 3 []) (LA5.getD 24 [])= [1,2,0,3,4]:=by decide+kernel
   have m:jE (LA5.getD 2 []) (LA5.getD 57 [])= [1,2,3,4,0]:=by decide+kernel
   rcases zH.1 f with rfl|f
   ·rw[←o];exact Ad.all a a b b (oS tT (by decide)) (oS tT (by decide))
   ·rw[List.mem_singleton.1 f,←m];exact Ad.all a a b b (oS tT (by decide)) (oS tT (by decide))
 have k:=s.hd;have p:=amN s k j g E;refine List.ext_getElem? λi=>?_
 rw[Ol]
 match i with
 |0=>rw[k];exact congrArg some j.sz
 |i+1=>rw[List.getElem?_eq_none om];rfl
def NaB (n:Nat)(L:LN)(Rp Cg:List Nat)(Ns:LN):Bool:=
 Ns.all (λN=>N==List.range L.length||FG n L N)&&Ns.contains [0]&&decide (Ns.Pairwise λa b=>NI a b=true)&&(List.range L.length).all (λi=>i==0||Rp.any λr=>decide (r<L.length)&&(L.map (cW (L.getD r []))).contains (L.getD i []))&&Cg.all (λg=>decide (g<L.length))&&
  Ns.all λN=>N.contains 0&&Rp.all λr=>N.contains r||Ns.any λN'=>(N.all λi=>N'.contains i)&&N'.contains r&&(pmL L N').all λx=>(Yy (pmL L N++Cg.map λg=>cW (L.getD r []) (L.getD g [])) L.length 0 [bL n]).contains x
section
variable {n:Nat} {G:List Nat->Prop} {L:LN} {Ns rs:LN} (hG:iX n G) (E:dW G L)
include hG E
theorem NaB.ok {Rp Cg:List Nat}(h1:L.getD 0 []=bL n)(h:NaB n L Rp Cg Ns=true):Bm n G L Ns:=by
 unfold NaB at h;simp only[vN,Kv,List.any_eq_true,Bool.or_eq_true,Qf,List.contains_iff_mem,Nv,Gu,beq_iff_eq] at h;obtain⟨⟨⟨⟨⟨hN,U⟩,hs⟩,J⟩,hC⟩,z⟩:=h;have all: ∀N∈Ns,xJ n G L N:=λN u=>(hN N u).elim (λe=>by rw[e];exact RF hG E) (FG.ok hG E)
 have k0:=all _ U;refine⟨λr=>⟨all r,Sv hG E (List.Perm.refl _) (by rw[DT k0 h1];exact U) all (λN u k W=>?_) r⟩,hs⟩;have v:=all N u;have i:=(kV.1 W).1
 by_cases m:k∈N
 ·exact .inl m
 refine .inr ?_;obtain⟨Y,hr⟩:=z N u;rcases J k i with e|⟨r,F,B,K⟩
 ·exact absurd (by rw[e];exact Y) m
 obtain⟨g,p,y⟩:=uF.1 K;have f:=(E.mem g).1 p;have P:=lY hG E B;rcases hr r F with h|⟨Q,s,⟨h3,h4⟩,Z⟩
 ·exact absurd (by
   obtain⟨t,o,e2⟩:=v.nm _ _ ⟨r,h,rfl⟩ f;have:t=k:=yK E.nodup ((v.rk.mem t).1 o).1 i (e2.trans y)
   rw[←this];exact o) m
 have q:=all Q s
 have e:yR n G L N k=Q:=by
  refine VD (akE hG E v i).rk.asc q.rk.asc λt=>⟨λo=>?_,λo=>?_⟩
  ·obtain⟨h6,h7⟩:=(Bj t).1 o
   exact (q.rk.mem t).2 ⟨h6,NC.le h7 q.dN (λa h=>h.elim (λ⟨j,hj,e⟩=>⟨j,h3 j hj,e⟩) λe=>by rw[e,←y];exact q.nm _ _ ⟨r,h4,rfl⟩ f) λa b ha hb=>q.nm a b ha hb⟩
  ·refine (Bj t).2 ⟨((q.rk.mem t).1 o).1,?_⟩
   have R:=Lb.dN hG v.le (oS E i)
   have rx:Lb n G (RG L N) (L.getD k []) (L.getD r []):=by
    have:=NC.cj (n:=n) (NC.of (.inr rfl):Lb n G (RG L N) (L.getD k []) (L.getD k [])) (hG.inv f);rw[←y,←nX P (hG.cU f) (hG.cU f).inv,fC (hG.cU f),mG P] at this;rwa [←y]
   refine Ma (P:=Lb n G (RG L N) (L.getD k [])) (λx O g p=>R.mul O ?_) L.length 0 [bL n] (λx O=>by rw[List.mem_singleton.1 O];exact R.one) _ (Z _ ⟨t,o,rfl⟩);rcases pH.1 p with p|p
   ·exact NC.of (.inl (Nv.1 p))
   ·obtain⟨c,J,rfl⟩:=uF.1 p
    exact NC.cj rx (oS E (hC c J))
 rw[e];exact s
end
theorem anP: ∀{l:LN} {x:List Nat},x∈l->kP x (NH l)=false
 |a::l,x,h=>by
  have k: ∀(l:LN) (a:List Nat),kP a (l.foldl (λm x=>if kP x m then x else m) a)=false/\ ∀x∈l,kP x (l.foldl (λm x=>if kP x m then x else m) a)=false:=by
   intro l
   induction l with
   |nil=>exact λa=>⟨Oc a,λx h=>by cases h⟩
   |cons b l ih=>
    intro a;rw[List.foldl_cons]
    cases hb:kP b a with
    |true=>
     rw[bF rfl];obtain⟨f,i⟩:=ih b;refine⟨?_,λx h=>(zH.1 h).elim (λe=>by rw[e];exact f) (i x)⟩
     cases h3:kP a (l.foldl (λm x=>if kP x m then x else m) b) with
     |false=>rfl
     |true=>rw[uD hb h3] at f;cases f
    |false=>
     rw[bI (by simp)];obtain⟨f,i⟩:=ih a;refine⟨f,λx h=>(zH.1 h).elim (λe=>?_) (i x)⟩;rw[e]
     cases h3:kP b (l.foldl (λm x=>if kP x m then x else m) a) with
     |false=>rfl
     |true=>
      have j:kP a b=true∨a=b:=by
       cases h5:kP a b with
       |true=>exact .inl rfl
       |false=>exact .inr (Hw h5 hb)
      rcases j with j|j
      ·rw[uD j h3] at f;cases f
      ·rw[←j,f] at h3;cases h3
  show kP x (l.foldl _ a)=false;obtain⟨f,i⟩:=k l a;exact (zH.1 h).elim (λe=>by rw[e];exact f) (i x)
theorem aoD:NaB 4 DH [1,3,7,9] [0,2,8] [[0], [0,7,16,23], [0,3,4,7,8,11,12,15,16,19,20,23],List.range 24]=true:=by decide+kernel
theorem anZ:NaB 4 qB [1,2,3] [0] [[0], [0,1], [0,2], [0,3],List.range 4]=true:=by decide+kernel
theorem anV:NaB 4 ZQ [1,2,3,5] [0,3] [[0], [0,5], [0,1,4,5], [0,2,5,7], [0,3,5,6],List.range 8]=true:=by decide+kernel
theorem anU:NaB 5 LA5 [1,3,16,17] [0,1,30] [[0],List.range 60]=true:=by decide+kernel
theorem anR {K:List Nat}{rs:LN}(r:Ky 4 (bX 4 (· ∈Ij)) qB K rs)(c:Cm 4 (bX 4 (· ∈Ij)) qB K):rs= [[0], [0,1],List.range 4]:=by
 obtain⟨i,p,s,e,a⟩:=VC r c;have q:=bX.dN Su;have E:=Ah;have n:xJ 4 (bX 4 (· ∈Ij)) qB [0]:=FG.ok q E (by decide+kernel);have f:1∈K:=c.perm.mem_iff.2 (by rw[Za E];decide+kernel);have t:=(acU (i:=1) om (by decide)).1
 have o: [0,1]∈IN (XC 4 (bX 4 (· ∈Ij)) qB [0] K):=by
  refine CH.2 ⟨Ft.2 ⟨1,f,by decide,t.symm⟩,?_⟩;rw[Bool.not_eq_true'];refine List.any_eq_false.2 λb l=>?_
  obtain⟨j,m,d,rfl⟩:=Ft.1 l;have:=(Gw n (c.lt m) d).2.2;have:1<(yR 4 (bX 4 (· ∈Ij)) qB [0] j).length:=this;rw[vN,Qf];exact λh=>by have:_<2:=h.1;omega
 have k:=anP o;have a:NH (IN (XC 4 (bX 4 (· ∈Ij)) qB [0] K))= [0,i]:=a;rw[a] at k;have: ∀i,i<4->i∉ [0]->kP [0,1] [0,i]=false->i=1:=by decide
 obtain rfl:=this i p s k;exact e
theorem aiR {W:Nat->Prop}{n:Nat}{G:List Nat->Prop}{L:LN}{h:H}(E:dW G L): ∀{ls:List (V×V)} {rs:LN},aM (AV W n L h) ls rs->(∀r∈rs,xJ n G L r)-> ∃l:List nE,aM (λp (e:nE)=> ∃G,GC W h (.agg [aC n,p.1,p.2]) n e.1 e.2 G) ls l/\l.map (λe=>kI e.1 n 0)=rs.map List.length
 | [], [],_,_=>⟨[],trivial,rfl⟩
 |p::ls,r::rs,⟨⟨O,R,g⟩,a⟩,hk=>by
  obtain⟨l,d,b⟩:=aiR E a λr c=>hk r (Cu _ c)
  have k:=hk r Ab;exact⟨(O,R)::l,⟨⟨_,g⟩,d⟩,by rw[List.map_cons,List.map_cons,b,k.rk.len k.dN g.isc E k.le]⟩
theorem Ra {n:Nat}{G:List Nat->Prop}{L:LN}{c:LN}{h h':H}{v:V}(a:Bm n G L c)(l:c.length<=200)(r:agX n G L h v h'):(∃vl ls,v= .tup [vl,aC 0]/\SV h' vl 3 (Kr n ls)/\aM (AV (λ_=>False) n L h') ls c)/\Fr h h':=by
 obtain⟨r,f⟩:=r;refine⟨?_,f⟩;rcases r with ⟨vl,ls,m,e,b,_,s,d⟩|⟨_,j,nd,k,o⟩
 ·obtain rfl:=a.uniq b
  exact⟨vl,ls,e,s,d⟩
 ·have:=List.Nodup.length_le_of_subset nd λr i=>(a.mem r).2 (k r i)
  omega
theorem alR {l:List nE}{n:Nat}{w:List Nat}(h:l.map (λe=>kI e.1 n 0)=w)(a:w.length<=6000):l.length<=6000:=by
 rw[←h,jV] at a;exact a
theorem alY (h:H)(x y:Int):lQ h 1 [aC 0] 2 [(0,1,aC x),(1,1,aC y)]=some (.sl h.next 0 2 (.kn 2),h.new (.cells false (ints [x,y]))):=rfl
theorem anM (h:H)(x:Int):lQ h 1 [aC 0] 1 [(0,1,aC x)]=some (.sl h.next 0 1 (.kn 1),h.new (.cells false (ints [x]))):=rfl
theorem akT (h:H):Ev T 6 [] h (λv h'=>v= .bool true/\Fr h h'):=by
 refine cV rK rfl ?_;simp(disch:=omega)only[go_sem,rK,aD];refine (Ke h).mono ?_;rintro _ h1 ⟨c0,c1,c2,c3,O0,R0,O1,R1,O2,R2,O3,R3,rfl,d,y,t,m,f1⟩;obtain⟨p0,q0,rfl,a0,b0⟩:=d.shape;obtain⟨p1,q1,rfl,a1,b1⟩:=y.shape;obtain⟨p2,q2,rfl,a2,b2⟩:=t.shape;obtain⟨p3,q3,rfl,a3,b3⟩:=m.shape;obtain⟨A,hA⟩:=exI h1.next;obtain⟨k1,e1,n1,g1,o1,F1⟩:=dF hA [aC 0,.aE,.aE];obtain⟨k2,e2,n2,g2,o2,F2⟩:=dF n1 [aC 0,.aE,.aE];obtain⟨k3,e3,n3,g3,o3,F3⟩:=dF n2 [aC 0,.aE,.aE];obtain⟨k4,e4,n4,g4,o4,F4⟩:=dF n3 [aC 0,.aE,.aE];have z1:k4.get A=some (.cells false [aC 0,.aE,.aE]):=by rw[o4 _ om,o3 _ om,o2 _ om];exact g1
 have z2:k4.get (A+1)=some (.cells false [aC 0,.aE,.aE]):=by rw[o4 _ om,o3 _ om];exact g2
 have z3:k4.get (A+1+1)=some (.cells false [aC 0,.aE,.aE]):=by rw[o4 _ om];exact g3
 obtain⟨k5,e5,n5,g5,o5⟩:=pJ k4 A [aC (4:Nat),p0,q0];obtain⟨k6,e6,n6,g6,o6⟩:=pJ k5 (A+1) [aC (4:Nat),p1,q1];obtain⟨k7,e7,n7,g7,o7⟩:=pJ k6 (A+1+1) [aC (4:Nat),p2,q2];obtain⟨k8,e8,n8,g8,o8⟩:=pJ k7 (A+1+1+1) [aC (5:Nat),p3,q3];have y2:k5.get (A+1)=some (.cells false [aC 0,.aE,.aE]):=by rw[o5 _ om];exact z2
 have y3:k6.get (A+1+1)=some (.cells false [aC 0,.aE,.aE]):=by rw[o6 _ om,o5 _ om];exact z3
 have y4:k7.get (A+1+1+1)=some (.cells false [aC 0,.aE,.aE]):=by rw[o7 _ om,o6 _ om,o5 _ om];exact g4
 have c:Fr h1 k8:=⟨om,λq hq=>by rw[o8 q om,o7 q om,o6 q om,o5 q om,o4 q om,o3 q om,o2 q om,o1 q om]⟩
 have r1: ∀j,Fr k8 j->j.row A 0 3=some [aC (4:Nat),p0,q0]:=λj f=>aI (by rw[f.get A om,o8 _ om,o7 _ om,o6 _ om];exact g5)
 have r2: ∀j,Fr k8 j->j.row (A+1) 0 3=some [aC (4:Nat),p1,q1]:=λj f=>aI (by rw[f.get _ om,o8 _ om,o7 _ om];exact g6)
 have r3: ∀j,Fr k8 j->j.row (A+1+1) 0 3=some [aC (4:Nat),p2,q2]:=λj f=>aI (by rw[f.get _ om,o8 _ om];exact g7)
 have r4: ∀j,Fr k8 j->j.row (A+1+1+1) 0 3=some [aC (5:Nat),p3,q3]:=λj f=>aI (by rw[f.get _ om];exact g8)
 have E0:=dM d.dN d.isc;have E1:=dM y.dN y.isc;have E2:=dM t.dN t.isc;have E3:=dM m.dN m.isc;have L0:=E0.1.uniq Am;have L1:=E1.1.uniq Ah;have L2:=E2.1.uniq BT;have L3:=E3.1.uniq tT;simp(disch:=omega)only[go_sem,hA,e1,n1,e2,n2,e3,n3,e4,bW k4 A 0 (v:= aC (4:Nat)) (u:=p0) (w:=q0) rfl a0 b0,z1,cF,e5,bW k5 (A+1) 0 (v:= aC (4:Nat)) (u:=p1) (w:=q1) rfl a1 b1,y2,e6,bW k6 (A+1+1) 0 (v:= aC (4:Nat)) (u:=p2) (w:=q2) rfl a2 b2,y3,e7,bW k7 (A+1+1+1) 0 (v:= aC (5:Nat)) (u:=p3) (w:=q3) rfl a3 b3,y4,e8,r1 k8 (Fr.refl _)];refine (Nq _ 4 O0 R0 _ k8 (d.mono c)).mono ?_;rintro _ h2 ⟨v5,x3,l5,rfl,s5,s8,v3,f2⟩;simp(disch:=omega)only[go_sem,r4 h2 f2];refine (Eu _ 5 O3 R3 _ h2 (m.mono (c.trans f2))).mono ?_;rintro _ h3 ⟨v7,y6,l7,rfl,s7,o9,t9,f3⟩;have G3:=f2.trans f3;have w5:=akQ d.isc v3;have w7:=ajO m.isc t9;simp(disch:=omega)only[go_sem,r1 h3 G3];refine (aiX _ 4 O0 R0 _ h3 (d.mono (c.trans G3))).mono ?_;rintro _ h4 ⟨l9,q5,rfl,f4⟩;have G4:=G3.trans f4;have b9:ajS 4 l9=true:=aiZ (Zi d.isc q5) rfl;rw[b9];simp(disch:=omega)only[go_sem,r4 h4 G4];refine (aiX _ 5 O3 R3 _ h4 (m.mono (c.trans G4))).mono ?_;rintro _ h5 ⟨m8,j1,rfl,f5⟩;have G5:=G4.trans f5;have r5:ajS 5 m8=false:=aiZ (ajO m.isc j1) rfl;rw[r5];simp(disch:=omega)only[go_sem,r1 h5 G5];refine (PS _ 4 O0 R0 _ h5 (d.mono (c.trans G5))).mono ?_;rintro _ h6 ⟨x9,i7,rfl,f6⟩;have G6:=G5.trans f6;have v6:ajS 4 x9=false:=aiZ (akQ d.isc i7) rfl;rw[v6];simp(disch:=omega)only[go_sem,r3 h6 G6];refine (PS _ 4 O2 R2 _ h6 (t.mono (c.trans G6))).mono ?_;rintro _ h7 ⟨v1,l0,rfl,f7⟩;have G7:=G6.trans f7;have s9:ajS 4 v1=true:=aiZ (Xs t.isc l0) rfl;rw[s9];obtain⟨h8,s4,A1,n0,y9,f8⟩:=dF (h:=h7) rfl (ints [24,12]);have g0:Fr h2 h8:=f3.trans (f4.trans (f5.trans (f6.trans (f7.trans f8))));simp(disch:=omega)only[go_sem,alY,s4];refine (lU v5 _ 4 x3 l5 [24,12] h8 (s5.mono g0) (aM.mono (λ_ _ ⟨G,g,_⟩=>⟨G,g.mono g0⟩) s8) (alR w5 (by decide)) (SV.all rfl om n0 _) w5).mono ?_;rintro _ h9 ⟨rfl,f9⟩;obtain⟨m1,v9,B1,s0,A0,q9⟩:=dF (h:=h9) rfl (ints [60]);have B:Fr h3 m1:=f4.trans (f5.trans (f6.trans (f7.trans (f8.trans (f9.trans q9)))));simp(disch:=omega)only[go_sem,anM,v9];refine (lU v7 _ 5 y6 l7 [60] m1 (s7.mono B) (aM.mono (λ_ _ ⟨G,g,_⟩=>⟨G,g.mono B⟩) o9) (alR w7 (by decide)) (SV.all rfl om s0 _) w7).mono ?_;rintro _ b8 ⟨rfl,x4⟩;have d4:Fr k8 b8:=G3.trans (B.trans x4);simp(disch:=omega)only[go_sem,eq_self,decide_true,r1 b8 d4];have d5:Bm 4 (bX 4 (· ∈DD)) DH _:=NaB.ok (bX.dN Wz) Am rfl aoD;have d7:Bm 4 (bX 4 (· ∈Ij)) qB _:=NaB.ok (bX.dN Su) Ah rfl anZ;have u6:Bm 4 (bX 4 (· ∈D4g)) ZQ _:=NaB.ok (bX.dN TC) BT rfl anV;have e0:Bm 5 (bX 5 (· ∈HH)) LA5 _:=NaB.ok (bX.dN HN) tT rfl anU;refine (Cf _ 4 O0 R0 _ b8 (d.mono (c.trans d4))).mono ?_;rintro v c6 ⟨L,l,P⟩;obtain rfl:=l.symm.trans L0;obtain⟨⟨q6,i8,rfl,s2,i2⟩,u3⟩:=Ra d5 (by decide) P;clear l P;have d0:=d4.trans u3;simp(disch:=omega)only[go_sem,r2 c6 d0];refine (Cf _ 4 O1 R1 _ c6 (y.mono (c.trans d0))).mono ?_;rintro v m3 ⟨L,l,P⟩;obtain rfl:=l.symm.trans L1;obtain⟨⟨u7,y8,rfl,r9,j9⟩,m6⟩:=Ra d7 (by decide) P;clear l P;have c7:=d0.trans m6;simp(disch:=omega)only[go_sem,r3 m3 c7];refine (Cf _ 4 O2 R2 _ m3 (t.mono (c.trans c7))).mono ?_;rintro v l6 ⟨L,l,P⟩;obtain rfl:=l.symm.trans L2;obtain⟨⟨q8,y7,rfl,r7,l1⟩,i1⟩:=Ra u6 (by decide) P;clear l P;have b6:=c7.trans i1;simp(disch:=omega)only[go_sem,r4 l6 b6];refine (Cf _ 5 O3 R3 _ l6 (m.mono (c.trans b6))).mono ?_;rintro v i5 ⟨L,l,P⟩;obtain rfl:=l.symm.trans L3;obtain⟨⟨w2,k0,rfl,s3,j7⟩,l3⟩:=Ra e0 (by decide) P;clear l P;have t8:=b6.trans l3;obtain⟨u5,v8,j2⟩:=aiR Am i2 λr hr=>(d5.mem r).1 hr
 obtain⟨u9,t7,i3⟩:=aiR tT j7 λr hr=>(e0.mem r).1 hr
 have l4:bT u7=some (aC 5):=by
  have:=aM.length j9;unfold bT;rw[SV.len r9 (n:=5) (by rw[lC,this];rfl) om];rfl
 have i4:bT q8=some (aC 6):=by
  have:=aM.length l1;unfold bT;rw[SV.len r7 (n:=6) (by rw[lC,this];rfl) om];rfl
 obtain⟨f0,o0,A7,t3,B2,m0⟩:=dF (h:=i5) rfl (ints [1,4,12,24]);have W:Fr c6 f0:=m6.trans (i1.trans (l3.trans m0));simp(disch:=omega)only[go_sem,Ec,o0];refine (lU q6 _ 4 i8 u5 [1,4,12,24] f0 (s2.mono W) (aM.mono (λ_ _ ⟨G,g⟩=>⟨G,g.mono W⟩) v8) (alR j2 (by decide)) (SV.all rfl om t3 _) j2).mono ?_;rintro _ s6 ⟨rfl,m9⟩;obtain⟨j6,w4,z9,t5,z7,l2⟩:=dF (h:=s6) rfl (ints [1,60]);have p:Fr i5 j6:=m0.trans (m9.trans l2);simp(disch:=omega)only[go_sem,l4,i4,eq_self,decide_true,alY,w4];refine (lU w2 _ 5 k0 u9 [1,60] j6 (s3.mono p) (aM.mono (λ_ _ ⟨G,g⟩=>⟨G,g.mono p⟩) t7) (alR i3 (by decide)) (SV.all rfl om t5 _) i3).mono ?_;rintro _ c4 ⟨rfl,y0⟩;have a8:Fr k8 c4:=t8.trans (p.trans y0);simp(disch:=omega)only[go_sem,r1 c4 a8];refine (Ph _ 4 O0 R0 _ c4 (d.mono (c.trans a8))).mono ?_;rintro _ b5 ⟨x5,m4,L,K,rs,rfl,l,ik,cl,p9,j4,r8⟩;obtain rfl:=l.symm.trans L0;obtain rfl:=RC cl ik;clear l;have d3:=a8.trans r8;simp(disch:=omega)only[go_sem,r2 b5 d3];refine (Ph _ 4 O1 R1 _ b5 (y.mono (c.trans d3))).mono ?_;rintro _ a5 ⟨l8,a6,L,K1,rs,rfl,l,v4,y5,m2,O,Z⟩;obtain rfl:=l.symm.trans L1;obtain rfl:=anR y5 v4;clear l;have w8:=d3.trans Z;obtain⟨I0,j8⟩:=exI a5.next;obtain⟨i0,u4,g9,v0,d8⟩:=mkI j8 [1,0,3,2];obtain⟨x0,w3,z4,t4,z0,d2⟩:=dF g9 [.sl I0 0 4 (.kn 4)];have KI:SP x0 (.sl (I0+1) 0 1 (.kn 1)) [[1,0,3,2]]:=SP.aoI (a:= [1,0,3,2]) (h:=i0) v0 om d2 t4 _;have w6:=w8.trans (d8.trans d2);simp(disch:=omega)only[go_sem,j8,Ec,u4,g9,cT i0 (z:= .aE) (mW ..).1 (mW ..).2,w3];refine (afJ _ 4 [[1,0,3,2]] x0 om om (by decide) KI λg hg=>Su g (by rw[List.mem_singleton.1 hg];exact Ab)).mono ?_;rintro _ c5 ⟨z5,O4,R4,rfl,b7,k9⟩;obtain⟨p4,q4,rfl,a4,b4⟩:=b7.shape;have r6:=w6.trans k9;obtain⟨D,hD⟩:=exI c5.next;obtain⟨y1,p6,A5,p7,t1,A9⟩:=dF hD [aC 0,.aE,.aE];obtain⟨b,u8,z6,m7,x7⟩:=pJ y1 D [aC (4:Nat),p4,q4]
 have fy:Fr c5 b:=⟨om,λq hq=>by rw[x7 q om,t1 q om]⟩
 have rD: ∀j,Fr b j->j.row D 0 3=some [aC (4:Nat),p4,q4]:=λj f=>aI (by rw[f.get D om];exact m7)
 have a9:Fr a5 c5:=(d8.trans d2).trans k9;simp(disch:=omega)only[go_sem,hD,p6,bW y1 D 0 (v:= aC (4:Nat)) (u:=p4) (w:=q4) rfl a4 b4,p7,cF,u8];refine (CQ _).mono ?_;rintro _ Q ⟨rfl,i6⟩;have x6: ∀k,b.next<=k->Fr b (H.mk b.tr k):=λk hk=>(Fr.refl b).bA hk
 have R:Fr b Q:=(x6 _ om).trans i6;have w9: ∀r∈ [[0], [0,7,16,23], [0,3,4,7,8,11,12,15,16,19,20,23],List.range 24],xJ 4 (bX 4 (· ∈DD)) DH r:=λr hr=>(d5.mem r).1 hr
 have j3: ∀r∈ [[0], [0,1],List.range 4],xJ 4 (bX 4 (· ∈Ij)) qB r:=λr hr=>(d7.mem r).1 (by
  simp only[zH,List.not_mem_nil,or_false] at hr
  rcases hr with rfl|rfl|rfl<;>simp)
 obtain⟨v2,x1,j5⟩:=aiR Am j4 w9;obtain⟨w1,t6,d6⟩:=aiR Ah O j3;obtain⟨c8,n9,B3,t0,t2⟩:=LF Q (b.next+10) Q.next (ints [1,4,12,24]);have A2:b.next+27<=Q.next:=i6.next;have o:Fr a5 b:=a9.trans fy;have J: ∀q,q<b.next->c8.get q=Q.get q:=λq hq=>t2 q om
 have N:Fr b5 c8:=⟨by have:=(Z.trans (o.trans R)).next;omega,λq hq=>by rw[J q (by have:=(Z.trans o).next;omega)];exact (Z.trans (o.trans R)).get q hq⟩
 simp(disch:=omega)only[go_sem,Ec,n9];refine (lU x5 _ 4 m4 v2 [1,4,12,24] c8 (p9.mono N) (aM.mono (λ_ _ ⟨G,g⟩=>⟨G,g.mono N⟩) x1) (alR j5 (by decide)) (SV.all rfl om t0 _) j5).mono ?_;rintro _ d1 ⟨rfl,h0⟩;have z8:=h0.next;obtain⟨c9,p5,A3,u0,r0⟩:=LF d1 (b.next+16) d1.next (ints [1,2,4])
 have m5:Fr b d1:=⟨om,λq hq=>by rw[h0.get q om,J q hq];exact R.get q hq⟩
 have a7:Fr b c9:=⟨om,λq hq=>by rw[r0 q om];exact m5.get q hq⟩
 have Y:Fr a5 c9:=o.trans a7;simp(disch:=omega)only[go_sem,SA,p5];refine (lU l8 _ 4 a6 w1 [1,2,4] c9 (m2.mono Y) (aM.mono (λ_ _ ⟨G,g⟩=>⟨G,g.mono Y⟩) t6) (alR d6 (by decide)) (SV.all rfl om u0 _) d6).mono ?_;rintro _ j0 ⟨rfl,q7⟩;have s:=a7.trans q7;have F:=o.trans s;have B0:a6.length=3:=aM.length O;obtain⟨x8,d9,e9,s1⟩:=Lw (m2.mono F) (i:=1) om;have U:=e9.ixa .i64 1 om om;obtain⟨Ob,Rb,i9⟩:=aM.get O 1 om (by decide);have U:Dz 3 l8 (aC 1)=some (.ptr x8 (d9+1*3)):=U;simp(disch:=omega)only[go_sem,U,s1,rD j0 s]
 have eG: ∀x,RG qB [0,1] x↔bX 4 (· ∈ [[1,0,3,2]]) x:=by
  have k1:=j3 [0,1] (by decide);have w0:=UA Ah k1;have x2:dW (bX 4 (· ∈ [[1,0,3,2]])) [[0,1,2,3], [1,0,3,2]]:=Ze.Xz (ws:= [[], [0]]) (by decide+kernel);exact To w0 x2
 obtain⟨u1,u2⟩:=(i9.isc.congr eG).uniq b7.isc;refine (acR _ _ 4 (Ob,Rb) (O4,R4) _ _ j0 (i9.mono F) (b7.mono (fy.trans s))).mono ?_;rintro _ A8 ⟨rfl,p8⟩;have dT:decide (((Ob,Rb):nE)=(O4,R4))=true:=oQ (by rw[u1,u2]);simp(disch:=omega)only[go_sem,dT];exact f1.trans (c.trans (r6.trans (fy.trans (s.trans p8))))
theorem aoP {n:Nat}{a:List Nat}(A:bE n a)(m:n<=6):qF a n∣60:=by
 unfold qF;rw[Hb];intro c d;obtain⟨l,f,rfl⟩:=uF.1 d;obtain⟨i,hi,rfl⟩:=uF.1 f;have b:i<n:=by unfold Qh at hi;exact Gu.1 (CH.1 hi).1
 rw[Ca];have h:=(pD A b).1;have j:=BA A b;have: ∀k,k<7->0<k->k∣60:=by decide
 exact this _ om h
def Cs:List (Nat×List Nat)->Nat
 | []=>1
 |x::l=>x.1*Cs l
theorem Pl: ∀a b:List (Nat×List Nat),Cs (a++b)=Cs a*Cs b
 | [],b=>(Nat.one_mul _).symm
 |x::a,b=>by
  show x.1*Cs (a++b)=x.1*Cs a*Cs b;rw[Pl a b,Nat.mul_assoc]
theorem aiN (x:Nat×List Nat): ∀k,Cs (List.replicate k x)=x.1^k
 |0=>rfl
 |k+1=>by
  rw[List.replicate_succ];show x.1*Cs _=_;rw[aiN x k,Nat.pow_succ,Nat.mul_comm]
theorem alA {a b:List (Nat×List Nat)}(p:a.Perm b):Cs a=Cs b:=by
 induction p with
 |nil=>rfl
 |cons x _ ih=>show x.1*Cs _=x.1*Cs _;rw[ih]
 |swap x y l=>show y.1*(x.1*Cs l)=x.1*(y.1*Cs l);rw[←Nat.mul_assoc,Nat.mul_comm y.1,Nat.mul_assoc]
 |trans _ _ ih1 ih2=>exact ih1.trans ih2
theorem ajA (x:Nat×List Nat): ∀l,(Ep x l).Perm (x::l)
 | []=>List.Perm.refl _
 |y::r=>by
  unfold Ep;split
  ·exact (List.Perm.cons y (ajA x r)).trans (List.Perm.swap x y r)
  ·exact List.Perm.refl _
theorem aoM (l:List (Nat×List Nat)):(Lr l).Perm l:=by
 have b: ∀(l a:List (Nat×List Nat)),(l.foldl (λa x=>Ep x a) a).Perm (l++a):=by
  intro l
  induction l with
  |nil=>exact λa=>List.Perm.refl _
  |cons x l ih=>
   intro a;rw[List.foldl_cons];refine (ih _).trans ?_;have:(l++Ep x a).Perm (l++(x::a)):=List.Perm.append_left l (ajA x a);exact this.trans List.perm_middle
 have:=b l [];rwa [vF] at this
def nmE (x:Nat×List Nat):Prop:=x=(2, [67,50])∨x=(3, [67,51])∨x=(5, [67,53])∨x=(60, [65,53])∨x=(360, [65,54])
theorem apZ {n:Nat}(h:n<=9):vT n= [48+n]:=by unfold vT;rw[bI om]
theorem anI {p k:Nat}(l:akH p)(q:0<k):iY (p^k)=List.replicate k (p,67::vT p):=by
 have c:=l.1;have pos:0<p^k:=Nat.pow_pos om
 have EB:2<=p^k:=by
  obtain⟨k,rfl⟩: ∃i,k=i+1:=⟨k- 1,om⟩
  have:0<p^k:=Nat.pow_pos om;rw[Nat.pow_succ];exact mT c (Nat.le_mul_of_pos_left _ this)
 have le:p<=p^k:=by
  obtain⟨k,rfl⟩: ∃i,k=i+1:=⟨k- 1,om⟩
  have:0<p^k:=Nat.pow_pos om;rw[Nat.pow_succ];exact Nat.le_mul_of_pos_left _ this
 have e:LY (p^k- 2) (p^k) 2=p:=aoN (Nat.dvd_trans (by simp) (Nat.pow_dvd_pow p q)) _ 2 om om om λd t u h=>by
  obtain⟨r,o,a⟩:=alN (show 1<d by omega);have:=o.pow k (Nat.dvd_trans a h);have v:=o.1;rcases l.2 r this with h|h
  ·omega
  ·have:=Nat.le_of_dvd om a
   omega
 have s: ∀m f j,p^m<=f->stA f p j (p^m)=(j+m,1):=by
  intro m
  induction m with
  |zero=>
   intro f j h;rw[Nat.pow_zero] at h ⊢
   obtain⟨f,rfl⟩: ∃b,f=b+1:=⟨f- 1,om⟩
   show (if 1%p=0 then stA f p (j+1) (1/p) else (j,1))=_;rw[bI (by rw[Nat.mod_eq_of_lt c];omega)];rfl
  |succ m ih=>
   intro f j h;have pos:0<p^m:=Nat.pow_pos om;have n:p^(m+1)=p^m*p:=Nat.pow_succ ..;have EB:p^m<p^(m+1):=Nat.pow_lt_pow_right c om
   obtain⟨f,rfl⟩: ∃b,f=b+1:=⟨f- 1,om⟩
   show (if p^(m+1)%p=0 then stA f p (j+1) (p^(m+1)/p) else _)=_;rw[bF (by rw[n];exact Nat.mul_mod_left _ _),n,Nat.mul_div_cancel _ om,ih f (j+1) om];congr 1;omega
 unfold iY;rw[e,s k (p^k) 0 (fM _)];unfold Eg;rw[bF rfl,Nat.zero_add]
section
variable {n:Nat} {G D:List Nat->Prop} {L:List (List Nat)} {K' r:List Nat} {rs:List (List Nat)} {c:nE} {l l':List nE}
theorem alX {p:Nat}(a:akH p)(h:p∣60):p=2∨p=3∨p=5:=by
 have l:=Nat.le_of_dvd om h;have: ∀q,q<61->q∣60->1<q->(∃d,d<q/\1<d/\d∣q)∨q=2∨q=3∨q=5:=by decide
 rcases this p om h a.1 with ⟨d,i,f,b⟩|h
 ·rcases a.2 d b with h|h<;>omega
 ·exact h
theorem fct (z:1<=n)(q:n<=6)(u:iX n G)(E:dW G L)(c:Ql n G L K' rs r)(t:Cm n G L K'){i:Nat}(hi:i+1<rs.length):
  rs[i].length*Cs (iY (rs[i+1].length/rs[i].length))=rs[i+1].length/\(∀x∈iY (rs[i+1].length/rs[i].length),nmE x)/\
  (((∀x y,RG L rs[i+1] x->RG L rs[i+1] y->RG L rs[i] (jE x y))/\ ∀x∈iY (rs[i+1].length/rs[i].length),x.1<60)∨
   ((∀N:List Nat->Prop,iX n N->(∀x,RG L rs[i] x->N x)->(∀x,N x->RG L rs[i+1] x)->(∀x y,RG L rs[i+1] x->RG L rs[i+1] y->N (jE x y))-> ∀x,RG L rs[i+1] x->N x)/\ ∃x∈iY (rs[i+1].length/rs[i].length),¬x.1<60)):=by
 have ch:=akX u E c t hi
 have j:=c.all _ (zG (show i<rs.length by omega))
 have A:=c.all _ (zG hi)
 have m:=UA E j
 have o:=UA E A
 have pos:0<rs[i].length:=Rk.ne j.dN
 rcases ch.two with h|h
 ·obtain⟨p,k,d,s,e,w⟩:=ch.comm m o h
  rw[jV,jV] at e
  have eq:rs[i+1].length/rs[i].length=p^k:=by rw[e,Nat.mul_div_cancel_left _ pos]
  have b:p∣60:=by
   obtain⟨x,a,v⟩:=w;exact Nat.dvd_trans v (aoP (ch.gM.cU a) q)
  rw[eq,anI d s]
  refine⟨by rw[aiN,e],λx a=>?_,.inl ⟨h,λx a=>?_⟩⟩
  ·rw[(List.mem_replicate.1 a).2]
   rcases alX d b with rfl|rfl|rfl
   ·exact .inl (by rw[apZ om])
   ·exact .inr (.inl (by rw[apZ om]))
   ·exact .inr (.inr (.inl (by rw[apZ om])))
  ·rw[(List.mem_replicate.1 a).2]
   show p<60
   rcases alX d b with rfl|rfl|rfl<;>omega
 ·have e:=ch.aqQ z q m o h
  rw[jV,jV] at e
  rcases e with e|e
  ·have eq:rs[i+1].length/rs[i].length=60:=by rw[e,Nat.mul_div_cancel_left _ pos]
   have f:iY 60= [(60, [65,53])]:=by decide+kernel
   rw[eq,f]
   exact⟨by rw[e];rfl,λx a=>by rw[List.mem_singleton.1 a];exact .inr (.inr (.inr (.inl rfl))),.inr ⟨h,_,List.mem_singleton.2 rfl,by decide⟩⟩
  ·have eq:rs[i+1].length/rs[i].length=360:=by rw[e,Nat.mul_div_cancel_left _ pos]
   have f:iY 360= [(360, [65,54])]:=by decide+kernel
   rw[eq,f]
   exact⟨by rw[e];rfl,λx a=>by rw[List.mem_singleton.1 a];exact .inr (.inr (.inr (.inr rfl))),.inr ⟨h,_,List.mem_singleton.2 rfl,by decide⟩⟩
theorem amF (m:1<=n)(j:n<=6)(b:iX n G)(E:dW G L)(c:Ql n G L K' rs r)(d:Cm n G L K'): ∀i,i<rs.length->
  Cs (mU ((rs.map List.length).take (i+1)))=(rs.getD i []).length/\(∀x∈mU ((rs.map List.length).take (i+1)),nmE x)
 |0,hi=>by
  rw[adH];refine⟨?_,λx a=>by cases a⟩;have h:=c.hd;rw[dD hi] at h;have e:rs.getD 0 []=Pz L λx=>x=bL n:=by rw[List.getD,dD hi,h];rfl
  rw[e];have k:=WA b E;have s:=UA E k;have: ∀x,RG L (Pz L λx=>x=bL n) x↔x=bL n:=λx=>((Dy L λx=>x=bL n).iff E (λx a=>by rw[a];exact b.one) x).symm
  have u:dW (RG L (Pz L λx=>x=bL n)) [bL n]:=⟨List.pairwise_singleton _ _,λx=>by rw[List.mem_singleton,this]⟩
  have:=congrArg List.length (s.uniq u);rw[jV] at this;rw[this];rfl
 |i+1,hi=>by
  obtain⟨v,p⟩:=amF m j b E c d i om;have f:=fct m j b E c d hi;have o:=Qr (rs.map List.length) i (by rw[jV];exact hi);rw[List.getElem_map,List.getElem_map] at o;have t:rs.getD i []=rs[i]:=by rw[List.getD,dD om];rfl
  have q:rs.getD (i+1) []=rs[i+1]:=by rw[List.getD,dD hi];rfl
  rw[show i+1+1=i+2 from rfl,o];refine⟨by rw[Pl,v,t,f.1,q],λx a=>(pH.1 a).elim (p x) (f.2.1 x)⟩
end
section
variable {n:Nat} {G D K:List Nat->Prop} {L:List (List Nat)} {K' r:List Nat} {rs:List (List Nat)} {c d:nE} {l l':List nE} {w:Bool}
theorem Rt (i:iX n G)(k:bC n G c.1 c.2)(s:uC n w c l): ∃d D,l[l.length- 1]? =some d/\aiU n G d D/\bC n (Kf n w c d) d.1 d.2/\(∀x,D x↔Kf n w c d x)/\(ajS n l=true↔ ∀x,D x->x=bL n):=by
 have y:=s.pos;have b:=dD (show l.length- 1<l.length by omega);obtain⟨D,m⟩:=akB i k s _ _ b;have a:=s.en _ b;obtain⟨t,_⟩:=m.nx (w:=w) i k a;have o:=m.uniq t;refine⟨_,D,b,m,a,λx=>by rw[←o],?_⟩
 have u:ajS n l=decide (kI l[l.length- 1].1 n 0=1):=by
  unfold ajS;rw[b]
 rw[u,Qf];obtain⟨E,e⟩:=dM m.dN m.isc;rw[←e];constructor
 ·intro h x v
  obtain⟨z,p⟩:=List.length_eq_one_iff.1 h;have j:=(E.mem x).2 v;have f:=(E.mem _).2 m.dN.one;rw[p,List.mem_singleton] at j f;rw[j,f]
 ·intro h
  have q:dW D [bL n]:=⟨List.pairwise_singleton _ _,λx=>by rw[List.mem_singleton];exact⟨λe=>by rw[e];exact m.dN.one,h x⟩⟩
  rw[E.uniq q];rfl
theorem apU (f:aiU n G d D)(t: ∀x,D x↔Ad n d.2 d.2 x){N M:List Nat->Prop}(v:iX n N)(j: ∀y g,N y->G g->N (cW y g))(k: ∀x,D x->M x)(s: ∀x y,M x->M y->N (jE x y)): ∀x,D x->N x:=λx u=>by
 refine NC.le ((t x).1 u) v ?_ ?_
 ·rintro a ⟨p,m,q,o,rfl⟩
  exact s _ _ (k _ (bV f.isc m)) (k _ (bV f.isc o))
 ·rintro y b i (h|h)
  ·exact j y b i (f.le b (bV f.isc h))
  ·exact j y b i (f.le b (bV f.isc h))
theorem aoT (t:iX n G)(E:dW G L)(N:bC n G c.1 c.2)(s:uC n false c l)(b:Ql n G L K' rs r)(J:r.length=L.length)
  (B: ∀i (hi:i+1<rs.length),∀x y,RG L rs[i+1] x->RG L rs[i+1] y->RG L rs[i] (jE x y)):ajS n l=true:=by
 obtain⟨d,D,P,m,_,u,f⟩:=Rt t N s
 rw[f]
 have p: ∀j,j<rs.length-> ∀x,D x->RG L (rs.getD (rs.length- 1-j) []) x:=by
  intro j
  induction j with
  |zero=>
   intro h x a;have e:=b.la;rw[Nat.sub_zero,List.getD,e];have k:=b.all r (AW e);exact (abY E (UA E k) k.le (by rw[jV];exact J) x).1 (m.le x a)
  |succ j o=>
   intro h;have hi:rs.length- 1-(j+1)+1<rs.length:=om
   have v:rs.getD (rs.length- 1-(j+1)) []=rs[rs.length- 1-(j+1)]:=by rw[List.getD,dD om];rfl
   have F:rs.getD (rs.length- 1-j) []=rs[rs.length- 1-(j+1)+1]:=by
    rw[show rs.length- 1-j=rs.length- 1-(j+1)+1 by omega,List.getD,dD hi];rfl
   have q:=b.all _ (zG (show rs.length- 1-(j+1)<rs.length by omega));rw[v];have o:=o om;rw[F] at o;exact apU m u q.dN (λy g z A=>q.nm y g z A) o (B _ hi)
 intro x a
 have O:0<rs.length:=(Ax.1 b.hd).1
 have:=p (rs.length- 1) om x a
 rw[Nat.sub_self] at this
 have h:=b.hd
 have e:rs.getD 0 []=Pz L λx=>x=bL n:=by rw[List.getD,h];rfl
 rw[e] at this
 exact ((Dy L λx=>x=bL n).iff E (λx a=>by rw[a];exact t.one) x).2 this
theorem anO (o:iX n G)(R:bC n G c.1 c.2)(s:uC n false c l){K M:List Nat->Prop}(ch:Chf n G K M)(pf: ∀N:List Nat->Prop,iX n N->(∀x,K x->N x)->(∀x,N x->M x)->(∀x y,M x->M y->N (jE x y))-> ∀x,M x->N x):ajS n l=false:=by
 have W: ∀(k:Nat) (d:nE),l[k]? =some d-> ∃D,aiU n G d D/\ ∀m,M m->lH D K m:=by
  intro k
  induction k with
  |zero=>
   intro d J;rw[s.hd] at J;cases J;exact⟨G,aiU.first o R,λm F=>⟨m,bL n,ch.lG m F,ch.gK.one,(bZ (ch.gM.cU F)).symm⟩⟩
  |succ k ih=>
   intro e he;have O:=(Ax.1 he).1;have h0:=dD (show k<l.length by omega);obtain⟨D,m,sp⟩:=ih _ h0;have st:=(s.st k _ _ h0 he).1;obtain⟨i,le⟩:=m.nx (w:=false) o R st;refine⟨_,i,?_⟩;have lK: ∀x,K x->G x:=λx t=>ch.lG x (ch.le x t)
   have A:=lH.dN o i.dN ch.gK i.le ch.nK
   have Z: ∀z,K z->lH (Kf n false c l[k]) K z:=λz hz=>⟨bL n,z,i.dN.one,hz,(mN (ch.gK.cU hz)).symm⟩
   have lS: ∀x,lH (Kf n false c l[k]) K x->G x:=λx ⟨q,j,p,hj,e⟩=>by rw[e];exact o.mul (i.le q p) (lK j hj)
   have nS: ∀y g,lH (Kf n false c l[k]) K y->G g->lH (Kf n false c l[k]) K (cW y g):=λy g ⟨q,j,p,hj,e⟩ hg=>⟨cW q g,cW j g,i.nm q g p hg,ch.nK j g hj hg,by rw[e,Ef (i.dN.cU p) (ch.gK.cU hj) (o.cU hg)]⟩
   have gN:iX n (λx=>lH (Kf n false c l[k]) K x/\M x):=⟨λh=>A.cU h.1,⟨A.one,ch.gM.one⟩,λa b=>⟨A.mul a.1 b.1,ch.gM.mul a.2 b.2⟩,λa=>⟨A.inv a.1,ch.gM.inv a.2⟩⟩
   have:=pf _ gN (λx t=>⟨Z x t,ch.le x t⟩) (λx h=>h.2) λa b Q U=>⟨by
    obtain⟨p1,k1,v,Y,rfl⟩:=sp a Q;obtain⟨p2,k2,B,P,rfl⟩:=sp b U;have u:Kf n false c l[k] (jE p1 p2):=Ad.all m.dN m.dN m.isc m.isc v B
    exact ajY o A lS ch.gK lK ch.nK Z nS (m.le p1 v) (m.le p2 B) Y P ⟨_,bL n,u,ch.gK.one,(bZ (i.dN.cU u)).symm⟩,by
    unfold jE
    exact ch.gM.mul (ch.gM.mul (ch.gM.inv Q) (ch.gM.inv U)) (ch.gM.mul Q U)⟩
   exact λm F=>(this m F).1
 obtain⟨d,D,J,m,_,_,f⟩:=Rt o R s;refine Bool.eq_false_iff.2 λh=>?_
 obtain⟨D',i,sp⟩:=W _ d J;obtain rfl:=i.uniq m;obtain⟨x,t,nx⟩:=ch.ne;obtain⟨q,k,p,O,e⟩:=sp x t;rw[f.1 h q p,mN (ch.gK.cU O)] at e;exact nx (by rw[e];exact O)
theorem anH (b:iX n G)(j:bC n G c.1 c.2)(s:uC n false c l)(u:uC n true c l')(h:ajS n l'=true):ajS n l=true:=by
 obtain⟨d,D,P,m,_,z,f⟩:=Rt b j s;obtain⟨B,O,p,F,_,_,J⟩:=Rt b j u;rw[f]
 have q: ∀(k:Nat) (e:nE),l'[k]? =some e-> ∃K,aiU n G e K/\ ∀x,D x->K x:=by
  intro k
  induction k with
  |zero=>
   intro e i;rw[u.hd] at i;cases i;exact⟨G,aiU.first b j,m.le⟩
  |succ k ih=>
   intro e i;have N:=(Ax.1 i).1;have v:=dD (show k<l'.length by omega);obtain⟨K,a,le⟩:=ih _ v;obtain⟨o,_⟩:=a.nx (w:=true) b j (u.st k _ _ v i).1;exact⟨_,o,apU m z o.dN o.nm le λx y t A=>Ad.all a.dN b a.isc j t (a.le y A)⟩
 obtain⟨K,a,le⟩:=q _ B p;obtain rfl:=a.uniq F;exact λx t=>J.1 h x (le x t)
theorem aoE (v:1<=n)(u:n<=6)(m:iX n G)(E:dW G L)(A:bC n G c.1 c.2)(s:uC n false c l)(J:Ky n G L K' rs)(p:Cm n G L K'):ajS n l=(mU (rs.map List.length)).all λx=>decide (x.1<60):=by
 obtain⟨r,f,N⟩:=J.ex;have P:0<rs.length:=(Ax.1 f.hd).1
 have mem: ∀i,i<rs.length-> ∀x,x∈mU ((rs.map List.length).take (i+1))↔ ∃j,∃b:j+1<rs.length,j<i/\x∈iY (rs[j+1].length/rs[j].length):=by
  intro i
  induction i with
  |zero=>exact λ_ x=>⟨λh=>(by rw[adH] at h;cases h),λ⟨j,_,h,_⟩=>om⟩
  |succ i ih=>
   intro hi x;have q:=Qr (rs.map List.length) i (by rw[jV];exact hi);rw[List.getElem_map,List.getElem_map] at q;rw[show i+1+1=i+2 from rfl,q,pH,ih om];constructor
   ·rintro (⟨j,b,t,k⟩|h)
    ·exact⟨j,b,om,k⟩
    ·exact⟨i,hi,om,h⟩
   ·rintro⟨j,b,t,k⟩
    rcases Nat.lt_succ_iff_lt_or_eq.1 t with h|rfl
    ·exact .inl ⟨j,b,h,k⟩
    ·exact .inr k
 have a:=mem (rs.length- 1) om;rw[show rs.length- 1+1=(rs.map List.length).length by rw[jV];omega,List.take_length] at a
 by_cases all: ∀i (hi:i+1<rs.length),∀x y,RG L rs[i+1] x->RG L rs[i+1] y->RG L rs[i] (jE x y)
 ·rw[aoT m E A s f N all]
  refine (Kv.2 λx o=>decide_eq_true ?_).symm;obtain⟨j,b,_,o⟩:=(a x).1 o;rcases (fct v u m E f p b).2.2 with h|h
  ·exact h.2 x o
  ·exfalso
   have ch:=akX m E f p b;have B:=f.all _ (zG (show j<rs.length by omega));obtain⟨z,F,O⟩:=ch.ne;exact O (h.1 _ B.dN (λx h=>h) ch.le (all j b) z F)
 ·obtain⟨i,all⟩:=Classical.not_forall.1 all
  obtain⟨hi,all⟩:=Classical.not_forall.1 all;rcases (fct v u m E f p hi).2.2 with h|⟨h,x,o,nx⟩
  ·exact absurd h.1 all
  ·rw[anO m A s (akX m E f p hi) h]
   refine (Bool.eq_false_iff.2 λk=>nx ?_).symm;exact of_decide_eq_true (Kv.1 k x ((a x).2 ⟨i,hi,Nat.lt_sub_of_add_lt hi,o⟩))
end
theorem anJ {l:List (Nat×List Nat)}(h: ∀x∈l,nmE x):0<Cs l:=by
 induction l with
 |nil=>exact Nat.one_pos
 |cons x l ih=>
  have a:=h x Ab;have:0<x.1:=by rcases a with rfl|rfl|rfl|rfl|rfl<;>decide
  exact Nat.mul_pos this (ih λy b=>h y (Cu _ b))
theorem ajR (u:V)(l:List Int)(h:H)(hu:SI h u l)(hl:(l.length:Int)<=2^63- 1):
  Ev T 8 [u] h (λv h'=>v= .bool true/\Fr h h'):=by
 refine cV Lx rfl ?_
 simp(disch:=omega)only[go_sem,Lx,aD]
 refine (akT h).mono ?_
 rintro _ h1 ⟨rfl,f1⟩
 simp(disch:=omega)only[go_sem]
 refine (akY u l 6 h1 (hu.mono f1) om om om).mono ?_
 rintro _ h2 ⟨n,vg,o,rfl,W,b5,d2,gP,sg,f2⟩
 obtain⟨B,hB⟩: ∃B,h2.next=B:=⟨_,rfl⟩
 obtain⟨h3,e3,n3,g3,o3,f3⟩:=dF hB [.int .i64 0,.aE]
 obtain⟨h4,e4,n4,g4,o4⟩:=pJ h3 B [.int .i64 (n:Int),vg]
 have a4:Fr h2 h4:=⟨om,λid c2=>by rw[o4 id om,o3 id om]⟩
 have wg:vg.one=true:=by obtain⟨ws,s,_⟩:=sg;exact s.cK.2.1
 have c6:=(f1.trans f2).trans a4
 simp(disch:=omega)only[go_sem,hB,e3,Go.Ay.Gv h3 B 0 (v:= .int .i64 (n:Int)) (u:=vg) rfl wg,g3,TJ,e4,PB g4]
 refine (anL vg n o h4 W om om (sg.mono a4) gP).mono ?_
 rintro _ h6 ⟨vc,O,R,rfl,b8,f6⟩
 obtain⟨u1,w1,rfl,a1,b1,_,_⟩:=b8.sl
 obtain⟨C,hC⟩: ∃C,h6.next=C:=⟨_,rfl⟩
 obtain⟨h7,e7,n7,g7,o7,f7⟩:=dF hC [.int .i64 0,.aE,.aE]
 obtain⟨h8,e8,n8,g8,o8⟩:=pJ h7 C [.int .i64 (n:Int),u1,w1]
 have b6:Fr h6 h8:=⟨om,λid c2=>by rw[o8 id om,o7 id om]⟩
 have k:GC (λ_=>False) h8 (.agg [.int .i64 (n:Int),u1,w1]) n O R (bX n (· ∈o)):=(b8.Fo λ_ _ h=>h.elim).mono b6
 obtain⟨G,c7⟩: ∃G,bX n (· ∈o)=G:=⟨_,rfl⟩
 rw[c7] at k
 have hG:=k.dN
 have hI:=k.isc
 have b0:=c6.trans (f6.trans b6)
 have rC: ∀b,Fr h8 b->b.row C 0 3=some [.int .i64 (n:Int),u1,w1]:=λb f=>aI (by rw[f.get C om];exact g8)
 simp(disch:=omega)only[go_sem,hC,e7,bW h7 C 0 (v:= .int .i64 (n:Int)) (u:=u1) (w:=w1) rfl a1 b1,g7,cF,e8,rC h8 (Fr.refl _)]
 refine (CR _ n O R G h8 k).mono ?_
 rintro _ h9 ⟨v5,L,K,t,rfl,eL,ik,cl,s5,c1,f9⟩
 simp(disch:=omega)only[go_sem,rC h9 f9]
 refine (aiX _ n O R G h9 (k.mono f9)).mono ?_
 rintro _ b3 ⟨ld,qd,rfl,a8⟩
 have U:=f9.trans a8
 simp(disch:=omega)only[go_sem,rC b3 U]
 refine (PS _ n O R G b3 (k.mono U)).mono ?_
 rintro _ a9 ⟨lw,qw,rfl,b4⟩
 have c3:=U.trans b4
 have E:=(dM k.dN k.isc).1
 have b9:=(dM k.dN k.isc).2
 rw[eL] at E b9
 have sz:=jH k
 obtain⟨rl,cb,c5⟩:=cl.ex
 have h0:0<t.length:=(Ax.1 cb.hd).1
 have fa:=amF W b5 hG E cb ik (t.length- 1) om
 rw[show t.length- 1+1=(t.map List.length).length by rw[jV];omega,List.take_length] at fa
 have J:=aoE W b5 hG E (c:=(O,R)) hI qd cl ik
 have r:=anH hG (c:=(O,R)) hI qd qw
 obtain⟨sl,a0⟩: ∃sl,ajS n ld=sl:=⟨_,rfl⟩
 obtain⟨nl,a5⟩: ∃nl,ajS n lw=nl:=⟨_,rfl⟩
 rw[a0] at J r
 rw[a5] at r
 have c9:t.getD (t.length- 1) []=rl:=by rw[List.getD,cb.la];rfl
 rw[c9,c5,b9] at fa
 obtain⟨a,a7⟩: ∃a,Lr (mU (t.map List.length))=a:=⟨_,rfl⟩
 have pm:=aoM (mU (t.map List.length))
 rw[a7] at pm
 have b7: ∀x∈a,nmE x:=λx N=>fa.2 x (pm.mem_iff.1 N)
 have pf:Cs a=kI O n 0:=(alA pm).trans fa.1
 have af:a.all (λx=>decide (x.1<60))=sl:=by
  rw[J,Py,Kv,Kv];exact⟨λh x N=>h x (pm.mem_iff.2 N),λh x N=>h x (pm.mem_iff.1 N)⟩
 have en:akA t=a.map Prod.snd:=by unfold akA;rw[a7]
 rw[en,List.map_map] at s5
 rw[en,jV] at c1
 have lm:(a.map (V.str∘Prod.snd)).length=a.length*1:=by rw[jV];omega
 have Z:bT v5=some (.int .i64 (a.length:Int)):=by unfold bT;rw[SV.len s5 lm om];rfl
 obtain⟨c4,c8,q,a3,c0⟩:=SV.shape s5 a.length lm om
 have a6:=a8.trans b4
 have d0:decide ((0:Int)≠0)=false:=rfl
 rw[a0,a5]
 simp(disch:=omega)only[go_sem,d0,Ag]
 refine bJ (λvs b=>(∃g:Nat->V,vs= [g 0,g 1,.bool true,g 3,.ptr C 0,g 5,g 6,.bool sl,g 8,.bool nl,g 10,.int .i64 (Cs a:Int),.bool sl,g 13,g 14,g 15,g 16,g 17,g 18,g 19,g 20,g 21])/\Fr a9 b) ?_ ?_
 ·refine aH (λk' vs b=> ∃(i:Nat),(∃g:Nat->V,vs= [g 0,g 1,.bool true,g 3,.ptr C 0,v5,g 6,.bool sl,g 8,.bool nl,g 10,.int .i64 (Cs (a.take i):Int),.bool ((a.take i).all λx=>decide (x.1<60)),.int .i64 (i:Int),g 14,g 15,g 16,g 17,g 18,g 19,g 20,g 21])/\i<=a.length/\Fr a9 b/\k'=a.length-i) a.length
   ⟨0,aB rfl,iJ _,Fr.refl _,rfl⟩ ?_
  rintro k' a2 b ⟨i,⟨g,rfl⟩,hi,F,rfl⟩
  by_cases b2:(i:Int)<(a.length:Int)
  case neg=>
   have Y:decide ((i:Int)<(a.length:Int))=false:=decide_eq_false b2;obtain rfl:i=a.length:=om
   rw[List.take_length,af];simp(disch:=omega)only[go_sem,Z,Y];exact⟨aB rfl,F⟩
  have Y:decide ((i:Int)<(a.length:Int))=true:=decide_eq_true b2
  have Q:i<a.length:=om
  have ci:b.cell c4 (c8+i)=some (.str a[i].2):=by
   rw[(a6.trans F).cell (a3 om),c0 i om,Ol,dD Q];rfl
  have et:a.take (i+1)=a.take i++ [a[i]]:=List.take_succ_eq_append_getElem Q
  have d:Cs (a.take (i+1))=Cs (a.take i)*a[i].1:=by
   rw[et,Pl];show _*(a[i].1*1)=_;rw[uW]
  have j:(a.take (i+1)).all (λx=>decide (x.1<60))=((a.take i).all (λx=>decide (x.1<60))&&decide (a[i].1<60)):=by
   rw[et,List.all_append];simp
  have m:Cs (a.take (i+1))<=5040:=by
   have e:Cs a=Cs (a.take (i+1))*Cs (a.drop (i+1)):=by rw[←Pl,List.take_append_drop]
   have p:=anJ (l:=a.drop (i+1)) λx N=>b7 x (List.mem_of_mem_drop N)
   rw[pf] at e;have:=Nat.le_mul_of_pos_right (Cs (a.take (i+1))) p;omega
  have nm:=b7 _ (zG Q)
  have ei:(i:Int)+1=((i+1:Nat):Int):=om
  generalize a[i]=x at ci d j nm
  obtain⟨P,hP⟩: ∃P,Cs (a.take i)=P:=⟨_,rfl⟩
  obtain⟨A,hA⟩: ∃A,(a.take i).all (λx=>decide (x.1<60))=A:=⟨_,rfl⟩
  rw[hP] at d ⊢
  rw[hA] at j ⊢
  rw[d] at m
  rcases nm with rfl|rfl|rfl|rfl|rfl
  ·have m:P*2<=5040:=m
   have y:(P:Int)*2=((P*2:Nat):Int):=om
   have d:Cs (a.take (i+1))=P*2:=d
   have j:(a.take (i+1)).all (λx=>decide (x.1<60))=A:=by rw[j];exact Bool.and_true A
   simp(disch:=omega)only[go_sem,Z,Y,q.ixa,ci,XZ,show aeM b false (.str [67,50]) (.str [67,50])=some (.bool true,b) from rfl,y,ei]
   exact⟨a.length-(i+1),om,i+1,by rw[d,j];exact aB rfl,om,F,rfl⟩
  ·have m:P*3<=5040:=m
   have y:(P:Int)*3=((P*3:Nat):Int):=om
   have d:Cs (a.take (i+1))=P*3:=d
   have j:(a.take (i+1)).all (λx=>decide (x.1<60))=A:=by rw[j];exact Bool.and_true A
   simp(disch:=omega)only[go_sem,Z,Y,q.ixa,ci,XZ,show aeM b false (.str [67,51]) (.str [67,50])=some (.bool false,b) from rfl,show aeM b false (.str [67,51]) (.str [67,51])=some (.bool true,b) from rfl,y,ei]
   exact⟨a.length-(i+1),om,i+1,by rw[d,j];exact aB rfl,om,F,rfl⟩
  ·have m:P*5<=5040:=m
   have y:(P:Int)*5=((P*5:Nat):Int):=om
   have d:Cs (a.take (i+1))=P*5:=d
   have j:(a.take (i+1)).all (λx=>decide (x.1<60))=A:=by rw[j];exact Bool.and_true A
   simp(disch:=omega)only[go_sem,Z,Y,q.ixa,ci,XZ,show aeM b false (.str [67,53]) (.str [67,50])=some (.bool false,b) from rfl,show aeM b false (.str [67,53]) (.str [67,51])=some (.bool false,b) from rfl,show aeM b false (.str [67,53]) (.str [67,53])=some (.bool true,b) from rfl,y,ei]
   exact⟨a.length-(i+1),om,i+1,by rw[d,j];exact aB rfl,om,F,rfl⟩
  ·have m:P*60<=5040:=m
   have y:(P:Int)*60=((P*60:Nat):Int):=om
   have d:Cs (a.take (i+1))=P*60:=d
   have j:(a.take (i+1)).all (λx=>decide (x.1<60))=false:=by rw[j];exact Bool.and_false A
   simp(disch:=omega)only[go_sem,Z,Y,q.ixa,ci,XZ,show aeM b false (.str [65,53]) (.str [67,50])=some (.bool false,b) from rfl,show aeM b false (.str [65,53]) (.str [67,51])=some (.bool false,b) from rfl,show aeM b false (.str [65,53]) (.str [67,53])=some (.bool false,b) from rfl,show aeM b false (.str [65,53]) (.str [65,53])=some (.bool true,b) from rfl,y,ei]
   exact⟨a.length-(i+1),om,i+1,by rw[d,j];exact aB rfl,om,F,rfl⟩
  ·have m:P*360<=5040:=m
   have y:(P:Int)*360=((P*360:Nat):Int):=om
   have d:Cs (a.take (i+1))=P*360:=d
   have j:(a.take (i+1)).all (λx=>decide (x.1<60))=false:=by rw[j];exact Bool.and_false A
   simp(disch:=omega)only[go_sem,Z,Y,q.ixa,ci,XZ,show aeM b false (.str [65,54]) (.str [67,50])=some (.bool false,b) from rfl,show aeM b false (.str [65,54]) (.str [67,51])=some (.bool false,b) from rfl,show aeM b false (.str [65,54]) (.str [67,53])=some (.bool false,b) from rfl,show aeM b false (.str [65,54]) (.str [65,53])=some (.bool false,b) from rfl,show aeM b false (.str [65,54]) (.str [65,54])=some (.bool true,b) from rfl,y,ei]
   exact⟨a.length-(i+1),om,i+1,by rw[d,j];exact aB rfl,om,F,rfl⟩
 rintro a2 b ⟨⟨g,rfl⟩,F⟩
 have z:=c3.trans F
 rw[pf]
 simp(disch:=omega)only[go_sem,Ag,rC b z]
 refine (ajQ _ n O R G b (k.mono z)).mono ?_
 rintro _ N ⟨rfl,fx⟩
 cases nl with
 |false=>
  simp(disch:=omega)only[go_sem,Ag,eq_self,decide_true,beq_self_eq_true];exact b0.trans (z.trans fx)
 |true=>
  have:=r rfl;subst this;simp(disch:=omega)only[go_sem,Ag,eq_self,decide_true,beq_self_eq_true];exact b0.trans (z.trans fx)
end Go.Proofs.YtcdbmkidaecdiaaGreat
