/- Layer 8: products, inverses and the identity of package chain. -/
import Derived.Test.YtcdbmkidaecdiaaGreatAy37
import Derived.Test.YtcdbmkidaecdiaaGreatC16code
namespace Go.Proofs.YtcdbmkidaecdiaaGreat
open Go Go.Ay Go.Pm
set_option maxRecDepth 100000
theorem tY (h:H)(n:Nat)(a:n<=100000):Jz h 1 8 [aC 0] (aC n) (aC n)=some (.sl h.next 0 n (.kn n),h.new (.cells false (rc n λ_=> aC 0))):=by
 rw[uM om (Int.le_refl _) om om,DK,tW,Jk,show ints (List.replicate n 0)=rc n λ_=> aC 0 from (Lq (by simp [aP]) λi hi=>by simp [ints,hi]).symm]
set_option maxHeartbeats 8000000 in
theorem nZ {g:Nat}(B:T g=some oM.fn)(u w:V)(a b:List Nat)(h:H)(hn:a.length<=1000)(L:SI h u (zi a))(W:SI h w (zi b))(hr: ∀i,i<a.length->a.getD i 0<b.length):
  Ev T g [u,w] h (λv h'=>Yz h h' v (aM a b)):=by
 refine mX B rfl ?_
 have O:=L.lens
 rw[aS] at O
 obtain⟨id,off,U,p,P⟩:=L.open
 rw[aS] at U p P
 obtain⟨z,o,n,f,q⟩:=W.open
 rw[aS] at n f q
 simp(disch:=omega)only[go_sem,oM,aE,O,tY h a.length om]
 have x:Fr h (h.new (.cells false (rc a.length λ_=> aC 0))):=(Fr.refl h).new _
 have l:(h.new (.cells false (rc a.length λ_=> aC 0))).get h.next=some (.cells false (rc a.length λ_=> aC 0)):=H.aL ..
 have m:(h.new (.cells false (rc a.length λ_=> aC 0))).next=h.next+1:=H.aW ..
 generalize h.new (.cells false (rc a.length λ_=> aC 0))=h1 at*
 obtain⟨S,s⟩:=exI h.next
 rw[s] at l m
 rw[s]
 refine aI (λN d A=> ∃(i:Nat),(∃j:Nat->V,d= [u,w,.aD,.sl S 0 a.length (.kn a.length),j 4,j 5,u,aC (a.length:Int),aC i,j 9])/\i<=a.length/\
   A.get S=some (.cells false (rc a.length λj=>if j<i then aC ((aM a b).getD j 0:Nat) else aC 0))/\A.next=S+1/\Fr h A/\N=a.length-i) a.length
  ⟨0,aB rfl,iB _,by rw[l];rfl,m,x,rfl⟩ ?_
 clear l x m
 rintro N d G ⟨i,⟨jk,rfl⟩,hi,K,J,F,rfl⟩
 simp(disch:=omega)only[go_sem]
 by_cases t:(i:Int)<(a.length:Int)
 ·rw[cI t]
  have c:i<a.length:=om
  have ci:G.cell id (off+i)=some (aC (a.getD i 0:Nat)):=by rw[F.cell (p om),P i c];congr 2;simp [zi,c]
  have r:=hr i c
  generalize Y:a.getD i 0=k at ci r
  have Z:G.cell z (o+k)=some (aC (b.getD k 0:Nat)):=by rw[F.cell (f om),q k r];congr 2;simp [zi,r]
  have e1:decide ((i:Int)<0)=false:=bI om
  have y:decide ((a.length:Int)<=(i:Int))=false:=bI om
  have R:=bT (vs:=rc a.length λj=>if j<i then aC ((aM a b).getD j 0:Nat) else aC 0) (off:=i) (by rw[iQ];exact c) G S (aC (b.getD k 0:Nat))
  rw[lH] at R
  simp(disch:=omega)only[go_sem,U.ixa,n.ixa,ci,Z,e1,y,K,R]
  rw[fJ i]
  refine⟨a.length-(i+1),om,i+1,aB rfl,om,?_,J,F.set om _,rfl⟩
  congr 2
  refine dJ λj Q=>?_
  by_cases e:j=i
  ·subst e
   rw[bJ rfl,bJ om,dE c,Y]
  ·rw[bU e]
   by_cases y:j<i
   ·rw[bJ y,bJ om]
   ·rw[bU y,bU om]
 rw[bI t]
 obtain rfl:i=a.length:=om
 simp(disch:=omega)only[go_sem]
 refine⟨by rw[fQ,s],?_,by rw[s];exact J,F⟩
 rw[s,K]
 congr 2
 rw[←Sq,fQ]
 exact dJ λj Q=>by rw[bJ Q]
set_option maxHeartbeats 8000000 in
theorem Df {g:Nat}(x:T g=some Cj.fn)(u:V)(n:Nat)(a:List Nat)(h:H)(hn:n<=1000)(A:aY n a)(B:SI h u (zi a)):
  Ev T g [u] h (λv h'=>Yz h h' v (bZ a)):=by
 refine mX x rfl ?_
 have l:=A.len
 have J:=B.lens
 rw[aS,l] at J
 obtain⟨id,off,O,m,K⟩:=B.open
 rw[aS,l] at O m K
 simp(disch:=omega)only[go_sem,Cj,aE,J,tY h n om]
 have q:Fr h (h.new (.cells false (rc n λ_=> aC 0))):=(Fr.refl h).new _
 have d:(h.new (.cells false (rc n λ_=> aC 0))).get h.next=some (.cells false (rc n λ_=> aC 0)):=H.aL ..
 have f:(h.new (.cells false (rc n λ_=> aC 0))).next=h.next+1:=H.aW ..
 generalize h.new (.cells false (rc n λ_=> aC 0))=Y at*
 obtain⟨S,o⟩:=exI h.next
 rw[o] at d f
 rw[o]
 refine aI (λG c w=> ∃(i:Nat),(∃j:Nat->V,c= [u,.aD,.sl S 0 n (.kn n),j 3,j 4,u,aC n,aC i,j 8])/\i<=n/\
   w.get S=some (.cells false (rc n λj=>if a.idxOf j<i then aC (a.idxOf j:Nat) else aC 0))/\w.next=S+1/\Fr h w/\G=n-i) n
  ⟨0,aB rfl,iB _,by rw[d];rfl,f,q,rfl⟩ ?_
 clear d q f
 rintro G c P ⟨i,⟨Z,rfl⟩,hi,z,y,F,rfl⟩
 simp(disch:=omega)only[go_sem]
 by_cases p:(i:Int)<(n:Int)
 ·rw[cI p]
  have b:i<n:=om
  have ci:P.cell id (off+i)=some (aC (a.getD i 0:Nat)):=by rw[F.cell (m om),K i b];congr 2;simp [zi,l,b]
  have r:=A.fX b
  have N:a.idxOf (a.getD i 0)=i:=A.inj (A.idx r).1 b (A.idx r).2
  generalize Q:a.getD i 0=k at ci r N
  have R:decide ((k:Int)<0)=false:=bI om
  have t:decide ((n:Int)<=(k:Int))=false:=bI om
  have L:=bT (vs:=rc n λj=>if a.idxOf j<i then aC (a.idxOf j:Nat) else aC 0) (off:=k) (by rw[iQ];exact r) P S (aC i)
  rw[lH] at L
  simp(disch:=omega)only[go_sem,O.ixa,ci,R,t,z,L]
  rw[fJ i]
  refine⟨n-(i+1),om,i+1,aB rfl,om,?_,y,F.set om _,rfl⟩
  congr 2
  refine dJ λj s=>?_
  by_cases e:j=k
  ·rw[bJ e,e,N,bJ om]
  ·rw[bU e]
   have U:a.idxOf j≠i:=λW=>e (by rw[←(A.idx s).2,W,Q])
   by_cases t:a.idxOf j<i
   ·rw[bJ t,bJ om]
   ·rw[bU t,bU om]
 rw[bI p]
 obtain rfl:i=n:=om
 simp(disch:=omega)only[go_sem]
 refine⟨by rw[jU,l,o],?_,by rw[o];exact y,F⟩
 rw[o,z]
 congr 2
 rw[←Sq,jU,l]
 exact dJ λj s=>by rw[bJ (A.idx s).1,zL (by rw[l];exact s)]
set_option maxHeartbeats 8000000 in
theorem Uk {g:Nat}(p:T g=some wG.fn)(n:Nat)(h:H)(A:n<=1000):
  Ev T g [aC n] h (λv h'=>Yz h h' v (aX n)):=by
 refine mX p rfl ?_
 simp(disch:=omega)only[go_sem,wG,aE,tY h n om]
 have k:Fr h (h.new (.cells false (rc n λ_=> aC 0))):=(Fr.refl h).new _
 have b:(h.new (.cells false (rc n λ_=> aC 0))).get h.next=some (.cells false (rc n λ_=> aC 0)):=H.aL ..
 have c:(h.new (.cells false (rc n λ_=> aC 0))).next=h.next+1:=H.aW ..
 generalize h.new (.cells false (rc n λ_=> aC 0))=y at*
 obtain⟨S,d⟩:=exI h.next
 rw[d] at b c
 rw[d]
 refine aI (λu a o=> ∃(i:Nat),(∃j:Nat->V,a= [aC n,.aD,.sl S 0 n (.kn n),j 3,aC n,aC i,j 6])/\i<=n/\
   o.get S=some (.cells false (rc n λj=>if j<i then aC (j:Nat) else aC 0))/\o.next=S+1/\Fr h o/\u=n-i) n
  ⟨0,aB rfl,iB _,by rw[b];rfl,c,k,rfl⟩ ?_
 clear b k c
 rintro u a w ⟨i,⟨z,rfl⟩,hi,t,r,F,rfl⟩
 simp(disch:=omega)only[go_sem]
 by_cases f:(i:Int)<(n:Int)
 ·rw[cI f]
  have m:i<n:=om
  have x:decide ((i:Int)<0)=false:=bI om
  have l:decide ((n:Int)<=(i:Int))=false:=bI om
  have s:=bT (vs:=rc n λj=>if j<i then aC (j:Nat) else aC 0) (off:=i) (by rw[iQ];exact m) w S (aC i)
  rw[lH] at s
  simp(disch:=omega)only[go_sem,x,l,t,s]
  rw[fJ i]
  refine⟨n-(i+1),om,i+1,aB rfl,om,?_,r,F.set om _,rfl⟩
  congr 2
  refine dJ λj q=>?_
  by_cases e:j=i
  ·rw[bJ e,bJ om,e]
  ·rw[bU e]
   by_cases l:j<i
   ·rw[bJ l,bJ om]
   ·rw[bU l,bU om]
 rw[bI f]
 obtain rfl:i=n:=om
 simp(disch:=omega)only[go_sem]
 refine⟨by rw[iH,d],?_,by rw[d];exact r,F⟩
 rw[d,t]
 congr 2
 rw[←Sq,iH]
 exact dJ λj q=>by rw[bJ q,fM q]
theorem AU (u w:V)(a b:List Nat)(h:H)(c:a.length<=1000)(j:SI h u (zi a))(d:SI h w (zi b))(f: ∀i,i<a.length->a.getD i 0<b.length):
  Ev T 184 [u,w] h (λv h'=>Yz h h' v (aM a b)):=nZ xW.ok u w a b h c j d f
end Go.Proofs.YtcdbmkidaecdiaaGreat
