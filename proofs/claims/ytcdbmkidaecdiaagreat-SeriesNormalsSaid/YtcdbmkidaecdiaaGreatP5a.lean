/- Layer 8: products, inverses and the identity of package chain. -/
import Derived.Test.YtcdbmkidaecdiaaGreatAy37
import Derived.Test.YtcdbmkidaecdiaaGreatC16code
namespace Go.Proofs.YtcdbmkidaecdiaaGreat
open Go Go.Ay Go.Pm
set_option maxRecDepth 100000
theorem tY (h:H)(n:Nat)(a:n<=100000):Jz h 1 8 [aC 0] (aC n) (aC n)=some (.sl h.next 0 n (.kn n),h.new (.cells false (rc n λ_=> aC 0))):=by
 rw[uM om (Int.le_refl _) om om,DK,tW,Jk,show ints (List.replicate n 0)=rc n λ_=> aC 0 from (Lq (by simp [aP]) λi hi=>by simp [ints,hi]).symm]
set_option maxHeartbeats 8000000 in
theorem nZ {g:Nat}(G:T g=some gE.fn)(u w:V)(a b:List Nat)(h:H)(hn:a.length<=1000)(P:SI h u (zi a))(W:SI h w (zi b))(Y: ∀i,i<a.length->a.getD i 0<b.length):
  Ev T g [u,w] h (λv h'=>Yz h h' v (aM a b)):=by
 refine mX G rfl ?_
 have K:=P.lens
 rw[aS] at K
 obtain⟨id,off,R,q,N⟩:=P.open
 rw[aS] at R q N
 obtain⟨B,o,x,d,t⟩:=W.open
 rw[aS] at x d t
 simp(disch:=omega)only[go_sem,gE,aE,K,tY h a.length om]
 have n:Fr h (h.new (.cells false (rc a.length λ_=> aC 0))):=(Fr.refl h).new _
 have m:(h.new (.cells false (rc a.length λ_=> aC 0))).get h.next=some (.cells false (rc a.length λ_=> aC 0)):=H.aL ..
 have l:(h.new (.cells false (rc a.length λ_=> aC 0))).next=h.next+1:=H.aW ..
 generalize h.new (.cells false (rc a.length λ_=> aC 0))=h1 at*
 obtain⟨S,p⟩:=exI h.next
 rw[p] at m l
 rw[p]
 refine aI (λU f z=> ∃(i:Nat),(∃j:Nat->V,f= [u,w,.aD,.sl S 0 a.length (.kn a.length),j 4,j 5,u,aC (a.length:Int),aC i,j 9])/\i<=a.length/\
   z.get S=some (.cells false (rc a.length λj=>if j<i then aC ((aM a b).getD j 0:Nat) else aC 0))/\z.next=S+1/\Fr h z/\U=a.length-i) a.length
  ⟨0,aB rfl,iB _,by rw[m];rfl,l,n,rfl⟩ ?_
 clear m n l
 rintro U f A ⟨i,⟨jk,rfl⟩,hi,Q,O,F,rfl⟩
 simp(disch:=omega)only[go_sem]
 by_cases s:(i:Int)<(a.length:Int)
 ·rw[cI s]
  have c:i<a.length:=om
  have ci:A.cell id (off+i)=some (aC (a.getD i 0:Nat)):=by rw[F.cell (q om),N i c];congr 2;simp [zi,c]
  have r:=Y i c
  generalize hk:a.getD i 0=k at ci r
  have Z:A.cell B (o+k)=some (aC (b.getD k 0:Nat)):=by rw[F.cell (d om),t k r];congr 2;simp [zi,r]
  have e1:decide ((i:Int)<0)=false:=bI om
  have y:decide ((a.length:Int)<=(i:Int))=false:=bI om
  have L:=bT (vs:=rc a.length λj=>if j<i then aC ((aM a b).getD j 0:Nat) else aC 0) (off:=i) (by rw[iQ];exact c) A S (aC (b.getD k 0:Nat))
  rw[lH] at L
  simp(disch:=omega)only[go_sem,R.ixa,x.ixa,ci,Z,e1,y,Q,L]
  rw[fJ i]
  refine⟨a.length-(i+1),om,i+1,aB rfl,om,?_,O,F.set om _,rfl⟩
  congr 2
  refine dJ λj J=>?_
  by_cases e:j=i
  ·subst e
   rw[bJ rfl,bJ om,dE c,hk]
  ·rw[bU e]
   by_cases y:j<i
   ·rw[bJ y,bJ om]
   ·rw[bU y,bU om]
 rw[bI s]
 obtain rfl:i=a.length:=om
 simp(disch:=omega)only[go_sem]
 refine⟨by rw[fQ,p],?_,by rw[p];exact O,F⟩
 rw[p,Q]
 congr 2
 rw[←Sq,fQ]
 exact dJ λj J=>by rw[bJ J]
set_option maxHeartbeats 8000000 in
theorem Df {g:Nat}(x:T g=some Cj.fn)(u:V)(n:Nat)(a:List Nat)(h:H)(Z:n<=1000)(A:aY n a)(L:SI h u (zi a)):
  Ev T g [u] h (λv h'=>Yz h h' v (bZ a)):=by
 refine mX x rfl ?_
 have l:=A.len
 have B:=L.lens
 rw[aS,l] at B
 obtain⟨id,off,O,p,J⟩:=L.open
 rw[aS,l] at O p J
 simp(disch:=omega)only[go_sem,Cj,aE,B,tY h n om]
 have m:Fr h (h.new (.cells false (rc n λ_=> aC 0))):=(Fr.refl h).new _
 have f:(h.new (.cells false (rc n λ_=> aC 0))).get h.next=some (.cells false (rc n λ_=> aC 0)):=H.aL ..
 have d:(h.new (.cells false (rc n λ_=> aC 0))).next=h.next+1:=H.aW ..
 generalize h.new (.cells false (rc n λ_=> aC 0))=Y at*
 obtain⟨S,o⟩:=exI h.next
 rw[o] at f d
 rw[o]
 refine aI (λP c w=> ∃(i:Nat),(∃j:Nat->V,c= [u,.aD,.sl S 0 n (.kn n),j 3,j 4,u,aC n,aC i,j 8])/\i<=n/\
   w.get S=some (.cells false (rc n λj=>if a.idxOf j<i then aC (a.idxOf j:Nat) else aC 0))/\w.next=S+1/\Fr h w/\P=n-i) n
  ⟨0,aB rfl,iB _,by rw[f];rfl,d,m,rfl⟩ ?_
 clear f m d
 rintro P c y ⟨i,⟨jk,rfl⟩,hi,N,K,F,rfl⟩
 simp(disch:=omega)only[go_sem]
 by_cases q:(i:Int)<(n:Int)
 ·rw[cI q]
  have b:i<n:=om
  have ci:y.cell id (off+i)=some (aC (a.getD i 0:Nat)):=by rw[F.cell (p om),J i b];congr 2;simp [zi,l,b]
  have r:=A.fX b
  have z:a.idxOf (a.getD i 0)=i:=A.inj (A.idx r).1 b (A.idx r).2
  generalize W:a.getD i 0=k at ci r z
  have U:decide ((k:Int)<0)=false:=bI om
  have t:decide ((n:Int)<=(k:Int))=false:=bI om
  have G:=bT (vs:=rc n λj=>if a.idxOf j<i then aC (a.idxOf j:Nat) else aC 0) (off:=k) (by rw[iQ];exact r) y S (aC i)
  rw[lH] at G
  simp(disch:=omega)only[go_sem,O.ixa,ci,U,t,N,G]
  rw[fJ i]
  refine⟨n-(i+1),om,i+1,aB rfl,om,?_,K,F.set om _,rfl⟩
  congr 2
  refine dJ λj s=>?_
  by_cases e:j=k
  ·rw[bJ e,e,z,bJ om]
  ·rw[bU e]
   have R:a.idxOf j≠i:=λQ=>e (by rw[←(A.idx s).2,Q,W])
   by_cases t:a.idxOf j<i
   ·rw[bJ t,bJ om]
   ·rw[bU t,bU om]
 rw[bI q]
 obtain rfl:i=n:=om
 simp(disch:=omega)only[go_sem]
 refine⟨by rw[jU,l,o],?_,by rw[o];exact K,F⟩
 rw[o,N]
 congr 2
 rw[←Sq,jU,l]
 exact dJ λj s=>by rw[bJ (A.idx s).1,zL (by rw[l];exact s)]
set_option maxHeartbeats 8000000 in
theorem Uk {g:Nat}(q:T g=some wG.fn)(n:Nat)(h:H)(z:n<=1000):
  Ev T g [aC n] h (λv h'=>Yz h h' v (aX n)):=by
 refine mX q rfl ?_
 simp(disch:=omega)only[go_sem,wG,aE,tY h n om]
 have f:Fr h (h.new (.cells false (rc n λ_=> aC 0))):=(Fr.refl h).new _
 have c:(h.new (.cells false (rc n λ_=> aC 0))).get h.next=some (.cells false (rc n λ_=> aC 0)):=H.aL ..
 have b:(h.new (.cells false (rc n λ_=> aC 0))).next=h.next+1:=H.aW ..
 generalize h.new (.cells false (rc n λ_=> aC 0))=y at*
 obtain⟨S,k⟩:=exI h.next
 rw[k] at c b
 rw[k]
 refine aI (λu a m=> ∃(i:Nat),(∃j:Nat->V,a= [aC n,.aD,.sl S 0 n (.kn n),j 3,aC n,aC i,j 6])/\i<=n/\
   m.get S=some (.cells false (rc n λj=>if j<i then aC (j:Nat) else aC 0))/\m.next=S+1/\Fr h m/\u=n-i) n
  ⟨0,aB rfl,iB _,by rw[c];rfl,b,f,rfl⟩ ?_
 clear c f b
 rintro u a w ⟨i,⟨A,rfl⟩,hi,t,r,F,rfl⟩
 simp(disch:=omega)only[go_sem]
 by_cases d:(i:Int)<(n:Int)
 ·rw[cI d]
  have p:i<n:=om
  have x:decide ((i:Int)<0)=false:=bI om
  have l:decide ((n:Int)<=(i:Int))=false:=bI om
  have s:=bT (vs:=rc n λj=>if j<i then aC (j:Nat) else aC 0) (off:=i) (by rw[iQ];exact p) w S (aC i)
  rw[lH] at s
  simp(disch:=omega)only[go_sem,x,l,t,s]
  rw[fJ i]
  refine⟨n-(i+1),om,i+1,aB rfl,om,?_,r,F.set om _,rfl⟩
  congr 2
  refine dJ λj o=>?_
  by_cases e:j=i
  ·rw[bJ e,bJ om,e]
  ·rw[bU e]
   by_cases l:j<i
   ·rw[bJ l,bJ om]
   ·rw[bU l,bU om]
 rw[bI d]
 obtain rfl:i=n:=om
 simp(disch:=omega)only[go_sem]
 refine⟨by rw[iH,k],?_,by rw[k];exact r,F⟩
 rw[k,t]
 congr 2
 rw[←Sq,iH]
 exact dJ λj o=>by rw[bJ o,fM o]
theorem AU (u w:V)(a b:List Nat)(h:H)(d:a.length<=1000)(e:SI h u (zi a))(f:SI h w (zi b))(c: ∀i,i<a.length->a.getD i 0<b.length):
  Ev T 184 [u,w] h (λv h'=>Yz h h' v (aM a b)):=nZ xW.ok u w a b h d e f c
end Go.Proofs.YtcdbmkidaecdiaaGreat
