/- Layer 8: products, inverses and the identity of package chain. -/
import Derived.Test.YtcdbmkidaecdiaaGreatAy37
import Derived.Test.YtcdbmkidaecdiaaGreatC16code
namespace Go.Proofs.YtcdbmkidaecdiaaGreat
open Go Go.Ay Go.Pm
set_option maxRecDepth 100000
theorem sT (h:H)(n:Nat)(a:n<=100000):Jo h 1 8 [aC 0] (aC n) (aC n)=some (.sl h.next 0 n (.kn n),h.new (.cells false (rc n λ_=> aC 0))):=by
 rw[tU om (Int.le_refl _) om om,NK,uW,Jf,show ints (List.replicate n 0)=rc n λ_=> aC 0 from (Kq (by simp [aP]) λi hi=>by simp [ints,hi]).symm]
set_option maxHeartbeats 8000000 in
theorem mY {g:Nat}(A:T g=some oF.fn)(u w:V)(a b:List Nat)(h:H)(hn:a.length<=1000)(J:SI h u (zi a))(W:SI h w (zi b))(Y: ∀i,i<a.length->a.getD i 0<b.length):
  Ev T g [u,w] h (λv h'=>AM h h' v (aX a b)):=by
 refine Ko A rfl ?_
 have N:=J.lens
 rw[aQ] at N
 obtain⟨id,off,R,p,Q⟩:=J.open
 rw[aQ] at R p Q
 obtain⟨B,s,x,f,t⟩:=W.open
 rw[aQ] at x f t
 simp(disch:=omega)only[go_sem,oF,aD,N,sT h a.length om]
 have o:Fr h (h.new (.cells false (rc a.length λ_=> aC 0))):=(Fr.refl h).new _
 have l:(h.new (.cells false (rc a.length λ_=> aC 0))).get h.next=some (.cells false (rc a.length λ_=> aC 0)):=H.aL ..
 have m:(h.new (.cells false (rc a.length λ_=> aC 0))).next=h.next+1:=H.aU ..
 generalize h.new (.cells false (rc a.length λ_=> aC 0))=h1 at*
 obtain⟨S,q⟩:=exI h.next
 rw[q] at l m
 rw[q]
 refine aH (λL d z=> ∃(i:Nat),(∃j:Nat->V,d= [u,w,.aE,.sl S 0 a.length (.kn a.length),j 4,j 5,u,aC (a.length:Int),aC i,j 9])/\i<=a.length/\
   z.get S=some (.cells false (rc a.length λj=>if j<i then aC ((aX a b).getD j 0:Nat) else aC 0))/\z.next=S+1/\Fr h z/\L=a.length-i) a.length
  ⟨0,aB rfl,iJ _,by rw[l];rfl,m,o,rfl⟩ ?_
 clear l o m
 rintro L d G ⟨i,⟨jk,rfl⟩,hi,P,U,F,rfl⟩
 simp(disch:=omega)only[go_sem]
 by_cases n:(i:Int)<(a.length:Int)
 ·rw[bP n]
  have c:i<a.length:=om
  have ci:G.cell id (off+i)=some (aC (a.getD i 0:Nat)):=by rw[F.cell (p om),Q i c];congr 2;simp [zi,c]
  have r:=Y i c
  generalize hk:a.getD i 0=k at ci r
  have Z:G.cell B (s+k)=some (aC (b.getD k 0:Nat)):=by rw[F.cell (f om),t k r];congr 2;simp [zi,r]
  have e1:decide ((i:Int)<0)=false:=bH om
  have y:decide ((a.length:Int)<=(i:Int))=false:=bH om
  have O:=bN (vs:=rc a.length λj=>if j<i then aC ((aX a b).getD j 0:Nat) else aC 0) (off:=i) (by rw[kH];exact c) G S (aC (b.getD k 0:Nat))
  rw[mS] at O
  simp(disch:=omega)only[go_sem,R.ixa,x.ixa,ci,Z,e1,y,P,O]
  rw[eJ i]
  refine⟨a.length-(i+1),om,i+1,aB rfl,om,?_,U,F.set om _,rfl⟩
  congr 2
  refine dB λj K=>?_
  by_cases e:j=i
  ·subst e
   rw[bF rfl,bF om,cM c,hk]
  ·rw[bI e]
   by_cases y:j<i
   ·rw[bF y,bF om]
   ·rw[bI y,bI om]
 rw[bH n]
 obtain rfl:i=a.length:=om
 simp(disch:=omega)only[go_sem]
 refine⟨by rw[eY,q],?_,by rw[q];exact U,F⟩
 rw[q,P]
 congr 2
 rw[←Zu,eY]
 exact dB λj K=>by rw[bF K]
set_option maxHeartbeats 8000000 in
theorem Ce {g:Nat}(x:T g=some zT.fn)(u:V)(n:Nat)(a:List Nat)(h:H)(Z:n<=1000)(A:bE n a)(y:SI h u (zi a)):
  Ev T g [u] h (λv h'=>AM h h' v (dA a)):=by
 refine Ko x rfl ?_
 have l:=A.len
 have G:=y.lens
 rw[aQ,l] at G
 obtain⟨id,off,O,p,L⟩:=y.open
 rw[aQ,l] at O p L
 simp(disch:=omega)only[go_sem,zT,aD,G,sT h n om]
 have o:Fr h (h.new (.cells false (rc n λ_=> aC 0))):=(Fr.refl h).new _
 have d:(h.new (.cells false (rc n λ_=> aC 0))).get h.next=some (.cells false (rc n λ_=> aC 0)):=H.aL ..
 have f:(h.new (.cells false (rc n λ_=> aC 0))).next=h.next+1:=H.aU ..
 generalize h.new (.cells false (rc n λ_=> aC 0))=Y at*
 obtain⟨S,q⟩:=exI h.next
 rw[q] at d f
 rw[q]
 refine aH (λB c w=> ∃(i:Nat),(∃j:Nat->V,c= [u,.aE,.sl S 0 n (.kn n),j 3,j 4,u,aC n,aC i,j 8])/\i<=n/\
   w.get S=some (.cells false (rc n λj=>if a.idxOf j<i then aC (a.idxOf j:Nat) else aC 0))/\w.next=S+1/\Fr h w/\B=n-i) n
  ⟨0,aB rfl,iJ _,by rw[d];rfl,f,o,rfl⟩ ?_
 clear d o f
 rintro B c N ⟨i,⟨jk,rfl⟩,hi,K,P,F,rfl⟩
 simp(disch:=omega)only[go_sem]
 by_cases m:(i:Int)<(n:Int)
 ·rw[bP m]
  have b:i<n:=om
  have ci:N.cell id (off+i)=some (aC (a.getD i 0:Nat)):=by rw[F.cell (p om),L i b];congr 2;simp [zi,l,b]
  have r:=A.iN b
  have z:a.idxOf (a.getD i 0)=i:=A.inj (A.idx r).1 b (A.idx r).2
  generalize U:a.getD i 0=k at ci r z
  have Q:decide ((k:Int)<0)=false:=bH om
  have t:decide ((n:Int)<=(k:Int))=false:=bH om
  have J:=bN (vs:=rc n λj=>if a.idxOf j<i then aC (a.idxOf j:Nat) else aC 0) (off:=k) (by rw[kH];exact r) N S (aC i)
  rw[mS] at J
  simp(disch:=omega)only[go_sem,O.ixa,ci,Q,t,K,J]
  rw[eJ i]
  refine⟨n-(i+1),om,i+1,aB rfl,om,?_,P,F.set om _,rfl⟩
  congr 2
  refine dB λj s=>?_
  by_cases e:j=k
  ·rw[bF e,e,z,bF om]
  ·rw[bI e]
   have W:a.idxOf j≠i:=λR=>e (by rw[←(A.idx s).2,R,U])
   by_cases t:a.idxOf j<i
   ·rw[bF t,bF om]
   ·rw[bI t,bI om]
 rw[bH m]
 obtain rfl:i=n:=om
 simp(disch:=omega)only[go_sem]
 refine⟨by rw[jQ,l,q],?_,by rw[q];exact P,F⟩
 rw[q,K]
 congr 2
 rw[←Zu,jQ,l]
 exact dB λj s=>by rw[bF (A.idx s).1,xI (by rw[l];exact s)]
set_option maxHeartbeats 8000000 in
theorem Vn {g:Nat}(q:T g=some uY.fn)(n:Nat)(h:H)(z:n<=1000):
  Ev T g [aC n] h (λv h'=>AM h h' v (bL n)):=by
 refine Ko q rfl ?_
 simp(disch:=omega)only[go_sem,uY,aD,sT h n om]
 have k:Fr h (h.new (.cells false (rc n λ_=> aC 0))):=(Fr.refl h).new _
 have b:(h.new (.cells false (rc n λ_=> aC 0))).get h.next=some (.cells false (rc n λ_=> aC 0)):=H.aL ..
 have c:(h.new (.cells false (rc n λ_=> aC 0))).next=h.next+1:=H.aU ..
 generalize h.new (.cells false (rc n λ_=> aC 0))=y at*
 obtain⟨S,f⟩:=exI h.next
 rw[f] at b c
 rw[f]
 refine aH (λt a p=> ∃(i:Nat),(∃j:Nat->V,a= [aC n,.aE,.sl S 0 n (.kn n),j 3,aC n,aC i,j 6])/\i<=n/\
   p.get S=some (.cells false (rc n λj=>if j<i then aC (j:Nat) else aC 0))/\p.next=S+1/\Fr h p/\t=n-i) n
  ⟨0,aB rfl,iJ _,by rw[b];rfl,c,k,rfl⟩ ?_
 clear b k c
 rintro t a x ⟨i,⟨A,rfl⟩,hi,s,u,F,rfl⟩
 simp(disch:=omega)only[go_sem]
 by_cases d:(i:Int)<(n:Int)
 ·rw[bP d]
  have m:i<n:=om
  have w:decide ((i:Int)<0)=false:=bH om
  have l:decide ((n:Int)<=(i:Int))=false:=bH om
  have r:=bN (vs:=rc n λj=>if j<i then aC (j:Nat) else aC 0) (off:=i) (by rw[kH];exact m) x S (aC i)
  rw[mS] at r
  simp(disch:=omega)only[go_sem,w,l,s,r]
  rw[eJ i]
  refine⟨n-(i+1),om,i+1,aB rfl,om,?_,u,F.set om _,rfl⟩
  congr 2
  refine dB λj o=>?_
  by_cases e:j=i
  ·rw[bF e,bF om,e]
  ·rw[bI e]
   by_cases l:j<i
   ·rw[bF l,bF om]
   ·rw[bI l,bI om]
 rw[bH d]
 obtain rfl:i=n:=om
 simp(disch:=omega)only[go_sem]
 refine⟨by rw[jG,f],?_,by rw[f];exact u,F⟩
 rw[f,s]
 congr 2
 rw[←Zu,jG]
 exact dB λj o=>by rw[bF o,fQ o]
theorem Ws (u w:V)(a b:List Nat)(h:H)(d:a.length<=1000)(j:SI h u (zi a))(f:SI h w (zi b))(c: ∀i,i<a.length->a.getD i 0<b.length):
  Ev T 184 [u,w] h (λv h'=>AM h h' v (aX a b)):=mY wU.ok u w a b h d j f c
end Go.Proofs.YtcdbmkidaecdiaaGreat
