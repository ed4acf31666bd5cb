/- Layer 8: products, inverses and the identity of package chain. -/
import Derived.Test.YtcdbmkidaecdiaaGreatAy37
import Derived.Test.YtcdbmkidaecdiaaGreatC16code
namespace Go.Proofs.YtcdbmkidaecdiaaGreat
open Go Go.Ay Go.Pm
set_option maxRecDepth 100000
theorem sT (h:H)(n:Nat)(a:n<=100000):Jo h 1 8 [aC 0] (aC n) (aC n)=some (.sl h.next 0 n (.kn n),h.new (.cells false (rc n λ_=> aC 0))):=by
 rw[tU om (Int.le_refl _) om om,NK,uW,Jf,show ints (List.replicate n 0)=rc n λ_=> aC 0 from (Kq (by simp [fT]) λi hi=>by simp [ints,hi]).symm]
set_option maxHeartbeats 8000000 in
theorem mY {g:Nat}(G:T g=some oF.fn)(u w:V)(a b:List Nat)(h:H)(hn:a.length<=1000)(K:SI h u (zi a))(Z:SI h w (zi b))(hr: ∀i,i<a.length->a.getD i 0<b.length):
  Ev T g [u,w] h (λv h'=>AM h h' v (aX a b)):=by
 refine Ko G rfl ?_
 have P:=K.lens
 rw[aQ] at P
 obtain⟨id,off,J,q,N⟩:=K.open
 rw[aQ] at J q N
 obtain⟨A,n,x,d,s⟩:=Z.open
 rw[aQ] at x d s
 simp(disch:=omega)only[go_sem,oF,aD,P,sT h a.length om]
 have p:Fr h (h.new (.cells false (rc a.length λ_=> aC 0))):=(Fr.refl h).new _
 have m:(h.new (.cells false (rc a.length λ_=> aC 0))).get h.next=some (.cells false (rc a.length λ_=> aC 0)):=H.aL ..
 have l:(h.new (.cells false (rc a.length λ_=> aC 0))).next=h.next+1:=H.aU ..
 generalize h.new (.cells false (rc a.length λ_=> aC 0))=h1 at*
 obtain⟨S,t⟩:=exI h.next
 rw[t] at m l
 rw[t]
 refine aH (λQ f B=> ∃(i:Nat),(∃j:Nat->V,f= [u,w,.aE,.sl S 0 a.length (.kn a.length),j 4,j 5,u,aC (a.length:Int),aC i,j 9])/\i<=a.length/\
   B.get S=some (.cells false (rc a.length λj=>if j<i then aC ((aX a b).getD j 0:Nat) else aC 0))/\B.next=S+1/\Fr h B/\Q=a.length-i) a.length
  ⟨0,aB rfl,iJ _,by rw[m];rfl,l,p,rfl⟩ ?_
 clear m p l
 rintro Q f z ⟨i,⟨jk,rfl⟩,hi,U,R,F,rfl⟩
 simp(disch:=omega)only[go_sem]
 by_cases o:(i:Int)<(a.length:Int)
 ·rw[oQ o]
  have c:i<a.length:=om
  have ci:z.cell id (off+i)=some (aC (a.getD i 0:Nat)):=by rw[F.cell (q om),N i c];congr 2;simp [zi,c]
  have r:=hr i c
  generalize W:a.getD i 0=k at ci r
  have ck:z.cell A (n+k)=some (aC (b.getD k 0:Nat)):=by rw[F.cell (d om),s k r];congr 2;simp [zi,r]
  have Y:decide ((i:Int)<0)=false:=bH om
  have y:decide ((a.length:Int)<=(i:Int))=false:=bH om
  have L:=bN (vs:=rc a.length λj=>if j<i then aC ((aX a b).getD j 0:Nat) else aC 0) (off:=i) (by rw[Df];exact c) z S (aC (b.getD k 0:Nat))
  rw[mS] at L
  simp(disch:=omega)only[go_sem,J.ixa,x.ixa,ci,ck,Y,y,U,L]
  rw[eJ i]
  refine⟨a.length-(i+1),om,i+1,aB rfl,om,?_,R,F.set om _,rfl⟩
  congr 2
  refine dB λj O=>?_
  by_cases e:j=i
  ·subst e
   rw[bF rfl,bF om,cM c,W]
  ·rw[bI e]
   by_cases y:j<i
   ·rw[bF y,bF om]
   ·rw[bI y,bI om]
 rw[bH o]
 obtain rfl:i=a.length:=om
 simp(disch:=omega)only[go_sem]
 refine⟨by rw[eY,t],?_,by rw[t];exact R,F⟩
 rw[t,U]
 congr 2
 rw[←Zu,eY]
 exact dB λj O=>by rw[bF O]
set_option maxHeartbeats 8000000 in
theorem Ce {g:Nat}(x:T g=some zT.fn)(u:V)(n:Nat)(a:List Nat)(h:H)(Z:n<=1000)(A:bE n a)(B:SI h u (zi a)):
  Ev T g [u] h (λv h'=>AM h h' v (dA a)):=by
 refine Ko x rfl ?_
 have l:=A.len
 have K:=B.lens
 rw[aQ,l] at K
 obtain⟨id,off,z,p,J⟩:=B.open
 rw[aQ,l] at z p J
 simp(disch:=omega)only[go_sem,zT,aD,K,sT h n om]
 have o:Fr h (h.new (.cells false (rc n λ_=> aC 0))):=(Fr.refl h).new _
 have f:(h.new (.cells false (rc n λ_=> aC 0))).get h.next=some (.cells false (rc n λ_=> aC 0)):=H.aL ..
 have d:(h.new (.cells false (rc n λ_=> aC 0))).next=h.next+1:=H.aU ..
 generalize h.new (.cells false (rc n λ_=> aC 0))=Y at*
 obtain⟨S,q⟩:=exI h.next
 rw[q] at f d
 rw[q]
 refine aH (λL c w=> ∃(i:Nat),(∃j:Nat->V,c= [u,.aE,.sl S 0 n (.kn n),j 3,j 4,u,aC n,aC i,j 8])/\i<=n/\
   w.get S=some (.cells false (rc n λj=>if a.idxOf j<i then aC (a.idxOf j:Nat) else aC 0))/\w.next=S+1/\Fr h w/\L=n-i) n
  ⟨0,aB rfl,iJ _,by rw[f];rfl,d,o,rfl⟩ ?_
 clear f o d
 rintro L c y ⟨i,⟨jk,rfl⟩,hi,P,O,F,rfl⟩
 simp(disch:=omega)only[go_sem]
 by_cases m:(i:Int)<(n:Int)
 ·rw[oQ m]
  have b:i<n:=om
  have ci:y.cell id (off+i)=some (aC (a.getD i 0:Nat)):=by rw[F.cell (p om),J i b];congr 2;simp [zi,l,b]
  have r:=A.iN b
  have N:a.idxOf (a.getD i 0)=i:=A.inj (A.idx r).1 b (A.idx r).2
  generalize Q:a.getD i 0=k at ci r N
  have R:decide ((k:Int)<0)=false:=bH om
  have s:decide ((n:Int)<=(k:Int))=false:=bH om
  have G:=bN (vs:=rc n λj=>if a.idxOf j<i then aC (a.idxOf j:Nat) else aC 0) (off:=k) (by rw[Df];exact r) y S (aC i)
  rw[mS] at G
  simp(disch:=omega)only[go_sem,z.ixa,ci,R,s,P,G]
  rw[eJ i]
  refine⟨n-(i+1),om,i+1,aB rfl,om,?_,O,F.set om _,rfl⟩
  congr 2
  refine dB λj t=>?_
  by_cases e:j=k
  ·rw[bF e,e,N,bF om]
  ·rw[bI e]
   have W:a.idxOf j≠i:=λU=>e (by rw[←(A.idx t).2,U,Q])
   by_cases s:a.idxOf j<i
   ·rw[bF s,bF om]
   ·rw[bI s,bI om]
 rw[bH m]
 obtain rfl:i=n:=om
 simp(disch:=omega)only[go_sem]
 refine⟨by rw[jQ,l,q],?_,by rw[q];exact O,F⟩
 rw[q,P]
 congr 2
 rw[←Zu,jQ,l]
 exact dB λj t=>by rw[bF (A.idx t).1,xI (by rw[l];exact t)]
set_option maxHeartbeats 8000000 in
theorem Vn {g:Nat}(o:T g=some uY.fn)(n:Nat)(h:H)(A:n<=1000):
  Ev T g [aC n] h (λv h'=>AM h h' v (bL n)):=by
 refine Ko o rfl ?_
 simp(disch:=omega)only[go_sem,uY,aD,sT h n om]
 have k:Fr h (h.new (.cells false (rc n λ_=> aC 0))):=(Fr.refl h).new _
 have c:(h.new (.cells false (rc n λ_=> aC 0))).get h.next=some (.cells false (rc n λ_=> aC 0)):=H.aL ..
 have b:(h.new (.cells false (rc n λ_=> aC 0))).next=h.next+1:=H.aU ..
 generalize h.new (.cells false (rc n λ_=> aC 0))=y at*
 obtain⟨S,d⟩:=exI h.next
 rw[d] at c b
 rw[d]
 refine aH (λr a p=> ∃(i:Nat),(∃j:Nat->V,a= [aC n,.aE,.sl S 0 n (.kn n),j 3,aC n,aC i,j 6])/\i<=n/\
   p.get S=some (.cells false (rc n λj=>if j<i then aC (j:Nat) else aC 0))/\p.next=S+1/\Fr h p/\r=n-i) n
  ⟨0,aB rfl,iJ _,by rw[c];rfl,b,k,rfl⟩ ?_
 clear c k b
 rintro r a w ⟨i,⟨z,rfl⟩,hi,u,s,F,rfl⟩
 simp(disch:=omega)only[go_sem]
 by_cases f:(i:Int)<(n:Int)
 ·rw[oQ f]
  have q:i<n:=om
  have x:decide ((i:Int)<0)=false:=bH om
  have l:decide ((n:Int)<=(i:Int))=false:=bH om
  have t:=bN (vs:=rc n λj=>if j<i then aC (j:Nat) else aC 0) (off:=i) (by rw[Df];exact q) w S (aC i)
  rw[mS] at t
  simp(disch:=omega)only[go_sem,x,l,u,t]
  rw[eJ i]
  refine⟨n-(i+1),om,i+1,aB rfl,om,?_,s,F.set om _,rfl⟩
  congr 2
  refine dB λj m=>?_
  by_cases e:j=i
  ·rw[bF e,bF om,e]
  ·rw[bI e]
   by_cases l:j<i
   ·rw[bF l,bF om]
   ·rw[bI l,bI om]
 rw[bH f]
 obtain rfl:i=n:=om
 simp(disch:=omega)only[go_sem]
 refine⟨by rw[jG,d],?_,by rw[d];exact s,F⟩
 rw[d,u]
 congr 2
 rw[←Zu,jG]
 exact dB λj m=>by rw[bF m,fQ m]
theorem Ws (u w:V)(a b:List Nat)(h:H)(j:a.length<=1000)(d:SI h u (zi a))(f:SI h w (zi b))(c: ∀i,i<a.length->a.getD i 0<b.length):
  Ev T 184 [u,w] h (λv h'=>AM h h' v (aX a b)):=mY wU.ok u w a b h j d f c
end Go.Proofs.YtcdbmkidaecdiaaGreat
