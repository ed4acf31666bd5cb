/- Layer 8: products, inverses and the identity of package chain. -/
import Derived.Test.YtcdbmkidaecdiaaGreatAy37
import Derived.Test.YtcdbmkidaecdiaaGreatC16code
namespace Go.Proofs.YtcdbmkidaecdiaaGreat
open Go Go.Ay Go.Pm
set_option maxRecDepth 100000
theorem sT (h:H)(n:Nat)(a:n<=100000):Jo h 1 8 [aC 0] (aC n) (aC n)=some (.sl h.next 0 n (.kn n),h.new (.cells false (rc n λ_=> aC 0))):=by
 rw[tU om (Int.le_refl _) om om,NK,uW,Jf,show ints (List.replicate n 0)=rc n λ_=> aC 0 from (Kq (by simp [aP]) λi hi=>by simp [ints,hi]).symm]
set_option maxHeartbeats 8000000 in
theorem mY {g:Nat}(A:T g=some oF.fn)(u w:V)(a b:List Nat)(h:H)(hn:a.length<=1000)(N:SI h u (zi a))(hw:SI h w (zi b))(W: ∀i,i<a.length->a.getD i 0<b.length):
  Ev T g [u,w] h (λv h'=>AM h h' v (aX a b)):=by
 refine Ko A rfl ?_
 have Q:=N.lens
 rw[aQ] at Q
 obtain⟨id,off,K,n,R⟩:=N.open
 rw[aQ] at K n R
 obtain⟨G,s,x,f,p⟩:=hw.open
 rw[aQ] at x f p
 simp(disch:=omega)only[go_sem,oF,aD,Q,sT h a.length om]
 have o:Fr h (h.new (.cells false (rc a.length λ_=> aC 0))):=(Fr.refl h).new _
 have m:(h.new (.cells false (rc a.length λ_=> aC 0))).get h.next=some (.cells false (rc a.length λ_=> aC 0)):=H.aL ..
 have l:(h.new (.cells false (rc a.length λ_=> aC 0))).next=h.next+1:=H.aU ..
 generalize h.new (.cells false (rc a.length λ_=> aC 0))=h1 at*
 obtain⟨S,q⟩:=exI h.next
 rw[q] at m l
 rw[q]
 refine aH (λP d B=> ∃(i:Nat),(∃j:Nat->V,d= [u,w,.aE,.sl S 0 a.length (.kn a.length),j 4,j 5,u,aC (a.length:Int),aC i,j 9])/\i<=a.length/\
   B.get S=some (.cells false (rc a.length λj=>if j<i then aC ((aX a b).getD j 0:Nat) else aC 0))/\B.next=S+1/\Fr h B/\P=a.length-i) a.length
  ⟨0,aB rfl,iJ _,by rw[m];rfl,l,o,rfl⟩ ?_
 clear m o l
 rintro P d z ⟨i,⟨jk,rfl⟩,hi,U,O,F,rfl⟩
 simp(disch:=omega)only[go_sem]
 by_cases t:(i:Int)<(a.length:Int)
 ·rw[bP t]
  have c:i<a.length:=om
  have ci:z.cell id (off+i)=some (aC (a.getD i 0:Nat)):=by rw[F.cell (n om),R i c];congr 2;simp [zi,c]
  have r:=W i c
  generalize Y:a.getD i 0=k at ci r
  have Z:z.cell G (s+k)=some (aC (b.getD k 0:Nat)):=by rw[F.cell (f om),p k r];congr 2;simp [zi,r]
  have e1:decide ((i:Int)<0)=false:=bH om
  have y:decide ((a.length:Int)<=(i:Int))=false:=bH om
  have L:=bN (vs:=rc a.length λj=>if j<i then aC ((aX a b).getD j 0:Nat) else aC 0) (off:=i) (by rw[kH];exact c) z S (aC (b.getD k 0:Nat))
  rw[mS] at L
  simp(disch:=omega)only[go_sem,K.ixa,x.ixa,ci,Z,e1,y,U,L]
  rw[eJ i]
  refine⟨a.length-(i+1),om,i+1,aB rfl,om,?_,O,F.set om _,rfl⟩
  congr 2
  refine dB λj J=>?_
  by_cases e:j=i
  ·subst e
   rw[bF rfl,bF om,cM c,Y]
  ·rw[bI e]
   by_cases y:j<i
   ·rw[bF y,bF om]
   ·rw[bI y,bI om]
 rw[bH t]
 obtain rfl:i=a.length:=om
 simp(disch:=omega)only[go_sem]
 refine⟨by rw[eY,q],?_,by rw[q];exact O,F⟩
 rw[q,U]
 congr 2
 rw[←Zu,eY]
 exact dB λj J=>by rw[bF J]
set_option maxHeartbeats 8000000 in
theorem Ce {g:Nat}(w:T g=some zT.fn)(u:V)(n:Nat)(a:List Nat)(h:H)(Z:n<=1000)(A:bE n a)(J:SI h u (zi a)):
  Ev T g [u] h (λv h'=>AM h h' v (dA a)):=by
 refine Ko w rfl ?_
 have l:=A.len
 have N:=J.lens
 rw[aQ,l] at N
 obtain⟨id,off,B,m,O⟩:=J.open
 rw[aQ,l] at B m O
 simp(disch:=omega)only[go_sem,zT,aD,N,sT h n om]
 have o:Fr h (h.new (.cells false (rc n λ_=> aC 0))):=(Fr.refl h).new _
 have f:(h.new (.cells false (rc n λ_=> aC 0))).get h.next=some (.cells false (rc n λ_=> aC 0)):=H.aL ..
 have d:(h.new (.cells false (rc n λ_=> aC 0))).next=h.next+1:=H.aU ..
 generalize h.new (.cells false (rc n λ_=> aC 0))=h1 at*
 obtain⟨S,p⟩:=exI h.next
 rw[p] at f d
 rw[p]
 refine aH (λL c x=> ∃(i:Nat),(∃j:Nat->V,c= [u,.aE,.sl S 0 n (.kn n),j 3,j 4,u,aC n,aC i,j 8])/\i<=n/\
   x.get S=some (.cells false (rc n λj=>if a.idxOf j<i then aC (a.idxOf j:Nat) else aC 0))/\x.next=S+1/\Fr h x/\L=n-i) n
  ⟨0,aB rfl,iJ _,by rw[f];rfl,d,o,rfl⟩ ?_
 clear f o d
 rintro L c z ⟨i,⟨Y,rfl⟩,hi,P,K,F,rfl⟩
 simp(disch:=omega)only[go_sem]
 by_cases q:(i:Int)<(n:Int)
 ·rw[bP q]
  have b:i<n:=om
  have ci:z.cell id (off+i)=some (aC (a.getD i 0:Nat)):=by rw[F.cell (m om),O i b];congr 2;simp [zi,l,b]
  have r:=A.iN b
  have y:a.idxOf (a.getD i 0)=i:=A.inj (A.idx r).1 b (A.idx r).2
  generalize U:a.getD i 0=k at ci r y
  have W:decide ((k:Int)<0)=false:=bH om
  have t:decide ((n:Int)<=(k:Int))=false:=bH om
  have G:=bN (vs:=rc n λj=>if a.idxOf j<i then aC (a.idxOf j:Nat) else aC 0) (off:=k) (by rw[kH];exact r) z S (aC i)
  rw[mS] at G
  simp(disch:=omega)only[go_sem,B.ixa,ci,W,t,P,G]
  rw[eJ i]
  refine⟨n-(i+1),om,i+1,aB rfl,om,?_,K,F.set om _,rfl⟩
  congr 2
  refine dB λj s=>?_
  by_cases e:j=k
  ·rw[bF e,e,y,bF om]
  ·rw[bI e]
   have Q:a.idxOf j≠i:=λR=>e (by rw[←(A.idx s).2,R,U])
   by_cases t:a.idxOf j<i
   ·rw[bF t,bF om]
   ·rw[bI t,bI om]
 rw[bH q]
 obtain rfl:i=n:=om
 simp(disch:=omega)only[go_sem]
 refine⟨by rw[jQ,l,p],?_,by rw[p];exact K,F⟩
 rw[p,P]
 congr 2
 rw[←Zu,jQ,l]
 exact dB λj s=>by rw[bF (A.idx s).1,xI (by rw[l];exact s)]
set_option maxHeartbeats 8000000 in
theorem Vn {g:Nat}(m:T g=some uY.fn)(n:Nat)(h:H)(z:n<=1000):
  Ev T g [aC n] h (λv h'=>AM h h' v (bL n)):=by
 refine Ko m rfl ?_
 simp(disch:=omega)only[go_sem,uY,aD,sT h n om]
 have d:Fr h (h.new (.cells false (rc n λ_=> aC 0))):=(Fr.refl h).new _
 have c:(h.new (.cells false (rc n λ_=> aC 0))).get h.next=some (.cells false (rc n λ_=> aC 0)):=H.aL ..
 have b:(h.new (.cells false (rc n λ_=> aC 0))).next=h.next+1:=H.aU ..
 generalize h.new (.cells false (rc n λ_=> aC 0))=A at*
 obtain⟨S,k⟩:=exI h.next
 rw[k] at c b
 rw[k]
 refine aH (λs a p=> ∃(i:Nat),(∃j:Nat->V,a= [aC n,.aE,.sl S 0 n (.kn n),j 3,aC n,aC i,j 6])/\i<=n/\
   p.get S=some (.cells false (rc n λj=>if j<i then aC (j:Nat) else aC 0))/\p.next=S+1/\Fr h p/\s=n-i) n
  ⟨0,aB rfl,iJ _,by rw[c];rfl,b,d,rfl⟩ ?_
 clear c d b
 rintro s a w ⟨i,⟨y,rfl⟩,hi,u,r,F,rfl⟩
 simp(disch:=omega)only[go_sem]
 by_cases f:(i:Int)<(n:Int)
 ·rw[bP f]
  have q:i<n:=om
  have x:decide ((i:Int)<0)=false:=bH om
  have l:decide ((n:Int)<=(i:Int))=false:=bH om
  have t:=bN (vs:=rc n λj=>if j<i then aC (j:Nat) else aC 0) (off:=i) (by rw[kH];exact q) w S (aC i)
  rw[mS] at t
  simp(disch:=omega)only[go_sem,x,l,u,t]
  rw[eJ i]
  refine⟨n-(i+1),om,i+1,aB rfl,om,?_,r,F.set om _,rfl⟩
  congr 2
  refine dB λj o=>?_
  by_cases e:j=i
  ·rw[bF e,bF om,e]
  ·rw[bI e]
   by_cases l:j<i
   ·rw[bF l,bF om]
   ·rw[bI l,bI om]
 rw[bH f]
 obtain rfl:i=n:=om
 simp(disch:=omega)only[go_sem]
 refine⟨by rw[jG,k],?_,by rw[k];exact r,F⟩
 rw[k,u]
 congr 2
 rw[←Zu,jG]
 exact dB λj o=>by rw[bF o,fQ o]
theorem Ws (u w:V)(a b:List Nat)(h:H)(c:a.length<=1000)(f:SI h u (zi a))(e:SI h w (zi b))(d: ∀i,i<a.length->a.getD i 0<b.length):
  Ev T 184 [u,w] h (λv h'=>AM h h' v (aX a b)):=mY wU.ok u w a b h c f e d
end Go.Proofs.YtcdbmkidaecdiaaGreat
