/- Layer 8: products, inverses and the identity of package chain. -/
import Derived.Test.YtcdbmkidaecdiaaGreatAy37
import Derived.Test.YtcdbmkidaecdiaaGreatC16code
namespace Go.Proofs.YtcdbmkidaecdiaaGreat
open Go Go.Ay Go.Pm
set_option maxRecDepth 100000
theorem pQ (h:H)(n:Nat)(a:n<=100000):Iv h 1 8 [aC 0] (aC n) (aC n)=some (.sl h.next 0 n (.kn n),h.new (.cells false (rc n λ_=> aC 0))):=by
 rw[tC om (Int.le_refl _) om om,OM,uH,Iy,show ints (List.replicate n 0)=rc n λ_=> aC 0 from (Kp (by simp [aP]) λi hi=>by simp [ints,hi]).symm]
set_option maxHeartbeats 8000000 in
theorem mL {g:Nat}(z:T g=some mW.fn)(u w:V)(a b:List Nat)(h:H)(hn:a.length<=1000)(R:SI h u (zi a))(W:SI h w (zi b))(hr: ∀i,i<a.length->a.getD i 0<b.length):
  Ev T g [u,w] h (λv h'=>Yo h h' v (aX a b)):=by
 refine Kg z rfl ?_
 have U:=R.lens
 rw[aN] at U
 obtain⟨id,off,L,p,J⟩:=R.open
 rw[aN] at L p J
 obtain⟨A,n,s,d,q⟩:=W.open
 rw[aN] at s d q
 simp(disch:=omega)only[go_sem,mW,aD,U,pQ h a.length om]
 have o:Fr h (h.new (.cells false (rc a.length λ_=> aC 0))):=(Fr.refl h).new _
 have m:(h.new (.cells false (rc a.length λ_=> aC 0))).get h.next=some (.cells false (rc a.length λ_=> aC 0)):=H.aL ..
 have l:(h.new (.cells false (rc a.length λ_=> aC 0))).next=h.next+1:=H.aU ..
 generalize h.new (.cells false (rc a.length λ_=> aC 0))=h1 at*
 obtain⟨S,t⟩:=exI h.next
 rw[t] at m l
 rw[t]
 refine aI (λO f G=> ∃(i:Nat),(∃j:Nat->V,f= [u,w,.aE,.sl S 0 a.length (.kn a.length),j 4,j 5,u,aC (a.length:Int),aC i,j 9])/\i<=a.length/\
   G.get S=some (.cells false (rc a.length λj=>if j<i then aC ((aX a b).getD j 0:Nat) else aC 0))/\G.next=S+1/\Fr h G/\O=a.length-i) a.length
  ⟨0,aB rfl,fR _,by rw[m];rfl,l,o,rfl⟩ ?_
 clear m o l
 rintro O f B ⟨i,⟨jk,rfl⟩,hi,P,Q,F,rfl⟩
 simp(disch:=omega)only[go_sem]
 by_cases x:(i:Int)<(a.length:Int)
 ·rw[bN x]
  have c:i<a.length:=om
  have ci:B.cell id (off+i)=some (aC (a.getD i 0:Nat)):=by rw[F.cell (p om),J i c];congr 2;simp [zi,c]
  have r:=hr i c
  generalize hk:a.getD i 0=k at ci r
  have Z:B.cell A (n+k)=some (aC (b.getD k 0:Nat)):=by rw[F.cell (d om),q k r];congr 2;simp [zi,r]
  have Y:decide ((i:Int)<0)=false:=bE om
  have y:decide ((a.length:Int)<=(i:Int))=false:=bE om
  have K:=bP (vs:=rc a.length λj=>if j<i then aC ((aX a b).getD j 0:Nat) else aC 0) (off:=i) (by rw[jE];exact c) B S (aC (b.getD k 0:Nat))
  rw[kX] at K
  simp(disch:=omega)only[go_sem,L.ixa,s.ixa,ci,Z,Y,y,P,K]
  rw[dU i]
  refine⟨a.length-(i+1),om,i+1,aB rfl,om,?_,Q,F.set om _,rfl⟩
  congr 2
  refine dA λj N=>?_
  by_cases e:j=i
  ·subst e
   rw[bJ rfl,bJ om,cM c,hk]
  ·rw[bL e]
   by_cases y:j<i
   ·rw[bJ y,bJ om]
   ·rw[bL y,bL om]
 rw[bE x]
 obtain rfl:i=a.length:=om
 simp(disch:=omega)only[go_sem]
 refine⟨by rw[eV,t],?_,by rw[t];exact Q,F⟩
 rw[t,P]
 congr 2
 rw[←Xt,eV]
 exact dA λj N=>by rw[bJ N]
set_option maxHeartbeats 8000000 in
theorem Bw {g:Nat}(w:T g=some zT.fn)(u:V)(n:Nat)(a:List Nat)(h:H)(hn:n<=1000)(A:bC n a)(L:SI h u (zi a)):
  Ev T g [u] h (λv h'=>Yo h h' v (cY a)):=by
 refine Kg w rfl ?_
 have l:=A.len
 have P:=L.lens
 rw[aN,l] at P
 obtain⟨id,off,B,o,y⟩:=L.open
 rw[aN,l] at B o y
 simp(disch:=omega)only[go_sem,zT,aD,P,pQ h n om]
 have m:Fr h (h.new (.cells false (rc n λ_=> aC 0))):=(Fr.refl h).new _
 have f:(h.new (.cells false (rc n λ_=> aC 0))).get h.next=some (.cells false (rc n λ_=> aC 0)):=H.aL ..
 have d:(h.new (.cells false (rc n λ_=> aC 0))).next=h.next+1:=H.aU ..
 generalize h.new (.cells false (rc n λ_=> aC 0))=Z at*
 obtain⟨S,p⟩:=exI h.next
 rw[p] at f d
 rw[p]
 refine aI (λG c x=> ∃(i:Nat),(∃j:Nat->V,c= [u,.aE,.sl S 0 n (.kn n),j 3,j 4,u,aC n,aC i,j 8])/\i<=n/\
   x.get S=some (.cells false (rc n λj=>if a.idxOf j<i then aC (a.idxOf j:Nat) else aC 0))/\x.next=S+1/\Fr h x/\G=n-i) n
  ⟨0,aB rfl,fR _,by rw[f];rfl,d,m,rfl⟩ ?_
 clear f m d
 rintro G c N ⟨i,⟨Y,rfl⟩,hi,J,K,F,rfl⟩
 simp(disch:=omega)only[go_sem]
 by_cases q:(i:Int)<(n:Int)
 ·rw[bN q]
  have b:i<n:=om
  have ci:N.cell id (off+i)=some (aC (a.getD i 0:Nat)):=by rw[F.cell (o om),y i b];congr 2;simp [zi,l,b]
  have r:=A.gW b
  have O:a.idxOf (a.getD i 0)=i:=A.inj (A.idx r).1 b (A.idx r).2
  generalize U:a.getD i 0=k at ci r O
  have Q:decide ((k:Int)<0)=false:=bE om
  have s:decide ((n:Int)<=(k:Int))=false:=bE om
  have z:=bP (vs:=rc n λj=>if a.idxOf j<i then aC (a.idxOf j:Nat) else aC 0) (off:=k) (by rw[jE];exact r) N S (aC i)
  rw[kX] at z
  simp(disch:=omega)only[go_sem,B.ixa,ci,Q,s,J,z]
  rw[dU i]
  refine⟨n-(i+1),om,i+1,aB rfl,om,?_,K,F.set om _,rfl⟩
  congr 2
  refine dA λj t=>?_
  by_cases e:j=k
  ·rw[bJ e,e,O,bJ om]
  ·rw[bL e]
   have R:a.idxOf j≠i:=λW=>e (by rw[←(A.idx t).2,W,U])
   by_cases s:a.idxOf j<i
   ·rw[bJ s,bJ om]
   ·rw[bL s,bL om]
 rw[bE q]
 obtain rfl:i=n:=om
 simp(disch:=omega)only[go_sem]
 refine⟨by rw[iR,l,p],?_,by rw[p];exact K,F⟩
 rw[p,J]
 congr 2
 rw[←Xt,iR,l]
 exact dA λj t=>by rw[bJ (A.idx t).1,yD (by rw[l];exact t)]
set_option maxHeartbeats 8000000 in
theorem Uv {g:Nat}(o:T g=some uP.fn)(n:Nat)(h:H)(A:n<=1000):
  Ev T g [aC n] h (λv h'=>Yo h h' v (bT n)):=by
 refine Kg o rfl ?_
 simp(disch:=omega)only[go_sem,uP,aD,pQ h n om]
 have d:Fr h (h.new (.cells false (rc n λ_=> aC 0))):=(Fr.refl h).new _
 have b:(h.new (.cells false (rc n λ_=> aC 0))).get h.next=some (.cells false (rc n λ_=> aC 0)):=H.aL ..
 have c:(h.new (.cells false (rc n λ_=> aC 0))).next=h.next+1:=H.aU ..
 generalize h.new (.cells false (rc n λ_=> aC 0))=z at*
 obtain⟨S,f⟩:=exI h.next
 rw[f] at b c
 rw[f]
 refine aI (λt a q=> ∃(i:Nat),(∃j:Nat->V,a= [aC n,.aE,.sl S 0 n (.kn n),j 3,aC n,aC i,j 6])/\i<=n/\
   q.get S=some (.cells false (rc n λj=>if j<i then aC (j:Nat) else aC 0))/\q.next=S+1/\Fr h q/\t=n-i) n
  ⟨0,aB rfl,fR _,by rw[b];rfl,c,d,rfl⟩ ?_
 clear b d c
 rintro t a x ⟨i,⟨y,rfl⟩,hi,s,u,F,rfl⟩
 simp(disch:=omega)only[go_sem]
 by_cases k:(i:Int)<(n:Int)
 ·rw[bN k]
  have p:i<n:=om
  have w:decide ((i:Int)<0)=false:=bE om
  have l:decide ((n:Int)<=(i:Int))=false:=bE om
  have r:=bP (vs:=rc n λj=>if j<i then aC (j:Nat) else aC 0) (off:=i) (by rw[jE];exact p) x S (aC i)
  rw[kX] at r
  simp(disch:=omega)only[go_sem,w,l,s,r]
  rw[dU i]
  refine⟨n-(i+1),om,i+1,aB rfl,om,?_,u,F.set om _,rfl⟩
  congr 2
  refine dA λj m=>?_
  by_cases e:j=i
  ·rw[bJ e,bJ om,e]
  ·rw[bL e]
   by_cases l:j<i
   ·rw[bJ l,bJ om]
   ·rw[bL l,bL om]
 rw[bE k]
 obtain rfl:i=n:=om
 simp(disch:=omega)only[go_sem]
 refine⟨by rw[iU,f],?_,by rw[f];exact u,F⟩
 rw[f,s]
 congr 2
 rw[←Xt,iU]
 exact dA λj m=>by rw[bJ m,fF m]
theorem Zf (u w:V)(a b:List Nat)(h:H)(e:a.length<=1000)(c:SI h u (zi a))(d:SI h w (zi b))(f: ∀i,i<a.length->a.getD i 0<b.length):
  Ev T 184 [u,w] h (λv h'=>Yo h h' v (aX a b)):=mL wQ.ok u w a b h e c d f
end Go.Proofs.YtcdbmkidaecdiaaGreat
