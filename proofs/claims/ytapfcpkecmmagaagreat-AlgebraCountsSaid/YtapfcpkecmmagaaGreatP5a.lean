/- Layer 8: products, inverses and the identity of package chain. -/
import Derived.Test.YtapfcpkecmmagaaGreatAy37
import Derived.Test.YtapfcpkecmmagaaGreatC27code
namespace Go.Proofs.YtapfcpkecmmagaaGreat
open Go Go.Ay Go.Pm
set_option maxRecDepth 100000
theorem mks_zeros (h:H)(n:Nat)(a:n<=100000):uJ h 1 8 [aB 0] (aB n) (aB n)=some (.sl h.next 0 n (.kn n),h.new (.cells false (rc n λ_=> aB 0))):=by
 rw[lZ om (Int.le_refl _) om om,Cd,jY,xJ,show ints (List.replicate n 0)=rc n λ_=> aB 0 from (xT (by simp [aL]) λi hi=>by simp [ints,hi]).symm]
set_option maxHeartbeats 8000000 in
theorem mul_gen {g:Nat}(B:T g=some c_chain_mul)(u w:V)(a b:List Nat)(h:H)(hn:a.length<=1000)(U:SI h u (zi a))(Y:SI h w (zi b))(W: ∀i,i<a.length->a.getD i 0<b.length):
  Ev T g [u,w] h (λv h'=>Jl h h' v (bD a b)):=by
 refine yH B rfl ?_
 have O:=U.lens
 rw[aQ] at O
 obtain⟨id,off,K,o,R⟩:=U.open
 rw[aQ] at K o R
 obtain⟨A,p,x,f,s⟩:=Y.open
 rw[aQ] at x f s
 simp(disch:=omega)only[go_sem,c_chain_mul,aF,O,mks_zeros h a.length om]
 have n:Fr h (h.new (.cells false (rc a.length λ_=> aB 0))):=(Fr.refl h).new _
 have l:(h.new (.cells false (rc a.length λ_=> aB 0))).get h.next=some (.cells false (rc a.length λ_=> aB 0)):=H.aN ..
 have m:(h.new (.cells false (rc a.length λ_=> aB 0))).next=h.next+1:=H.aY ..
 generalize h.new (.cells false (rc a.length λ_=> aB 0))=h1 at*
 obtain⟨S,q⟩:=IP h.next
 rw[q] at l m
 rw[q]
 refine aH (λL d G=> ∃(i:Nat),(∃j:Nat->V,d= [u,w,.aD,.sl S 0 a.length (.kn a.length),j 4,j 5,u,aB (a.length:Int),aB i,j 9])/\i<=a.length/\
   G.get S=some (.cells false (rc a.length λj=>if j<i then aB ((bD a b).getD j 0:Nat) else aB 0))/\G.next=S+1/\Fr h G/\L=a.length-i) a.length
  ⟨0,aA rfl,eY _,by rw[l];rfl,m,n,rfl⟩ ?_
 clear l n m
 rintro L d z ⟨i,⟨jk,rfl⟩,hi,Q,J,F,rfl⟩
 simp(disch:=omega)only[go_sem]
 by_cases t:(i:Int)<(a.length:Int)
 ·rw[bV t]
  have c:i<a.length:=om
  have ci:z.cell id (off+i)=some (aB (a.getD i 0:Nat)):=by rw[F.cell (o om),R i c];congr 2;simp [zi,c]
  have r:=W i c
  generalize hk:a.getD i 0=k at ci r
  have ck:z.cell A (p+k)=some (aB (b.getD k 0:Nat)):=by rw[F.cell (f om),s k r];congr 2;simp [zi,r]
  have Z:decide ((i:Int)<0)=false:=bM om
  have y:decide ((a.length:Int)<=(i:Int))=false:=bM om
  have N:=bE (vs:=rc a.length λj=>if j<i then aB ((bD a b).getD j 0:Nat) else aB 0) (off:=i) (by rw[cK];exact c) z S (aB (b.getD k 0:Nat))
  rw[eG] at N
  simp(disch:=omega)only[go_sem,K.ixa,x.ixa,ci,ck,Z,y,Q,N]
  rw[dX i]
  refine⟨a.length-(i+1),om,i+1,aA rfl,om,?_,J,F.set om _,rfl⟩
  congr 2
  refine aX λj P=>?_
  by_cases e:j=i
  ·subst e
   rw[aV rfl,aV om,cX c,hk]
  ·rw[aZ e]
   by_cases y:j<i
   ·rw[aV y,aV om]
   ·rw[aZ y,aZ om]
 rw[bM t]
 obtain rfl:i=a.length:=om
 simp(disch:=omega)only[go_sem]
 refine⟨by rw[eH,q],?_,by rw[q];exact J,F⟩
 rw[q,Q]
 congr 2
 rw[←Du,eH]
 exact aX λj P=>by rw[aV P]
set_option maxHeartbeats 8000000 in
theorem inv_gen {g:Nat}(w:T g=some c_chain_inv)(u:V)(n:Nat)(a:List Nat)(h:H)(Y:n<=1000)(A:bT n a)(P:SI h u (zi a)):
  Ev T g [u] h (λv h'=>Jl h h' v (dH a)):=by
 refine yH w rfl ?_
 have l:=A.len
 have K:=P.lens
 rw[aQ,l] at K
 obtain⟨id,off,z,o,N⟩:=P.open
 rw[aQ,l] at z o N
 simp(disch:=omega)only[go_sem,c_chain_inv,aF,K,mks_zeros h n om]
 have m:Fr h (h.new (.cells false (rc n λ_=> aB 0))):=(Fr.refl h).new _
 have d:(h.new (.cells false (rc n λ_=> aB 0))).get h.next=some (.cells false (rc n λ_=> aB 0)):=H.aN ..
 have f:(h.new (.cells false (rc n λ_=> aB 0))).next=h.next+1:=H.aY ..
 generalize h.new (.cells false (rc n λ_=> aB 0))=h1 at*
 obtain⟨S,p⟩:=IP h.next
 rw[p] at d f
 rw[p]
 refine aH (λG c x=> ∃(i:Nat),(∃j:Nat->V,c= [u,.aD,.sl S 0 n (.kn n),j 3,j 4,u,aB n,aB i,j 8])/\i<=n/\
   x.get S=some (.cells false (rc n λj=>if a.idxOf j<i then aB (a.idxOf j:Nat) else aB 0))/\x.next=S+1/\Fr h x/\G=n-i) n
  ⟨0,aA rfl,eY _,by rw[d];rfl,f,m,rfl⟩ ?_
 clear d m f
 rintro G c B ⟨i,⟨Z,rfl⟩,hi,L,y,F,rfl⟩
 simp(disch:=omega)only[go_sem]
 by_cases q:(i:Int)<(n:Int)
 ·rw[bV q]
  have b:i<n:=om
  have ci:B.cell id (off+i)=some (aB (a.getD i 0:Nat)):=by rw[F.cell (o om),N i b];congr 2;simp [zi,l,b]
  have r:=A.dZ b
  have O:a.idxOf (a.getD i 0)=i:=A.inj (A.idx r).1 b (A.idx r).2
  generalize W:a.getD i 0=k at ci r O
  have R:decide ((k:Int)<0)=false:=bM om
  have s:decide ((n:Int)<=(k:Int))=false:=bM om
  have J:=bE (vs:=rc n λj=>if a.idxOf j<i then aB (a.idxOf j:Nat) else aB 0) (off:=k) (by rw[cK];exact r) B S (aB i)
  rw[eG] at J
  simp(disch:=omega)only[go_sem,z.ixa,ci,R,s,L,J]
  rw[dX i]
  refine⟨n-(i+1),om,i+1,aA rfl,om,?_,y,F.set om _,rfl⟩
  congr 2
  refine aX λj t=>?_
  by_cases e:j=k
  ·rw[aV e,e,O,aV om]
  ·rw[aZ e]
   have Q:a.idxOf j≠i:=λU=>e (by rw[←(A.idx t).2,U,W])
   by_cases s:a.idxOf j<i
   ·rw[aV s,aV om]
   ·rw[aZ s,aZ om]
 rw[bM q]
 obtain rfl:i=n:=om
 simp(disch:=omega)only[go_sem]
 refine⟨by rw[fV,l,p],?_,by rw[p];exact y,F⟩
 rw[p,L]
 congr 2
 rw[←Du,fV,l]
 exact aX λj t=>by rw[aV (A.idx t).1,lQ (by rw[l];exact t)]
set_option maxHeartbeats 8000000 in
theorem one_gen {g:Nat}(q:T g=some c_chain_one)(n:Nat)(h:H)(z:n<=1000):
  Ev T g [aB n] h (λv h'=>Jl h h' v (cG n)):=by
 refine yH q rfl ?_
 simp(disch:=omega)only[go_sem,c_chain_one,aF,mks_zeros h n om]
 have f:Fr h (h.new (.cells false (rc n λ_=> aB 0))):=(Fr.refl h).new _
 have c:(h.new (.cells false (rc n λ_=> aB 0))).get h.next=some (.cells false (rc n λ_=> aB 0)):=H.aN ..
 have b:(h.new (.cells false (rc n λ_=> aB 0))).next=h.next+1:=H.aY ..
 generalize h.new (.cells false (rc n λ_=> aB 0))=y at*
 obtain⟨S,d⟩:=IP h.next
 rw[d] at c b
 rw[d]
 refine aH (λt a m=> ∃(i:Nat),(∃j:Nat->V,a= [aB n,.aD,.sl S 0 n (.kn n),j 3,aB n,aB i,j 6])/\i<=n/\
   m.get S=some (.cells false (rc n λj=>if j<i then aB (j:Nat) else aB 0))/\m.next=S+1/\Fr h m/\t=n-i) n
  ⟨0,aA rfl,eY _,by rw[c];rfl,b,f,rfl⟩ ?_
 clear c f b
 rintro t a w ⟨i,⟨A,rfl⟩,hi,s,r,F,rfl⟩
 simp(disch:=omega)only[go_sem]
 by_cases k:(i:Int)<(n:Int)
 ·rw[bV k]
  have p:i<n:=om
  have x:decide ((i:Int)<0)=false:=bM om
  have l:decide ((n:Int)<=(i:Int))=false:=bM om
  have u:=bE (vs:=rc n λj=>if j<i then aB (j:Nat) else aB 0) (off:=i) (by rw[cK];exact p) w S (aB i)
  rw[eG] at u
  simp(disch:=omega)only[go_sem,x,l,s,u]
  rw[dX i]
  refine⟨n-(i+1),om,i+1,aA rfl,om,?_,r,F.set om _,rfl⟩
  congr 2
  refine aX λj o=>?_
  by_cases e:j=i
  ·rw[aV e,aV om,e]
  ·rw[aZ e]
   by_cases l:j<i
   ·rw[aV l,aV om]
   ·rw[aZ l,aZ om]
 rw[bM k]
 obtain rfl:i=n:=om
 simp(disch:=omega)only[go_sem]
 refine⟨by rw[gU,d],?_,by rw[d];exact r,F⟩
 rw[d,s]
 congr 2
 rw[←Du,gU]
 exact aX λj o=>by rw[aV o,eP o]
theorem times_ok (u w:V)(a b:List Nat)(h:H)(c:a.length<=1000)(e:SI h u (zi a))(f:SI h w (zi b))(d: ∀i,i<a.length->a.getD i 0<b.length):
  Ev T 86 [u,w] h (λv h'=>Jl h h' v (bD a b)):=mul_gen (rfl:T 86=some c_classes_element_times) u w a b h c e f d
end Go.Proofs.YtapfcpkecmmagaaGreat
