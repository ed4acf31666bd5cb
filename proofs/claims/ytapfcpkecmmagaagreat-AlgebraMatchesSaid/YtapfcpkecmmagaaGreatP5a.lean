/- Layer 8: products, inverses and the identity of package chain. -/
import Derived.Test.YtapfcpkecmmagaaGreatAy37
import Derived.Test.YtapfcpkecmmagaaGreatC27code
namespace Go.Proofs.YtapfcpkecmmagaaGreat
open Go Go.Ay Go.Pm
set_option maxRecDepth 100000
theorem mks_zeros (h:H)(n:Nat)(a:n<=100000):vH h 1 8 [aB 0] (aB n) (aB n)=some (.sl h.next 0 n (.kn n),h.new (.cells false (rc n λ_=> aB 0))):=by
 rw[lZ om (Int.le_refl _) om om,De,kF,sG,show ints (List.replicate n 0)=rc n λ_=> aB 0 from (yS (by simp [aL]) λi hi=>by simp [ints,hi]).symm]
set_option maxHeartbeats 8000000 in
theorem mul_gen {g:Nat}(A:T g=some c_chain_mul)(u w:V)(a b:List Nat)(h:H)(hn:a.length<=1000)(Q:SI h u (zi a))(hw:SI h w (zi b))(hr: ∀i,i<a.length->a.getD i 0<b.length):
  Ev T g [u,w] h (λv h'=>Ku h h' v (bE a b)):=by
 refine yN A rfl ?_
 have R:=Q.lens
 rw[aQ] at R
 obtain⟨id,off,K,n,N⟩:=Q.open
 rw[aQ] at K n N
 obtain⟨z,q,t,d,o⟩:=hw.open
 rw[aQ] at t d o
 simp(disch:=omega)only[go_sem,c_chain_mul,aF,R,mks_zeros h a.length om]
 have p:Fr h (h.new (.cells false (rc a.length λ_=> aB 0))):=(Fr.refl h).new _
 have l:(h.new (.cells false (rc a.length λ_=> aB 0))).get h.next=some (.cells false (rc a.length λ_=> aB 0)):=H.aN ..
 have m:(h.new (.cells false (rc a.length λ_=> aB 0))).next=h.next+1:=H.aX ..
 generalize h.new (.cells false (rc a.length λ_=> aB 0))=h1 at*
 obtain⟨S,s⟩:=JR h.next
 rw[s] at l m
 rw[s]
 refine aH (λO f B=> ∃(i:Nat),(∃j:Nat->V,f= [u,w,.aD,.sl S 0 a.length (.kn a.length),j 4,j 5,u,aB (a.length:Int),aB i,j 9])/\i<=a.length/\
   B.get S=some (.cells false (rc a.length λj=>if j<i then aB ((bE a b).getD j 0:Nat) else aB 0))/\B.next=S+1/\Fr h B/\O=a.length-i) a.length
  ⟨0,aA rfl,fF _,by rw[l];rfl,m,p,rfl⟩ ?_
 clear l p m
 rintro O f G ⟨i,⟨jk,rfl⟩,hi,L,P,F,rfl⟩
 simp(disch:=omega)only[go_sem]
 by_cases x:(i:Int)<(a.length:Int)
 ·rw[bM x]
  have c:i<a.length:=om
  have ci:G.cell id (off+i)=some (aB (a.getD i 0:Nat)):=by rw[F.cell (n om),N i c];congr 2;simp [zi,c]
  have r:=hr i c
  generalize W:a.getD i 0=k at ci r
  have Y:G.cell z (q+k)=some (aB (b.getD k 0:Nat)):=by rw[F.cell (d om),o k r];congr 2;simp [zi,r]
  have Z:decide ((i:Int)<0)=false:=bJ om
  have y:decide ((a.length:Int)<=(i:Int))=false:=bJ om
  have J:=bF (vs:=rc a.length λj=>if j<i then aB ((bE a b).getD j 0:Nat) else aB 0) (off:=i) (by rw[cK];exact c) G S (aB (b.getD k 0:Nat))
  rw[eJ] at J
  simp(disch:=omega)only[go_sem,K.ixa,t.ixa,ci,Y,Z,y,L,J]
  rw[dY i]
  refine⟨a.length-(i+1),om,i+1,aA rfl,om,?_,P,F.set om _,rfl⟩
  congr 2
  refine aY λj U=>?_
  by_cases e:j=i
  ·subst e
   rw[aV rfl,aV om,dB c,W]
  ·rw[aZ e]
   by_cases y:j<i
   ·rw[aV y,aV om]
   ·rw[aZ y,aZ om]
 rw[bJ x]
 obtain rfl:i=a.length:=om
 simp(disch:=omega)only[go_sem]
 refine⟨by rw[eH,s],?_,by rw[s];exact P,F⟩
 rw[s,L]
 congr 2
 rw[←Kp,eH]
 exact aY λj U=>by rw[aV U]
set_option maxHeartbeats 8000000 in
theorem inv_gen {g:Nat}(w:T g=some c_chain_inv)(u:V)(n:Nat)(a:List Nat)(h:H)(hn:n<=1000)(A:bV n a)(N:SI h u (zi a)):
  Ev T g [u] h (λv h'=>Ku h h' v (dM a)):=by
 refine yN w rfl ?_
 have l:=A.len
 have O:=N.lens
 rw[aQ,l] at O
 obtain⟨id,off,z,m,G⟩:=N.open
 rw[aQ,l] at z m G
 simp(disch:=omega)only[go_sem,c_chain_inv,aF,O,mks_zeros h n om]
 have o:Fr h (h.new (.cells false (rc n λ_=> aB 0))):=(Fr.refl h).new _
 have d:(h.new (.cells false (rc n λ_=> aB 0))).get h.next=some (.cells false (rc n λ_=> aB 0)):=H.aN ..
 have f:(h.new (.cells false (rc n λ_=> aB 0))).next=h.next+1:=H.aX ..
 generalize h.new (.cells false (rc n λ_=> aB 0))=Z at*
 obtain⟨S,p⟩:=JR h.next
 rw[p] at d f
 rw[p]
 refine aH (λJ c x=> ∃(i:Nat),(∃j:Nat->V,c= [u,.aD,.sl S 0 n (.kn n),j 3,j 4,u,aB n,aB i,j 8])/\i<=n/\
   x.get S=some (.cells false (rc n λj=>if a.idxOf j<i then aB (a.idxOf j:Nat) else aB 0))/\x.next=S+1/\Fr h x/\J=n-i) n
  ⟨0,aA rfl,fF _,by rw[d];rfl,f,o,rfl⟩ ?_
 clear d o f
 rintro J c P ⟨i,⟨Y,rfl⟩,hi,B,L,F,rfl⟩
 simp(disch:=omega)only[go_sem]
 by_cases q:(i:Int)<(n:Int)
 ·rw[bM q]
  have b:i<n:=om
  have ci:P.cell id (off+i)=some (aB (a.getD i 0:Nat)):=by rw[F.cell (m om),G i b];congr 2;simp [zi,l,b]
  have r:=A.dZ b
  have K:a.idxOf (a.getD i 0)=i:=A.inj (A.idx r).1 b (A.idx r).2
  generalize R:a.getD i 0=k at ci r K
  have U:decide ((k:Int)<0)=false:=bJ om
  have s:decide ((n:Int)<=(k:Int))=false:=bJ om
  have y:=bF (vs:=rc n λj=>if a.idxOf j<i then aB (a.idxOf j:Nat) else aB 0) (off:=k) (by rw[cK];exact r) P S (aB i)
  rw[eJ] at y
  simp(disch:=omega)only[go_sem,z.ixa,ci,U,s,B,y]
  rw[dY i]
  refine⟨n-(i+1),om,i+1,aA rfl,om,?_,L,F.set om _,rfl⟩
  congr 2
  refine aY λj t=>?_
  by_cases e:j=k
  ·rw[aV e,e,K,aV om]
  ·rw[aZ e]
   have W:a.idxOf j≠i:=λQ=>e (by rw[←(A.idx t).2,Q,R])
   by_cases s:a.idxOf j<i
   ·rw[aV s,aV om]
   ·rw[aZ s,aZ om]
 rw[bJ q]
 obtain rfl:i=n:=om
 simp(disch:=omega)only[go_sem]
 refine⟨by rw[gG,l,p],?_,by rw[p];exact L,F⟩
 rw[p,B]
 congr 2
 rw[←Kp,gG,l]
 exact aY λj t=>by rw[aV (A.idx t).1,lU (by rw[l];exact t)]
set_option maxHeartbeats 8000000 in
theorem one_gen {g:Nat}(o:T g=some c_chain_one)(n:Nat)(h:H)(A:n<=1000):
  Ev T g [aB n] h (λv h'=>Ku h h' v (cH n)):=by
 refine yN o rfl ?_
 simp(disch:=omega)only[go_sem,c_chain_one,aF,mks_zeros h n om]
 have f:Fr h (h.new (.cells false (rc n λ_=> aB 0))):=(Fr.refl h).new _
 have b:(h.new (.cells false (rc n λ_=> aB 0))).get h.next=some (.cells false (rc n λ_=> aB 0)):=H.aN ..
 have c:(h.new (.cells false (rc n λ_=> aB 0))).next=h.next+1:=H.aX ..
 generalize h.new (.cells false (rc n λ_=> aB 0))=z at*
 obtain⟨S,d⟩:=JR h.next
 rw[d] at b c
 rw[d]
 refine aH (λr a p=> ∃(i:Nat),(∃j:Nat->V,a= [aB n,.aD,.sl S 0 n (.kn n),j 3,aB n,aB i,j 6])/\i<=n/\
   p.get S=some (.cells false (rc n λj=>if j<i then aB (j:Nat) else aB 0))/\p.next=S+1/\Fr h p/\r=n-i) n
  ⟨0,aA rfl,fF _,by rw[b];rfl,c,f,rfl⟩ ?_
 clear b f c
 rintro r a x ⟨i,⟨y,rfl⟩,hi,u,s,F,rfl⟩
 simp(disch:=omega)only[go_sem]
 by_cases k:(i:Int)<(n:Int)
 ·rw[bM k]
  have m:i<n:=om
  have w:decide ((i:Int)<0)=false:=bJ om
  have l:decide ((n:Int)<=(i:Int))=false:=bJ om
  have t:=bF (vs:=rc n λj=>if j<i then aB (j:Nat) else aB 0) (off:=i) (by rw[cK];exact m) x S (aB i)
  rw[eJ] at t
  simp(disch:=omega)only[go_sem,w,l,u,t]
  rw[dY i]
  refine⟨n-(i+1),om,i+1,aA rfl,om,?_,s,F.set om _,rfl⟩
  congr 2
  refine aY λj q=>?_
  by_cases e:j=i
  ·rw[aV e,aV om,e]
  ·rw[aZ e]
   by_cases l:j<i
   ·rw[aV l,aV om]
   ·rw[aZ l,aZ om]
 rw[bJ k]
 obtain rfl:i=n:=om
 simp(disch:=omega)only[go_sem]
 refine⟨by rw[gY,d],?_,by rw[d];exact s,F⟩
 rw[d,u]
 congr 2
 rw[←Kp,gY]
 exact aY λj q=>by rw[aV q,eX q]
theorem times_ok (u w:V)(a b:List Nat)(h:H)(e:a.length<=1000)(c:SI h u (zi a))(f:SI h w (zi b))(d: ∀i,i<a.length->a.getD i 0<b.length):
  Ev T 86 [u,w] h (λv h'=>Ku h h' v (bE a b)):=mul_gen (rfl:T 86=some c_classes_element_times) u w a b h e c f d
end Go.Proofs.YtapfcpkecmmagaaGreat
