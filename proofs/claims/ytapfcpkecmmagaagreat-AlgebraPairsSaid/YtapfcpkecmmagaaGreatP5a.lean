/- Layer 8: products, inverses and the identity of package chain. -/
import Derived.Test.YtapfcpkecmmagaaGreatAy37
import Derived.Test.YtapfcpkecmmagaaGreatC27code
namespace Go.Proofs.YtapfcpkecmmagaaGreat
open Go Go.Ay Go.Pm
set_option maxRecDepth 100000
theorem kT (h:H)(n:Nat)(hn:n<=100000):Fh h 1 8 [aB 0] (aB n) (aB n)=some (.sl h.next 0 n (.kn n),h.new (.cells false (rc n λ_=> aB 0))):=by
 rw[sG (by omega) (Int.le_refl _) (by omega) (by omega),Int.toNat_natCast,Nat.mul_one,Dx,show ints (List.replicate n 0)=rc n λ_=> aB 0 from (Kh (by simp [aJ]) λi hi=>by simp [ints,hi]).symm]
set_option maxHeartbeats 8000000 in
theorem rI {g:Nat}(hgt:T g=some lP)(u w:V)(a b:List Nat)(h:H)(hn:a.length<=1000)(hu:SI h u (zi a))(hw:SI h w (zi b))(hr: ∀i,i<a.length->a.getD i 0<b.length):
  Ev T g [u,w] h (λv h'=>Vb h h' v (aS a b)):=by
 refine Gq hgt rfl ?_
 have lu:=hu.lens
 rw[aP] at lu
 obtain⟨id,off,sh,hid,hc⟩:=hu.open
 rw[aP] at sh hid hc
 obtain⟨id2,off2,sh2,hid2,hc2⟩:=hw.open
 rw[aP] at sh2 hid2 hc2
 simp(disch:=omega)only[go_sem,lP,aF,lu,kT h a.length (by omega)]
 have hf1:Fr h (h.new (.cells false (rc a.length λ_=> aB 0))):=(Fr.refl h).new _
 have hg1:(h.new (.cells false (rc a.length λ_=> aB 0))).get h.next=some (.cells false (rc a.length λ_=> aB 0)):=H.aL ..
 have hn1:(h.new (.cells false (rc a.length λ_=> aB 0))).next=h.next+1:=H.aV ..
 generalize h.new (.cells false (rc a.length λ_=> aB 0))=h1 at*
 obtain⟨S,hS⟩:=exI h.next
 rw[hS] at hg1 hn1
 rw[hS]
 refine aI (λk' vars hh=> ∃(i:Nat),(∃j:Nat->V,vars= [u,w,.aC,.sl S 0 a.length (.kn a.length),j 4,j 5,u,aB (a.length:Int),aB i,j 9])/\i<=a.length/\
   hh.get S=some (.cells false (rc a.length λj=>if j<i then aB ((aS a b).getD j 0:Nat) else aB 0))/\hh.next=S+1/\Fr h hh/\k'=a.length-i) a.length
  ⟨0,aA rfl,lG _,by rw[hg1];rfl,hn1,hf1,rfl⟩ ?_
 clear hg1 hf1 hn1
 rintro k' vars h2 ⟨i,⟨jk,rfl⟩,hi,gS,lS,F,rfl⟩
 simp(disch:=omega)only[go_sem]
 by_cases hlt:(i:Int)<(a.length:Int)
 ·rw[decide_eq_true hlt]
  have hi':i<a.length:=by omega
  have ci:h2.cell id (off+i)=some (aB (a.getD i 0:Nat)):=by rw[F.cell (hid (by omega)),hc i hi'];congr 2;simp [zi,hi']
  have r:=hr i hi'
  generalize hk:a.getD i 0=k at ci r
  have ck:h2.cell id2 (off2+k)=some (aB (b.getD k 0:Nat)):=by rw[F.cell (hid2 (by omega)),hc2 k r];congr 2;simp [zi,r]
  have e1:decide ((i:Int)<0)=false:=jC (by omega)
  have e2:decide ((a.length:Int)<=(i:Int))=false:=jC (by omega)
  have pt:=aX (vs:=rc a.length λj=>if j<i then aB ((aS a b).getD j 0:Nat) else aB 0) (off:=i) (by rw[cZ];exact hi') h2 S (aB (b.getD k 0:Nat))
  rw[fW] at pt
  simp(disch:=omega)only[go_sem,sh.ixa,sh2.ixa,ci,ck,e1,e2,gS,pt]
  rw[iJ i]
  refine⟨a.length-(i+1),by omega,i+1,aA rfl,by omega,?_,lS,F.set (by omega) _,rfl⟩
  congr 2
  refine aU λj hj=>?_
  by_cases e:j=i
  ·subst e
   rw[if_pos rfl,if_pos (by omega),cU hi',hk]
  ·rw[if_neg e]
   by_cases e2:j<i
   ·rw[if_pos e2,if_pos (by omega)]
   ·rw[if_neg e2,if_neg (by omega)]
 rw[decide_eq_false hlt]
 obtain rfl:i=a.length:=by omega
 simp(disch:=omega)only[go_sem]
 refine⟨by rw[fK,hS],?_,by rw[hS];exact lS,F⟩
 rw[hS,gS]
 congr 2
 rw[←Mv,fK]
 exact aU λj hj=>by rw[if_pos hj]
set_option maxHeartbeats 8000000 in
theorem Oj {g:Nat}(hgt:T g=some tP)(u:V)(n:Nat)(a:List Nat)(h:H)(hn:n<=1000)(A:bG n a)(hu:SI h u (zi a)):
  Ev T g [u] h (λv h'=>Vb h h' v (cF a)):=by
 refine Gq hgt rfl ?_
 have la:=A.len
 have lu:=hu.lens
 rw[aP,la] at lu
 obtain⟨id,off,sh,hid,hc⟩:=hu.open
 rw[aP,la] at sh hid hc
 simp(disch:=omega)only[go_sem,tP,aF,lu,kT h n (by omega)]
 have hf1:Fr h (h.new (.cells false (rc n λ_=> aB 0))):=(Fr.refl h).new _
 have hg1:(h.new (.cells false (rc n λ_=> aB 0))).get h.next=some (.cells false (rc n λ_=> aB 0)):=H.aL ..
 have hn1:(h.new (.cells false (rc n λ_=> aB 0))).next=h.next+1:=H.aV ..
 generalize h.new (.cells false (rc n λ_=> aB 0))=h1 at*
 obtain⟨S,hS⟩:=exI h.next
 rw[hS] at hg1 hn1
 rw[hS]
 refine aI (λk' vars hh=> ∃(i:Nat),(∃j:Nat->V,vars= [u,.aC,.sl S 0 n (.kn n),j 3,j 4,u,aB n,aB i,j 8])/\i<=n/\
   hh.get S=some (.cells false (rc n λj=>if a.idxOf j<i then aB (a.idxOf j:Nat) else aB 0))/\hh.next=S+1/\Fr h hh/\k'=n-i) n
  ⟨0,aA rfl,lG _,by rw[hg1];rfl,hn1,hf1,rfl⟩ ?_
 clear hg1 hf1 hn1
 rintro k' vars h2 ⟨i,⟨jk,rfl⟩,hi,gS,lS,F,rfl⟩
 simp(disch:=omega)only[go_sem]
 by_cases hlt:(i:Int)<(n:Int)
 ·rw[decide_eq_true hlt]
  have hi':i<n:=by omega
  have ci:h2.cell id (off+i)=some (aB (a.getD i 0:Nat)):=by rw[F.cell (hid (by omega)),hc i hi'];congr 2;simp [zi,la,hi']
  have r:=A.eZ hi'
  have hx:a.idxOf (a.getD i 0)=i:=A.inj (A.idx r).1 hi' (A.idx r).2
  generalize hk:a.getD i 0=k at ci r hx
  have e1:decide ((k:Int)<0)=false:=jC (by omega)
  have e2:decide ((n:Int)<=(k:Int))=false:=jC (by omega)
  have pt:=aX (vs:=rc n λj=>if a.idxOf j<i then aB (a.idxOf j:Nat) else aB 0) (off:=k) (by rw[cZ];exact r) h2 S (aB i)
  rw[fW] at pt
  simp(disch:=omega)only[go_sem,sh.ixa,ci,e1,e2,gS,pt]
  rw[iJ i]
  refine⟨n-(i+1),by omega,i+1,aA rfl,by omega,?_,lS,F.set (by omega) _,rfl⟩
  congr 2
  refine aU λj hj=>?_
  by_cases e:j=k
  ·rw[if_pos e,e,hx,if_pos (by omega)]
  ·rw[if_neg e]
   have hne:a.idxOf j≠i:=λe3=>e (by rw[←(A.idx hj).2,e3,hk])
   by_cases e2:a.idxOf j<i
   ·rw[if_pos e2,if_pos (by omega)]
   ·rw[if_neg e2,if_neg (by omega)]
 rw[decide_eq_false hlt]
 obtain rfl:i=n:=by omega
 simp(disch:=omega)only[go_sem]
 refine⟨by rw[jS,la,hS],?_,by rw[hS];exact lS,F⟩
 rw[hS,gS]
 congr 2
 rw[←Mv,jS,la]
 exact aU λj hj=>by rw[if_pos (A.idx hj).1,pZ (by rw[la];exact hj)]
set_option maxHeartbeats 8000000 in
theorem Hd {g:Nat}(hgt:T g=some qB)(n:Nat)(h:H)(hn:n<=1000):
  Ev T g [aB n] h (λv h'=>Vb h h' v (bW n)):=by
 refine Gq hgt rfl ?_
 simp(disch:=omega)only[go_sem,qB,aF,kT h n (by omega)]
 have hf1:Fr h (h.new (.cells false (rc n λ_=> aB 0))):=(Fr.refl h).new _
 have hg1:(h.new (.cells false (rc n λ_=> aB 0))).get h.next=some (.cells false (rc n λ_=> aB 0)):=H.aL ..
 have hn1:(h.new (.cells false (rc n λ_=> aB 0))).next=h.next+1:=H.aV ..
 generalize h.new (.cells false (rc n λ_=> aB 0))=h1 at*
 obtain⟨S,hS⟩:=exI h.next
 rw[hS] at hg1 hn1
 rw[hS]
 refine aI (λk' vars hh=> ∃(i:Nat),(∃j:Nat->V,vars= [aB n,.aC,.sl S 0 n (.kn n),j 3,aB n,aB i,j 6])/\i<=n/\
   hh.get S=some (.cells false (rc n λj=>if j<i then aB (j:Nat) else aB 0))/\hh.next=S+1/\Fr h hh/\k'=n-i) n
  ⟨0,aA rfl,lG _,by rw[hg1];rfl,hn1,hf1,rfl⟩ ?_
 clear hg1 hf1 hn1
 rintro k' vars h2 ⟨i,⟨jk,rfl⟩,hi,gS,lS,F,rfl⟩
 simp(disch:=omega)only[go_sem]
 by_cases hlt:(i:Int)<(n:Int)
 ·rw[decide_eq_true hlt]
  have hi':i<n:=by omega
  have e1:decide ((i:Int)<0)=false:=jC (by omega)
  have e2:decide ((n:Int)<=(i:Int))=false:=jC (by omega)
  have pt:=aX (vs:=rc n λj=>if j<i then aB (j:Nat) else aB 0) (off:=i) (by rw[cZ];exact hi') h2 S (aB i)
  rw[fW] at pt
  simp(disch:=omega)only[go_sem,e1,e2,gS,pt]
  rw[iJ i]
  refine⟨n-(i+1),by omega,i+1,aA rfl,by omega,?_,lS,F.set (by omega) _,rfl⟩
  congr 2
  refine aU λj hj=>?_
  by_cases e:j=i
  ·rw[if_pos e,if_pos (by omega),e]
  ·rw[if_neg e]
   by_cases e2:j<i
   ·rw[if_pos e2,if_pos (by omega)]
   ·rw[if_neg e2,if_neg (by omega)]
 rw[decide_eq_false hlt]
 obtain rfl:i=n:=by omega
 simp(disch:=omega)only[go_sem]
 refine⟨by rw[iB,hS],?_,by rw[hS];exact lS,F⟩
 rw[hS,gS]
 congr 2
 rw[←Mv,iB]
 exact aU λj hj=>by rw[if_pos hj,fD hj]
theorem Vj (u w:V)(a b:List Nat)(h:H)(hn:a.length<=1000)(hu:SI h u (zi a))(hw:SI h w (zi b))(hr: ∀i,i<a.length->a.getD i 0<b.length):
  Ev T 86 [u,w] h (λv h'=>Vb h h' v (aS a b)):=rI (rfl:T 86=some nO) u w a b h hn hu hw hr
end Go.Proofs.YtapfcpkecmmagaaGreat
