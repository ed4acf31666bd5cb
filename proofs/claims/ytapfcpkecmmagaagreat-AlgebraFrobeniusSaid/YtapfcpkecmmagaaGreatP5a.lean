/- Layer 8: products, inverses and the identity of package chain. -/
import Derived.Test.YtapfcpkecmmagaaGreatAy37
import Derived.Test.YtapfcpkecmmagaaGreatC27code
namespace Go.Proofs.YtapfcpkecmmagaaGreat
open Go Go.Ay Go.Pm
set_option maxRecDepth 100000
theorem mks_zeros (h:H)(n:Nat)(hn:n<=100000):tF h 1 8 [aC 0] (aC n) (aC n)=some (.sl h.next 0 n (.kn n),h.new (.cells false (rc n λ_=> aC 0))):=by
 rw[lQ (by omega) (Int.le_refl _) (by omega) (by omega),Int.toNat_natCast,Nat.mul_one,tC,show ints (List.replicate n 0)=rc n λ_=> aC 0 from (xF (by simp [aN]) λi hi=>by simp [ints,hi]).symm]
set_option maxHeartbeats 8000000 in
theorem mul_gen {g:Nat}(hgt:T g=some c_chain_mul)(u w:V)(a b:List Nat)(h:H)(hn:a.length<=1000)(hu:SI h u (zi a))(hw:SI h w (zi b))(hr: ∀i,i<a.length->a.getD i 0<b.length):
  Ev T g [u,w] h (λv h'=>Gl h h' v (aQ a b)):=by
 refine tX hgt rfl ?_
 have lu:=hu.lens
 rw[aU] at lu
 obtain⟨id,off,sh,hid,hc⟩:=hu.open
 rw[aU] at sh hid hc
 obtain⟨id2,off2,sh2,hid2,hc2⟩:=hw.open
 rw[aU] at sh2 hid2 hc2
 simp(disch:=omega)only[go_sem,c_chain_mul,aE,lu,mks_zeros h a.length (by omega)]
 have hf1:Fr h (h.new (.cells false (rc a.length λ_=> aC 0))):=(Fr.refl h).new _
 have hg1:(h.new (.cells false (rc a.length λ_=> aC 0))).get h.next=some (.cells false (rc a.length λ_=> aC 0)):=H.aM ..
 have hn1:(h.new (.cells false (rc a.length λ_=> aC 0))).next=h.next+1:=H.aV ..
 generalize h.new (.cells false (rc a.length λ_=> aC 0))=h1 at*
 obtain⟨S,hS⟩:=AS h.next
 rw[hS] at hg1 hn1
 rw[hS]
 refine aJ (λk' vars hh=> ∃(i:Nat),(∃j:Nat->V,vars= [u,w,.aB,.sl S 0 a.length (.kn a.length),j 4,j 5,u,aC (a.length:Int),aC i,j 9])/\i<=a.length/\
   hh.get S=some (.cells false (rc a.length λj=>if j<i then aC ((aQ a b).getD j 0:Nat) else aC 0))/\hh.next=S+1/\Fr h hh/\k'=a.length-i) a.length
  ⟨0,aA rfl,gK _,by rw[hg1];rfl,hn1,hf1,rfl⟩ ?_
 clear hg1 hf1 hn1
 rintro k' vars h2 ⟨i,⟨jk,rfl⟩,hi,gS,lS,F,rfl⟩
 simp(disch:=omega)only[go_sem]
 by_cases hlt:(i:Int)<(a.length:Int)
 ·rw[decide_eq_true hlt]
  have hi':i<a.length:=by omega
  have ci:h2.cell id (off+i)=some (aC (a.getD i 0:Nat)):=by rw[F.cell (hid (by omega)),hc i hi'];congr 2;simp [zi,hi']
  have r:=hr i hi'
  generalize hk:a.getD i 0=k at ci r
  have ck:h2.cell id2 (off2+k)=some (aC (b.getD k 0:Nat)):=by rw[F.cell (hid2 (by omega)),hc2 k r];congr 2;simp [zi,r]
  have e1:decide ((i:Int)<0)=false:=iG (by omega)
  have e2:decide ((a.length:Int)<=(i:Int))=false:=iG (by omega)
  have pt:=bE (vs:=rc a.length λj=>if j<i then aC ((aQ a b).getD j 0:Nat) else aC 0) (off:=i) (by rw[cV];exact hi') h2 S (aC (b.getD k 0:Nat))
  rw[eY] at pt
  simp(disch:=omega)only[go_sem,sh.ixa,sh2.ixa,ci,ck,e1,e2,gS,pt]
  rw[iO i]
  refine⟨a.length-(i+1),by omega,i+1,aA rfl,by omega,?_,lS,F.set (by omega) _,rfl⟩
  congr 2
  refine bH λj hj=>?_
  by_cases e:j=i
  ·subst e
   rw[if_pos rfl,if_pos (by omega),cH hi',hk]
  ·rw[if_neg e]
   by_cases e2:j<i
   ·rw[if_pos e2,if_pos (by omega)]
   ·rw[if_neg e2,if_neg (by omega)]
 rw[decide_eq_false hlt]
 obtain rfl:i=a.length:=by omega
 simp(disch:=omega)only[go_sem]
 refine⟨by rw[dP,hS],?_,by rw[hS];exact lS,F⟩
 rw[hS,gS]
 congr 2
 rw[←Da,dP]
 exact bH λj hj=>by rw[if_pos hj]
set_option maxHeartbeats 8000000 in
theorem inv_gen {g:Nat}(hgt:T g=some c_chain_inv)(u:V)(n:Nat)(a:List Nat)(h:H)(hn:n<=1000)(A:aX n a)(hu:SI h u (zi a)):
  Ev T g [u] h (λv h'=>Gl h h' v (bX a)):=by
 refine tX hgt rfl ?_
 have la:=A.len
 have lu:=hu.lens
 rw[aU,la] at lu
 obtain⟨id,off,sh,hid,hc⟩:=hu.open
 rw[aU,la] at sh hid hc
 simp(disch:=omega)only[go_sem,c_chain_inv,aE,lu,mks_zeros h n (by omega)]
 have hf1:Fr h (h.new (.cells false (rc n λ_=> aC 0))):=(Fr.refl h).new _
 have hg1:(h.new (.cells false (rc n λ_=> aC 0))).get h.next=some (.cells false (rc n λ_=> aC 0)):=H.aM ..
 have hn1:(h.new (.cells false (rc n λ_=> aC 0))).next=h.next+1:=H.aV ..
 generalize h.new (.cells false (rc n λ_=> aC 0))=h1 at*
 obtain⟨S,hS⟩:=AS h.next
 rw[hS] at hg1 hn1
 rw[hS]
 refine aJ (λk' vars hh=> ∃(i:Nat),(∃j:Nat->V,vars= [u,.aB,.sl S 0 n (.kn n),j 3,j 4,u,aC n,aC i,j 8])/\i<=n/\
   hh.get S=some (.cells false (rc n λj=>if a.idxOf j<i then aC (a.idxOf j:Nat) else aC 0))/\hh.next=S+1/\Fr h hh/\k'=n-i) n
  ⟨0,aA rfl,gK _,by rw[hg1];rfl,hn1,hf1,rfl⟩ ?_
 clear hg1 hf1 hn1
 rintro k' vars h2 ⟨i,⟨jk,rfl⟩,hi,gS,lS,F,rfl⟩
 simp(disch:=omega)only[go_sem]
 by_cases hlt:(i:Int)<(n:Int)
 ·rw[decide_eq_true hlt]
  have hi':i<n:=by omega
  have ci:h2.cell id (off+i)=some (aC (a.getD i 0:Nat)):=by rw[F.cell (hid (by omega)),hc i hi'];congr 2;simp [zi,la,hi']
  have r:=A.dU hi'
  have hx:a.idxOf (a.getD i 0)=i:=A.inj (A.idx r).1 hi' (A.idx r).2
  generalize hk:a.getD i 0=k at ci r hx
  have e1:decide ((k:Int)<0)=false:=iG (by omega)
  have e2:decide ((n:Int)<=(k:Int))=false:=iG (by omega)
  have pt:=bE (vs:=rc n λj=>if a.idxOf j<i then aC (a.idxOf j:Nat) else aC 0) (off:=k) (by rw[cV];exact r) h2 S (aC i)
  rw[eY] at pt
  simp(disch:=omega)only[go_sem,sh.ixa,ci,e1,e2,gS,pt]
  rw[iO i]
  refine⟨n-(i+1),by omega,i+1,aA rfl,by omega,?_,lS,F.set (by omega) _,rfl⟩
  congr 2
  refine bH λj hj=>?_
  by_cases e:j=k
  ·rw[if_pos e,e,hx,if_pos (by omega)]
  ·rw[if_neg e]
   have hne:a.idxOf j≠i:=λe3=>e (by rw[←(A.idx hj).2,e3,hk])
   by_cases e2:a.idxOf j<i
   ·rw[if_pos e2,if_pos (by omega)]
   ·rw[if_neg e2,if_neg (by omega)]
 rw[decide_eq_false hlt]
 obtain rfl:i=n:=by omega
 simp(disch:=omega)only[go_sem]
 refine⟨by rw[gU,la,hS],?_,by rw[hS];exact lS,F⟩
 rw[hS,gS]
 congr 2
 rw[←Da,gU,la]
 exact bH λj hj=>by rw[if_pos (A.idx hj).1,kU (by rw[la];exact hj)]
set_option maxHeartbeats 8000000 in
theorem one_gen {g:Nat}(hgt:T g=some c_chain_one)(n:Nat)(h:H)(hn:n<=1000):
  Ev T g [aC n] h (λv h'=>Gl h h' v (aW n)):=by
 refine tX hgt rfl ?_
 simp(disch:=omega)only[go_sem,c_chain_one,aE,mks_zeros h n (by omega)]
 have hf1:Fr h (h.new (.cells false (rc n λ_=> aC 0))):=(Fr.refl h).new _
 have hg1:(h.new (.cells false (rc n λ_=> aC 0))).get h.next=some (.cells false (rc n λ_=> aC 0)):=H.aM ..
 have hn1:(h.new (.cells false (rc n λ_=> aC 0))).next=h.next+1:=H.aV ..
 generalize h.new (.cells false (rc n λ_=> aC 0))=h1 at*
 obtain⟨S,hS⟩:=AS h.next
 rw[hS] at hg1 hn1
 rw[hS]
 refine aJ (λk' vars hh=> ∃(i:Nat),(∃j:Nat->V,vars= [aC n,.aB,.sl S 0 n (.kn n),j 3,aC n,aC i,j 6])/\i<=n/\
   hh.get S=some (.cells false (rc n λj=>if j<i then aC (j:Nat) else aC 0))/\hh.next=S+1/\Fr h hh/\k'=n-i) n
  ⟨0,aA rfl,gK _,by rw[hg1];rfl,hn1,hf1,rfl⟩ ?_
 clear hg1 hf1 hn1
 rintro k' vars h2 ⟨i,⟨jk,rfl⟩,hi,gS,lS,F,rfl⟩
 simp(disch:=omega)only[go_sem]
 by_cases hlt:(i:Int)<(n:Int)
 ·rw[decide_eq_true hlt]
  have hi':i<n:=by omega
  have e1:decide ((i:Int)<0)=false:=iG (by omega)
  have e2:decide ((n:Int)<=(i:Int))=false:=iG (by omega)
  have pt:=bE (vs:=rc n λj=>if j<i then aC (j:Nat) else aC 0) (off:=i) (by rw[cV];exact hi') h2 S (aC i)
  rw[eY] at pt
  simp(disch:=omega)only[go_sem,e1,e2,gS,pt]
  rw[iO i]
  refine⟨n-(i+1),by omega,i+1,aA rfl,by omega,?_,lS,F.set (by omega) _,rfl⟩
  congr 2
  refine bH λj hj=>?_
  by_cases e:j=i
  ·rw[if_pos e,if_pos (by omega),e]
  ·rw[if_neg e]
   by_cases e2:j<i
   ·rw[if_pos e2,if_pos (by omega)]
   ·rw[if_neg e2,if_neg (by omega)]
 rw[decide_eq_false hlt]
 obtain rfl:i=n:=by omega
 simp(disch:=omega)only[go_sem]
 refine⟨by rw[eJ,hS],?_,by rw[hS];exact lS,F⟩
 rw[hS,gS]
 congr 2
 rw[←Da,eJ]
 exact bH λj hj=>by rw[if_pos hj,dM hj]
theorem times_ok (u w:V)(a b:List Nat)(h:H)(hn:a.length<=1000)(hu:SI h u (zi a))(hw:SI h w (zi b))(hr: ∀i,i<a.length->a.getD i 0<b.length):
  Ev T 86 [u,w] h (λv h'=>Gl h h' v (aQ a b)):=mul_gen (rfl:T 86=some c_classes_element_times) u w a b h hn hu hw hr
end Go.Proofs.YtapfcpkecmmagaaGreat
