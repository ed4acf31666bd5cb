/- Layer 8: products, inverses and the identity of package chain. -/
import Derived.Test.YtapfcpkecmmagaaGreatAy37
import Derived.Test.YtapfcpkecmmagaaGreatC27code
namespace Go.Proofs.YtapfcpkecmmagaaGreat
open Go Go.Ay Go.Pm
set_option maxRecDepth 100000
theorem lU (h:H)(n:Nat)(hn:n<=100000):Cv h 1 8 [aA 0] (aA n) (aA n)=some (.sl h.next 0 n (.kn n),h.new (.cells false (rc n λ_=> aA 0))):=by
 rw[qZ (by omega) (Int.le_refl _) (by omega) (by omega),Int.toNat_natCast,Nat.mul_one,yM,show ints (List.replicate n 0)=rc n λ_=> aA 0 from (Iw (by simp [aM]) λi hi=>by simp [ints,hi]).symm]
set_option maxHeartbeats 8000000 in
theorem qL {g:Nat}(hgt:T g=some lL)(u w:V)(a b:List Nat)(h:H)(hn:a.length<=1000)(hu:SI h u (zi a))(hw:SI h w (zi b))(hr: ∀i,i<a.length->a.getD i 0<b.length):
  Ev T g [u,w] h (λv h'=>Uv h h' v (aV a b)):=by
 refine Et hgt rfl ?_
 have lu:=hu.lens
 rw[aS] at lu
 obtain⟨id,off,sh,hid,hc⟩:=hu.open
 rw[aS] at sh hid hc
 obtain⟨id2,off2,sh2,hid2,hc2⟩:=hw.open
 rw[aS] at sh2 hid2 hc2
 simp(disch:=omega)only[go_sem,lL,aE,lu,lU h a.length (by omega)]
 have hf1:Fr h (h.new (.cells false (rc a.length λ_=> aA 0))):=(Fr.refl h).new _
 have hg1:(h.new (.cells false (rc a.length λ_=> aA 0))).get h.next=some (.cells false (rc a.length λ_=> aA 0)):=H.aL ..
 have hn1:(h.new (.cells false (rc a.length λ_=> aA 0))).next=h.next+1:=H.aT ..
 generalize h.new (.cells false (rc a.length λ_=> aA 0))=h1 at*
 obtain⟨S,hS⟩:=exI h.next
 rw[hS] at hg1 hn1
 rw[hS]
 refine aJ (λk' vars hh=> ∃(i:Nat),(∃j:Nat->V,vars= [u,w,.aC,.sl S 0 a.length (.kn a.length),j 4,j 5,u,aA (a.length:Int),aA i,j 9])/\i<=a.length/\
   hh.get S=some (.cells false (rc a.length λj=>if j<i then aA ((aV a b).getD j 0:Nat) else aA 0))/\hh.next=S+1/\Fr h hh/\k'=a.length-i) a.length
  ⟨0,aB rfl,lW _,by rw[hg1];rfl,hn1,hf1,rfl⟩ ?_
 clear hg1 hf1 hn1
 rintro k' vars h2 ⟨i,⟨jk,rfl⟩,hi,gS,lS,F,rfl⟩
 simp(disch:=omega)only[go_sem]
 by_cases hlt:(i:Int)<(a.length:Int)
 ·rw[decide_eq_true hlt]
  have hi':i<a.length:=by omega
  have ci:h2.cell id (off+i)=some (aA (a.getD i 0:Nat)):=by rw[F.cell (hid (by omega)),hc i hi'];congr 2;simp [zi,hi']
  have r:=hr i hi'
  generalize hk:a.getD i 0=k at ci r
  have ck:h2.cell id2 (off2+k)=some (aA (b.getD k 0:Nat)):=by rw[F.cell (hid2 (by omega)),hc2 k r];congr 2;simp [zi,r]
  have e1:decide ((i:Int)<0)=false:=kU (by omega)
  have e2:decide ((a.length:Int)<=(i:Int))=false:=kU (by omega)
  have pt:=aZ (vs:=rc a.length λj=>if j<i then aA ((aV a b).getD j 0:Nat) else aA 0) (off:=i) (by rw[dX];exact hi') h2 S (aA (b.getD k 0:Nat))
  rw[jL] at pt
  simp(disch:=omega)only[go_sem,sh.ixa,sh2.ixa,ci,ck,e1,e2,gS,pt]
  rw[jP i]
  refine⟨a.length-(i+1),by omega,i+1,aB rfl,by omega,?_,lS,F.set (by omega) _,rfl⟩
  congr 2
  refine bH λj hj=>?_
  by_cases e:j=i
  ·subst e
   rw[if_pos rfl,if_pos (by omega),cH hi',hk]
  ·rw[if_neg e]
   by_cases e2:j<i
   ·rw[if_pos e2,if_pos (by omega)]
   ·rw[if_neg e2,if_neg (by omega)]
 rw[decide_eq_false hlt]
 obtain rfl:i=a.length:=by omega
 simp(disch:=omega)only[go_sem]
 refine⟨by rw[eV,hS],?_,by rw[hS];exact lS,F⟩
 rw[hS,gS]
 congr 2
 rw[←Yn,eV]
 exact bH λj hj=>by rw[if_pos hj]
set_option maxHeartbeats 8000000 in
theorem Nk {g:Nat}(hgt:T g=some sV)(u:V)(n:Nat)(a:List Nat)(h:H)(hn:n<=1000)(A:bG n a)(hu:SI h u (zi a)):
  Ev T g [u] h (λv h'=>Uv h h' v (dI a)):=by
 refine Et hgt rfl ?_
 have la:=A.len
 have lu:=hu.lens
 rw[aS,la] at lu
 obtain⟨id,off,sh,hid,hc⟩:=hu.open
 rw[aS,la] at sh hid hc
 simp(disch:=omega)only[go_sem,sV,aE,lu,lU h n (by omega)]
 have hf1:Fr h (h.new (.cells false (rc n λ_=> aA 0))):=(Fr.refl h).new _
 have hg1:(h.new (.cells false (rc n λ_=> aA 0))).get h.next=some (.cells false (rc n λ_=> aA 0)):=H.aL ..
 have hn1:(h.new (.cells false (rc n λ_=> aA 0))).next=h.next+1:=H.aT ..
 generalize h.new (.cells false (rc n λ_=> aA 0))=h1 at*
 obtain⟨S,hS⟩:=exI h.next
 rw[hS] at hg1 hn1
 rw[hS]
 refine aJ (λk' vars hh=> ∃(i:Nat),(∃j:Nat->V,vars= [u,.aC,.sl S 0 n (.kn n),j 3,j 4,u,aA n,aA i,j 8])/\i<=n/\
   hh.get S=some (.cells false (rc n λj=>if a.idxOf j<i then aA (a.idxOf j:Nat) else aA 0))/\hh.next=S+1/\Fr h hh/\k'=n-i) n
  ⟨0,aB rfl,lW _,by rw[hg1];rfl,hn1,hf1,rfl⟩ ?_
 clear hg1 hf1 hn1
 rintro k' vars h2 ⟨i,⟨jk,rfl⟩,hi,gS,lS,F,rfl⟩
 simp(disch:=omega)only[go_sem]
 by_cases hlt:(i:Int)<(n:Int)
 ·rw[decide_eq_true hlt]
  have hi':i<n:=by omega
  have ci:h2.cell id (off+i)=some (aA (a.getD i 0:Nat)):=by rw[F.cell (hid (by omega)),hc i hi'];congr 2;simp [zi,la,hi']
  have r:=A.fW hi'
  have hx:a.idxOf (a.getD i 0)=i:=A.inj (A.idx r).1 hi' (A.idx r).2
  generalize hk:a.getD i 0=k at ci r hx
  have e1:decide ((k:Int)<0)=false:=kU (by omega)
  have e2:decide ((n:Int)<=(k:Int))=false:=kU (by omega)
  have pt:=aZ (vs:=rc n λj=>if a.idxOf j<i then aA (a.idxOf j:Nat) else aA 0) (off:=k) (by rw[dX];exact r) h2 S (aA i)
  rw[jL] at pt
  simp(disch:=omega)only[go_sem,sh.ixa,ci,e1,e2,gS,pt]
  rw[jP i]
  refine⟨n-(i+1),by omega,i+1,aB rfl,by omega,?_,lS,F.set (by omega) _,rfl⟩
  congr 2
  refine bH λj hj=>?_
  by_cases e:j=k
  ·rw[if_pos e,e,hx,if_pos (by omega)]
  ·rw[if_neg e]
   have hne:a.idxOf j≠i:=λe3=>e (by rw[←(A.idx hj).2,e3,hk])
   by_cases e2:a.idxOf j<i
   ·rw[if_pos e2,if_pos (by omega)]
   ·rw[if_neg e2,if_neg (by omega)]
 rw[decide_eq_false hlt]
 obtain rfl:i=n:=by omega
 simp(disch:=omega)only[go_sem]
 refine⟨by rw[kW,la,hS],?_,by rw[hS];exact lS,F⟩
 rw[hS,gS]
 congr 2
 rw[←Yn,kW,la]
 exact bH λj hj=>by rw[if_pos (A.idx hj).1,qQ (by rw[la];exact hj)]
set_option maxHeartbeats 8000000 in
theorem Fm {g:Nat}(hgt:T g=some pP)(n:Nat)(h:H)(hn:n<=1000):
  Ev T g [aA n] h (λv h'=>Uv h h' v (bZ n)):=by
 refine Et hgt rfl ?_
 simp(disch:=omega)only[go_sem,pP,aE,lU h n (by omega)]
 have hf1:Fr h (h.new (.cells false (rc n λ_=> aA 0))):=(Fr.refl h).new _
 have hg1:(h.new (.cells false (rc n λ_=> aA 0))).get h.next=some (.cells false (rc n λ_=> aA 0)):=H.aL ..
 have hn1:(h.new (.cells false (rc n λ_=> aA 0))).next=h.next+1:=H.aT ..
 generalize h.new (.cells false (rc n λ_=> aA 0))=h1 at*
 obtain⟨S,hS⟩:=exI h.next
 rw[hS] at hg1 hn1
 rw[hS]
 refine aJ (λk' vars hh=> ∃(i:Nat),(∃j:Nat->V,vars= [aA n,.aC,.sl S 0 n (.kn n),j 3,aA n,aA i,j 6])/\i<=n/\
   hh.get S=some (.cells false (rc n λj=>if j<i then aA (j:Nat) else aA 0))/\hh.next=S+1/\Fr h hh/\k'=n-i) n
  ⟨0,aB rfl,lW _,by rw[hg1];rfl,hn1,hf1,rfl⟩ ?_
 clear hg1 hf1 hn1
 rintro k' vars h2 ⟨i,⟨jk,rfl⟩,hi,gS,lS,F,rfl⟩
 simp(disch:=omega)only[go_sem]
 by_cases hlt:(i:Int)<(n:Int)
 ·rw[decide_eq_true hlt]
  have hi':i<n:=by omega
  have e1:decide ((i:Int)<0)=false:=kU (by omega)
  have e2:decide ((n:Int)<=(i:Int))=false:=kU (by omega)
  have pt:=aZ (vs:=rc n λj=>if j<i then aA (j:Nat) else aA 0) (off:=i) (by rw[dX];exact hi') h2 S (aA i)
  rw[jL] at pt
  simp(disch:=omega)only[go_sem,e1,e2,gS,pt]
  rw[jP i]
  refine⟨n-(i+1),by omega,i+1,aB rfl,by omega,?_,lS,F.set (by omega) _,rfl⟩
  congr 2
  refine bH λj hj=>?_
  by_cases e:j=i
  ·rw[if_pos e,if_pos (by omega),e]
  ·rw[if_neg e]
   by_cases e2:j<i
   ·rw[if_pos e2,if_pos (by omega)]
   ·rw[if_neg e2,if_neg (by omega)]
 rw[decide_eq_false hlt]
 obtain rfl:i=n:=by omega
 simp(disch:=omega)only[go_sem]
 refine⟨by rw[iT,hS],?_,by rw[hS];exact lS,F⟩
 rw[hS,gS]
 congr 2
 rw[←Yn,iT]
 exact bH λj hj=>by rw[if_pos hj,fD hj]
theorem Qa (u w:V)(a b:List Nat)(h:H)(hn:a.length<=1000)(hu:SI h u (zi a))(hw:SI h w (zi b))(hr: ∀i,i<a.length->a.getD i 0<b.length):
  Ev T 86 [u,w] h (λv h'=>Uv h h' v (aV a b)):=qL (rfl:T 86=some mV) u w a b h hn hu hw hr
end Go.Proofs.YtapfcpkecmmagaaGreat
