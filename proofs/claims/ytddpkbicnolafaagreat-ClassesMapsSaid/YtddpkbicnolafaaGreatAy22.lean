/- aeZ fuel, the same answer. -/
import Derived.Test.YtddpkbicnolafaaGreatAy1b
namespace Go.Ay
def Le (a b:dW):Prop:= ∀ g args h r,a g args h=some r->b g args h=some r
theorem Le.refl (a:dW):Le a a:=λ _ _ _ _ h=>h
theorem Le.trans {a b c:dW} (h:Le a b) (k:Le b c):Le a c:=λ _ _ _ _ x=>k _ _ _ _ (h _ _ _ _ x)
section
variable {cl cl' yl yl':dW}
theorem sS (hc:Le cl cl') (hy:Le yl yl') {vars loc:List V} {h:H} {a:dZ} {r:V×H} (he:nV cl yl vars loc h a=some r):nV cl' yl' vars loc h a=some r:=by
 cases a with
 |op i=>rw [xS] at he ⊢;exact he
 |call g args=>rw [xL] at he ⊢;exact hc _ _ _ _ he
 |callv x args=>
  rw [tP] at he ⊢
  split at he
  ·exact hc _ _ _ _ he
  ·exact hy _ _ _ _ he
  ·cases he
 |calli g t x args=>
  rw [tN] at he ⊢
  split at he
  ·rename_i u v hx
   cases hq:Nat.beq u t with
   |false=>rw [hq] at he;cases he
   |true=>rw [hq] at he;exact hc _ _ _ _ he
  ·cases he
 |callp g args=>
  rw [nI] at he ⊢
  obtain ⟨v,h'⟩:=r
  obtain ⟨rfl,h1,h3,h2,e⟩:=Ap he
  have e2:=hc _ _ _ _ e
  unfold Oy
  simp only [h1,e2,h3,cond_true]
theorem sM (hc:Le cl cl') (hy:Le yl yl'): ∀ (its:List It) (vars loc:List V) (h:H) (r:List V×H),yK cl yl its vars loc h=some r->yK cl' yl' its vars loc h=some r
 | [],vars,loc,h,r,he=>by rw [Mt] at he ⊢;exact he
 |it::its,vars,loc,h,r,he=>by
  rw [pN] at he ⊢
  split at he
  ·split at he
   ·rename_i hw _ v h1 ha
    simp only [sS hc hy ha]
    exact sM hc hy its _ _ _ _ he
   ·cases he
  ·exact sM hc hy its _ _ _ _ he
  ·cases he
theorem xO (hc:Le cl cl') (hy:Le yl yl') {base:Nat}: ∀ (xs:List AI) (vars:List V) (log:Log) (h:H) (r:List V×H),zQ cl yl base xs vars log h=some r->zQ cl' yl' base xs vars log h=some r
 | [],vars,log,h,r,he=>by rw [Nz] at he ⊢;exact he
 |x::xs,vars,log,h,r,he=>by
  rw [jV] at he ⊢
  split at he
  ·split at he
   ·rename_i hw _ v h1 ha
    have ha':(if x.al then Uw vars h (base+x.i) x.it.a else nV cl' yl' vars [] h x.it.a)=some (v,h1):=by
     split at ha
     ·rename_i hal;rw [if_pos hal];exact ha
     ·rename_i hal;rw [if_neg hal];exact sS hc hy ha
    simp only [ha']
    split at he
    ·rename_i ho
     rw [if_pos ho]
     exact xO hc hy xs _ _ _ _ he
    ·cases he
   ·cases he
  ·split at he
   ·rename_i ho
    rw [if_pos ho]
    exact xO hc hy xs _ _ _ _ he
   ·cases he
  ·cases he
theorem Am {s s':List V->H->IE} (hs: ∀ vars h r,s vars h=some r->s' vars h=some r): ∀ (n n':Nat),n<=n'-> ∀ vars h r,Er s n vars h=some r->Er s' n' vars h=some r
 |0,_,_,vars,h,r,he=>by rw [Sy] at he;cases he
 |n+1,0,hn,_,_,_,_=>by omega
 |n+1,n'+1,hn,vars,h,r,he=>by
  rw [wM] at he ⊢
  cases hr:s vars h with
  |none=>simp [hr] at he
  |some q=>
   obtain ⟨e,v1,d1,h1⟩:=q
   rw [hs _ _ _ hr]
   simp only [hr] at he
   cases e with
   |norm=>
    simp only at he ⊢
    cases hr2:Er s n v1 h1 with
    |none=>simp [hr2] at he
    |some q=>
     rw [Am hs n n' (by omega) _ _ _ hr2]
     simp only [hr2] at he
     exact he
   |ret=>exact he
   |exit k=>exact he
theorem iQ (hc:Le cl cl') (hy:Le yl yl') {N N':Nat} (hN:N<=N') {rd:Option Nat}: ∀ (c:C) (vars:List V) (h:H) (r:E×List V×UT×H),run cl yl N rd c vars h=some r->run cl' yl' N' rd c vars h=some r:=by
 intro c
 induction c with
 |skip=>intro vars h r he;rw [Ka] at he ⊢;exact he
 |reg its=>
  intro vars h r he
  rw [CR] at he ⊢
  split at he
  ·rename_i v1 h1 hr
   simp only [sM hc hy _ _ _ _ _ hr];exact he
  ·cases he
 |any k nl its=>
  intro vars h r he
  rw [AQ] at he ⊢
  split at he
  ·rename_i v1 h1 hr
   simp only [xO hc hy _ _ _ _ _ hr];exact he
  ·cases he
 |regd its x args=>
  intro vars h r he
  rw [GF] at he ⊢
  simp only [Rf] at he ⊢
  split at he
  ·cases he
  ·rename_i hrd
   rw [if_neg hrd]
   split at he
   ·rename_i v1 h1 hr
    simp only [sM hc hy _ _ _ _ _ hr]
    exact he
   ·cases he
 |seq a b iha ihb=>
  intro vars h r he
  rw [run_seq] at he ⊢
  cases hr:run cl yl N rd a vars h with
  |none=>simp [hr] at he
  |some q=>
   obtain ⟨e,v1,d1,h1⟩:=q
   rw [iha _ _ _ hr]
   simp only [hr] at he
   cases e with
   |norm=>
    simp only at he ⊢
    cases hr2:run cl yl N rd b v1 h1 with
    |none=>simp [hr2] at he
    |some q=>
     rw [ihb _ _ _ hr2]
     simp only [hr2] at he
     exact he
   |ret=>exact he
   |exit k=>exact he
 |ite x a b iha ihb=>
  intro vars h r he
  rw [run_ite] at he ⊢
  split at he
  ·exact iha _ _ _ he
  ·exact ihb _ _ _ he
  ·cases he
 |block id a iha=>
  intro vars h r he
  rw [Mu] at he ⊢
  cases hr:run cl yl N rd a vars h with
  |none=>simp [hr] at he
  |some q=>
   rw [iha _ _ _ hr]
   simp only [hr] at he
   exact he
 |loop a iha=>
  intro vars h r he
  rw [Sr] at he ⊢
  exact Am iha N N' hN _ _ _ he
 |exit n=>intro vars h r he;rw [Va] at he ⊢;exact he
 |ret=>intro vars h r he;rw [CO] at he ⊢;exact he
 |scope a iha=>intro vars h r he;rw [Nl] at he ⊢;exact iha _ _ _ he
 |range x ps a b _ _=>
  intro vars h r he
  rw [Mv] at he ⊢
  simp only [Du] at he ⊢
  split at he
  ·split at he
   ·rename_i hok
    rw [if_pos hok]
    split at he
    ·rename_i hr
     simp only [hc _ _ _ _ hr]
     exact he
    ·cases he
   ·cases he
  ·cases he
 |fail=>intro vars h r he;exact he
theorem Jl {p:Nat->Option Fn} (hc:Le cl cl'): ∀ (dfs:UT) (h h':H),Ht p cl dfs h=some h'->Ht p cl' dfs h=some h'
 | [],h,h',he=>by rw [Ad] at he ⊢;exact he
 |(g,args)::r,h,h',he=>by
  rw [Se] at he ⊢
  split at he
  ·split at he
   ·rename_i hn
    rw [if_pos hn]
    split at he
    ·rename_i hr
     simp only [hc _ _ _ _ hr]
     exact Jl hc r _ _ he
    ·cases he
   ·cases he
  ·cases he
theorem JY {p:Nat->Option Fn} (hc:Le cl cl') (hy:Le yl yl') {N N':Nat} (hN:N<=N'):Le (Dr p cl yl N) (Dr p cl' yl' N'):=by
 intro g args h r he
 simp only [Dr] at he ⊢
 split at he
 ·cases he
 ·rename_i fn hg
  split at he
  ·rename_i hl
   rw [if_pos hl]
   split at he
   ·rename_i hr
    simp only [iQ hc hy hN _ _ _ _ hr]
    split at he
    ·rename_i hd
     simp only [Jl hc _ _ _ hd];exact he
    ·cases he
   ·rename_i hr
    simp only [iQ hc hy hN _ _ _ _ hr]
    split at he
    ·rename_i hd
     simp only [Jl hc _ _ _ hd];exact he
    ·cases he
   ·cases he
  ·cases he
theorem GP (hc:Le cl cl') (hy:Le yl yl') {N N':Nat} (hN:N<=N'):Le (zB cl yl N) (zB cl' yl' N'):=by
 intro id args h r he
 simp only [zB] at he ⊢
 split at he
 ·split at he
  ·rename_i hl
   rw [if_pos hl]
   split at he
   ·rename_i hr
    simp only [iQ hc hy hN _ _ _ _ hr]
    split at he
    ·split at he
     ·rename_i jE
      rw [if_pos jE]
      split at he
      ·rename_i hr2
       simp only [iQ hc hy hN _ _ _ _ hr2]
       exact he
      ·cases he
     ·cases he
    ·cases he
   ·cases he
  ·cases he
 ·cases he
theorem GS (p:Nat->Option Fn) {N N':Nat} (hN:N<=N'): ∀ (f f':Nat),f<=f'->Le (lQ p N f).1 (lQ p N' f').1/\Le (lQ p N f).2 (lQ p N' f').2
 |0,_,_=>by rw [HV];exact ⟨λ _ _ _ _ h=>by (cases h),λ _ _ _ _ h=>by (cases h)⟩
 |f+1,0,h=>by omega
 |f+1,f'+1,h=>by
  obtain ⟨h1,h2⟩:=GS p hN f f' (by omega)
  rw [tM,tM]
  exact ⟨JY h1 h2 hN,GP h1 h2 hN⟩
end
end Go.Ay
