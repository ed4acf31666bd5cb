/- acG fuel, the same answer. -/
import Derived.Test.YtddpkbicnolafaaGreatAy1b
namespace Go.Ay
def Le (a b:dZ):Prop:= ∀ g args h r,a g args h=some r->b g args h=some r
theorem Le.refl (a:dZ):Le a a:=λ _ _ _ _ h=>h
theorem Le.trans {a b c:dZ} (h:Le a b) (k:Le b c):Le a c:=λ _ _ _ _ x=>k _ _ _ _ (h _ _ _ _ x)
section
variable {cl cl' yl yl':dZ}
theorem sU (hc:Le cl cl') (hy:Le yl yl') {vars loc:List V} {h:H} {a:eD} {r:V×H} (he:nK cl yl vars loc h a=some r):nK cl' yl' vars loc h a=some r:=by
 cases a with
 |op i=>rw [xR] at he ⊢;exact he
 |call g args=>rw [xC] at he ⊢;exact hc _ _ _ _ he
 |callv x args=>
  rw [uF] at he ⊢
  split at he
  ·exact hc _ _ _ _ he
  ·exact hy _ _ _ _ he
  ·cases he
 |calli g t x args=>
  rw [tK] at he ⊢
  split at he
  ·rename_i u v hx
   cases hq:Nat.beq u t with
   |false=>rw [hq] at he;cases he
   |true=>rw [hq] at he;exact hc _ _ _ _ he
  ·cases he
 |callp g args=>
  rw [nQ] at he ⊢
  obtain ⟨v,h'⟩:=r
  obtain ⟨rfl,h1,h3,h2,e⟩:=An he
  have e2:=hc _ _ _ _ e
  unfold Ot
  simp only [h1,e2,h3,cond_true]
theorem sQ (hc:Le cl cl') (hy:Le yl yl'): ∀ (its:List It) (vars loc:List V) (h:H) (r:List V×H),yU cl yl its vars loc h=some r->yU cl' yl' its vars loc h=some r
 | [],vars,loc,h,r,he=>by rw [Nh] at he ⊢;exact he
 |it::its,vars,loc,h,r,he=>by
  rw [pI] at he ⊢
  split at he
  ·split at he
   ·rename_i hw _ v h1 ha
    simp only [sU hc hy ha]
    exact sQ hc hy its _ _ _ _ he
   ·cases he
  ·exact sQ hc hy its _ _ _ _ he
  ·cases he
theorem xG (hc:Le cl cl') (hy:Le yl yl') {base:Nat}: ∀ (xs:List AI) (vars:List V) (log:Log) (h:H) (r:List V×H),zT cl yl base xs vars log h=some r->zT cl' yl' base xs vars log h=some r
 | [],vars,log,h,r,he=>by rw [Na] at he ⊢;exact he
 |x::xs,vars,log,h,r,he=>by
  rw [jZ] at he ⊢
  split at he
  ·split at he
   ·rename_i hw _ v h1 ha
    have ha':(if x.al then Um vars h (base+x.i) x.it.a else nK cl' yl' vars [] h x.it.a)=some (v,h1):=by
     split at ha
     ·rename_i hal;rw [if_pos hal];exact ha
     ·rename_i hal;rw [if_neg hal];exact sU hc hy ha
    simp only [ha']
    split at he
    ·rename_i ho
     rw [if_pos ho]
     exact xG hc hy xs _ _ _ _ he
    ·cases he
   ·cases he
  ·split at he
   ·rename_i ho
    rw [if_pos ho]
    exact xG hc hy xs _ _ _ _ he
   ·cases he
  ·cases he
theorem Bt {s s':List V->H->GU} (hs: ∀ vars h r,s vars h=some r->s' vars h=some r): ∀ (n n':Nat),n<=n'-> ∀ vars h r,Ez s n vars h=some r->Ez s' n' vars h=some r
 |0,_,_,vars,h,r,he=>by rw [Uj] at he;cases he
 |n+1,0,hn,_,_,_,_=>by omega
 |n+1,n'+1,hn,vars,h,r,he=>by
  rw [xO] at he ⊢
  cases hr:s vars h with
  |none=>simp [hr] at he
  |some q=>
   obtain ⟨e,v1,d1,h1⟩:=q
   rw [hs _ _ _ hr]
   simp only [hr] at he
   cases e with
   |norm=>
    simp only at he ⊢
    cases hr2:Ez s n v1 h1 with
    |none=>simp [hr2] at he
    |some q=>
     rw [Bt hs n n' (by omega) _ _ _ hr2]
     simp only [hr2] at he
     exact he
   |ret=>exact he
   |exit k=>exact he
theorem iZ (hc:Le cl cl') (hy:Le yl yl') {N N':Nat} (hN:N<=N') {rd:Option Nat}: ∀ (c:C) (vars:List V) (h:H) (r:E×List V×UP×H),run cl yl N rd c vars h=some r->run cl' yl' N' rd c vars h=some r:=by
 intro c
 induction c with
 |skip=>intro vars h r he;rw [Ke] at he ⊢;exact he
 |reg its=>
  intro vars h r he
  rw [AE] at he ⊢
  split at he
  ·rename_i v1 h1 hr
   simp only [sQ hc hy _ _ _ _ _ hr];exact he
  ·cases he
 |any k nl its=>
  intro vars h r he
  rw [CN] at he ⊢
  split at he
  ·rename_i v1 h1 hr
   simp only [xG hc hy _ _ _ _ _ hr];exact he
  ·cases he
 |regd its x args=>
  intro vars h r he
  rw [EK] at he ⊢
  simp only [Rd] at he ⊢
  split at he
  ·cases he
  ·rename_i hrd
   rw [if_neg hrd]
   split at he
   ·rename_i v1 h1 hr
    simp only [sQ hc hy _ _ _ _ _ hr]
    exact he
   ·cases he
 |seq a b iha ihb=>
  intro vars h r he
  rw [run_seq] at he ⊢
  cases hr:run cl yl N rd a vars h with
  |none=>simp [hr] at he
  |some q=>
   obtain ⟨e,v1,d1,h1⟩:=q
   rw [iha _ _ _ hr]
   simp only [hr] at he
   cases e with
   |norm=>
    simp only at he ⊢
    cases hr2:run cl yl N rd b v1 h1 with
    |none=>simp [hr2] at he
    |some q=>
     rw [ihb _ _ _ hr2]
     simp only [hr2] at he
     exact he
   |ret=>exact he
   |exit k=>exact he
 |ite x a b iha ihb=>
  intro vars h r he
  rw [run_ite] at he ⊢
  split at he
  ·exact iha _ _ _ he
  ·exact ihb _ _ _ he
  ·cases he
 |block id a iha=>
  intro vars h r he
  rw [Ng] at he ⊢
  cases hr:run cl yl N rd a vars h with
  |none=>simp [hr] at he
  |some q=>
   rw [iha _ _ _ hr]
   simp only [hr] at he
   exact he
 |loop a iha=>
  intro vars h r he
  rw [Uq] at he ⊢
  exact Bt iha N N' hN _ _ _ he
 |exit n=>intro vars h r he;rw [Ro] at he ⊢;exact he
 |ret=>intro vars h r he;rw [DM] at he ⊢;exact he
 |scope a iha=>intro vars h r he;rw [Nl] at he ⊢;exact iha _ _ _ he
 |range x ps a b _ _=>
  intro vars h r he
  rw [Np] at he ⊢
  simp only [Dc] at he ⊢
  split at he
  ·split at he
   ·rename_i hok
    rw [if_pos hok]
    split at he
    ·rename_i hr
     simp only [hc _ _ _ _ hr]
     exact he
    ·cases he
   ·cases he
  ·cases he
 |fail=>intro vars h r he;exact he
theorem Jh {p:Nat->Option Fn} (hc:Le cl cl'): ∀ (dfs:UP) (h h':H),Ih p cl dfs h=some h'->Ih p cl' dfs h=some h'
 | [],h,h',he=>by rw [zV] at he ⊢;exact he
 |(g,args)::r,h,h',he=>by
  rw [Wd] at he ⊢
  split at he
  ·split at he
   ·rename_i hn
    rw [if_pos hn]
    split at he
    ·rename_i hr
     simp only [hc _ _ _ _ hr]
     exact Jh hc r _ _ he
    ·cases he
   ·cases he
  ·cases he
theorem MY {p:Nat->Option Fn} (hc:Le cl cl') (hy:Le yl yl') {N N':Nat} (hN:N<=N'):Le (Em p cl yl N) (Em p cl' yl' N'):=by
 intro g args h r he
 simp only [Em] at he ⊢
 split at he
 ·cases he
 ·rename_i fn hg
  split at he
  ·rename_i hl
   rw [if_pos hl]
   split at he
   ·rename_i hr
    simp only [iZ hc hy hN _ _ _ _ hr]
    split at he
    ·rename_i hd
     simp only [Jh hc _ _ _ hd];exact he
    ·cases he
   ·rename_i hr
    simp only [iZ hc hy hN _ _ _ _ hr]
    split at he
    ·rename_i hd
     simp only [Jh hc _ _ _ hd];exact he
    ·cases he
   ·cases he
  ·cases he
theorem FU (hc:Le cl cl') (hy:Le yl yl') {N N':Nat} (hN:N<=N'):Le (zI cl yl N) (zI cl' yl' N'):=by
 intro id args h r he
 simp only [zI] at he ⊢
 split at he
 ·split at he
  ·rename_i hl
   rw [if_pos hl]
   split at he
   ·rename_i hr
    simp only [iZ hc hy hN _ _ _ _ hr]
    split at he
    ·split at he
     ·rename_i jH
      rw [if_pos jH]
      split at he
      ·rename_i hr2
       simp only [iZ hc hy hN _ _ _ _ hr2]
       exact he
      ·cases he
     ·cases he
    ·cases he
   ·cases he
  ·cases he
 ·cases he
theorem FY (p:Nat->Option Fn) {N N':Nat} (hN:N<=N'): ∀ (f f':Nat),f<=f'->Le (lK p N f).1 (lK p N' f').1/\Le (lK p N f).2 (lK p N' f').2
 |0,_,_=>by rw [GF];exact ⟨λ _ _ _ _ h=>by (cases h),λ _ _ _ _ h=>by (cases h)⟩
 |f+1,0,h=>by omega
 |f+1,f'+1,h=>by
  obtain ⟨h1,h2⟩:=FY p hN f f' (by omega)
  rw [uD,uD]
  exact ⟨MY h1 h2 hN,FU h1 h2 hN⟩
end
end Go.Ay
