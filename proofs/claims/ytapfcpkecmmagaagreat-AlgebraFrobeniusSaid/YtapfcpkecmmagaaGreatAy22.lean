/- Ra fuel, the same answer. -/
import Derived.Test.YtapfcpkecmmagaaGreatAy1b
namespace Go.Ay
def Le (a b:dD):Prop:= ∀g args h r,a g args h=some r->b g args h=some r
theorem Le.refl (a:dD):Le a a:=λ_ _ _ _ h=>h
theorem Le.trans {a b c:dD}(h:Le a b)(k:Le b c):Le a c:=λ_ _ _ _ x=>k _ _ _ _ (h _ _ _ _ x)
section
variable {cl cl' yl yl':dD}
theorem jO (hc:Le cl cl')(hy:Le yl yl'){vars loc:List V}{h:H}{a:dE}{r:V×H}(he:gO cl yl vars loc h a=some r):gO cl' yl' vars loc h a=some r:=by
 cases a with
 |op i=>rw[lX] at he ⊢;exact he
 |call g args=>rw[lB] at he ⊢;exact hc _ _ _ _ he
 |callv x args=>
  rw[kI] at he ⊢;split at he
  ·exact hc _ _ _ _ he
  ·exact hy _ _ _ _ he
  ·cases he
 |calli g t x args=>
  rw[kH] at he ⊢;split at he
  ·rename_i u v hx
   cases hq:Nat.beq u t with
   |false=>rw[hq] at he;cases he
   |true=>rw[hq] at he;exact hc _ _ _ _ he
  ·cases he
 |callp g args=>
  rw[gW] at he ⊢;obtain⟨v,h'⟩:=r;obtain⟨rfl,h1,h3,h2,e⟩:=nY he;have e2:=hc _ _ _ _ e;unfold uD;simp only[h1,e2,h3,cond_true]
theorem jN (hc:Le cl cl')(hy:Le yl yl'): ∀(its:List It) (vars loc:List V) (h:H) (r:List V×H),mH cl yl its vars loc h=some r->mH cl' yl' its vars loc h=some r
 | [],vars,loc,h,r,he=>by rw[sY] at he ⊢;exact he
 |it::its,vars,loc,h,r,he=>by
  rw[iQ] at he ⊢;split at he
  ·split at he
   ·rename_i hw _ v h1 ha
    simp only[jO hc hy ha];exact jN hc hy its _ _ _ _ he
   ·cases he
  ·exact jN hc hy its _ _ _ _ he
  ·cases he
theorem lC (hc:Le cl cl')(hy:Le yl yl'){base:Nat}: ∀(xs:List AI) (vars:List V) (log:Log) (h:H) (r:List V×H),nH cl yl base xs vars log h=some r->nH cl' yl' base xs vars log h=some r
 | [],vars,log,h,r,he=>by rw[sX] at he ⊢;exact he
 |x::xs,vars,log,h,r,he=>by
  rw[fI] at he ⊢;split at he
  ·split at he
   ·rename_i hw _ v h1 ha
    have ha':(if x.al then uP vars h (base+x.i) x.it.a else gO cl' yl' vars [] h x.it.a)=some (v,h1):=by
     split at ha
     ·rename_i hal;rw[if_pos hal];exact ha
     ·rename_i hal;rw[if_neg hal];exact jO hc hy ha
    simp only[ha'];split at he
    ·rename_i ho
     rw[if_pos ho];exact lC hc hy xs _ _ _ _ he
    ·cases he
   ·cases he
  ·split at he
   ·rename_i ho
    rw[if_pos ho];exact lC hc hy xs _ _ _ _ he
   ·cases he
  ·cases he
theorem oA {s s':List V->H->De}(hs: ∀vars h r,s vars h=some r->s' vars h=some r): ∀(n n':Nat),n<=n'-> ∀vars h r,oV s n vars h=some r->oV s' n' vars h=some r
 |0,_,_,vars,h,r,he=>by rw[xB] at he;cases he
 |n+1,0,hn,_,_,_,_=>by omega
 |n+1,n'+1,hn,vars,h,r,he=>by
  rw[kZ] at he ⊢
  cases hr:s vars h with
  |none=>simp [hr] at he
  |some q=>
   obtain⟨e,v1,d1,h1⟩:=q;rw[hs _ _ _ hr];simp only[hr] at he
   cases e with
   |norm=>
    simp only at he ⊢
    cases hr2:oV s n v1 h1 with
    |none=>simp [hr2] at he
    |some q=>
     rw[oA hs n n' (by omega) _ _ _ hr2];simp only[hr2] at he;exact he
   |ret=>exact he
   |exit k=>exact he
theorem eV (hc:Le cl cl')(hy:Le yl yl'){N N':Nat}(hN:N<=N'){rd:Option Nat}: ∀(c:C) (vars:List V) (h:H) (r:E×List V×Lh×H),run cl yl N rd c vars h=some r->run cl' yl' N' rd c vars h=some r:=by
 intro c
 induction c with
 |skip=>intro vars h r he;rw[rP] at he ⊢;exact he
 |reg its=>
  intro vars h r he;rw[zV] at he ⊢;split at he
  ·rename_i v1 h1 hr
   simp only[jN hc hy _ _ _ _ _ hr];exact he
  ·cases he
 |any k nl its=>
  intro vars h r he;rw[zU] at he ⊢;split at he
  ·rename_i v1 h1 hr
   simp only[lC hc hy _ _ _ _ _ hr];exact he
  ·cases he
 |regd its x args=>
  intro vars h r he;rw[Cg] at he ⊢;simp only[uJ] at he ⊢;split at he
  ·cases he
  ·rename_i hrd
   rw[if_neg hrd];split at he
   ·rename_i v1 h1 hr
    simp only[jN hc hy _ _ _ _ _ hr];exact he
   ·cases he
 |seq a b iha ihb=>
  intro vars h r he;rw[run_seq] at he ⊢
  cases hr:run cl yl N rd a vars h with
  |none=>simp [hr] at he
  |some q=>
   obtain⟨e,v1,d1,h1⟩:=q;rw[iha _ _ _ hr];simp only[hr] at he
   cases e with
   |norm=>
    simp only at he ⊢
    cases hr2:run cl yl N rd b v1 h1 with
    |none=>simp [hr2] at he
    |some q=>
     rw[ihb _ _ _ hr2];simp only[hr2] at he;exact he
   |ret=>exact he
   |exit k=>exact he
 |ite x a b iha ihb=>
  intro vars h r he;rw[run_ite] at he ⊢;split at he
  ·exact iha _ _ _ he
  ·exact ihb _ _ _ he
  ·cases he
 |block id a iha=>
  intro vars h r he;rw[sZ] at he ⊢
  cases hr:run cl yl N rd a vars h with
  |none=>simp [hr] at he
  |some q=>
   rw[iha _ _ _ hr];simp only[hr] at he;exact he
 |loop a iha=>
  intro vars h r he;rw[wZ] at he ⊢;exact oA iha N N' hN _ _ _ he
 |exit n=>intro vars h r he;rw[uV] at he ⊢;exact he
 |ret=>intro vars h r he;rw[Bd] at he ⊢;exact he
 |scope a iha=>intro vars h r he;rw[tH] at he ⊢;exact iha _ _ _ he
 |range x ps a b _ _=>
  intro vars h r he;rw[tE] at he ⊢;simp only[pM] at he ⊢;split at he
  ·split at he
   ·rename_i hok
    rw[if_pos hok];split at he
    ·rename_i hr
     simp only[hc _ _ _ _ hr];exact he
    ·cases he
   ·cases he
  ·cases he
 |fail=>intro vars h r he;exact he
theorem rE {p:Nat->Option Fn}(hc:Le cl cl'): ∀(dfs:Lh) (h h':H),qM p cl dfs h=some h'->qM p cl' dfs h=some h'
 | [],h,h',he=>by rw[mY] at he ⊢;exact he
 |(g,args)::r,h,h',he=>by
  rw[xC] at he ⊢;split at he
  ·split at he
   ·rename_i hn
    rw[if_pos hn];split at he
    ·rename_i hr
     simp only[hc _ _ _ _ hr];exact rE hc r _ _ he
    ·cases he
   ·cases he
  ·cases he
theorem Ff {p:Nat->Option Fn}(hc:Le cl cl')(hy:Le yl yl'){N N':Nat}(hN:N<=N'):Le (pF p cl yl N) (pF p cl' yl' N'):=by
 intro g args h r he;simp only[pF] at he ⊢;split at he
 ·cases he
 ·rename_i fn hg
  split at he
  ·rename_i hl
   rw[if_pos hl];split at he
   ·rename_i hr
    simp only[eV hc hy hN _ _ _ _ hr];split at he
    ·rename_i hd
     simp only[rE hc _ _ _ hd];exact he
    ·cases he
   ·rename_i hr
    simp only[eV hc hy hN _ _ _ _ hr];split at he
    ·rename_i hd
     simp only[rE hc _ _ _ hd];exact he
    ·cases he
   ·cases he
  ·cases he
theorem Cb (hc:Le cl cl')(hy:Le yl yl'){N N':Nat}(hN:N<=N'):Le (mI cl yl N) (mI cl' yl' N'):=by
 intro id args h r he;simp only[mI] at he ⊢;split at he
 ·split at he
  ·rename_i hl
   rw[if_pos hl];split at he
   ·rename_i hr
    simp only[eV hc hy hN _ _ _ _ hr];split at he
    ·split at he
     ·rename_i fG
      rw[if_pos fG];split at he
      ·rename_i hr2
       simp only[eV hc hy hN _ _ _ _ hr2];exact he
      ·cases he
     ·cases he
    ·cases he
   ·cases he
  ·cases he
 ·cases he
theorem Bz (p:Nat->Option Fn){N N':Nat}(hN:N<=N'): ∀(f f':Nat),f<=f'->Le (iC p N f).1 (iC p N' f').1/\Le (iC p N f).2 (iC p N' f').2
 |0,_,_=>by rw[Bq];exact⟨λ_ _ _ _ h=>by (cases h),λ_ _ _ _ h=>by (cases h)⟩
 |f+1,0,h=>by omega
 |f+1,f'+1,h=>by
  obtain⟨h1,h2⟩:=Bz p hN f f' (by omega);rw[jZ,jZ];exact⟨Ff h1 h2 hN,Cb h1 h2 hN⟩
end
end Go.Ay
