/- RX fuel, the same answer. -/
import Derived.Test.YtapfcpkecmmagaaGreatAy1b
namespace Go.Ay
def Le (a b:dP):Prop:= ∀g args h r,a g args h=some r->b g args h=some r
theorem Le.refl (a:dP):Le a a:=λ_ _ _ _ h=>h
theorem Le.trans {a b c:dP}(h:Le a b)(k:Le b c):Le a c:=λ_ _ _ _ x=>k _ _ _ _ (h _ _ _ _ x)
section
variable {cl cl' yl yl':dP}
theorem oS (hc:Le cl cl')(hy:Le yl yl'){vars loc:List V}{h:H}{a:dU}{r:V×H}(he:kZ cl yl vars loc h a=some r):kZ cl' yl' vars loc h a=some r:=by
 cases a with
 |op i=>rw[rS] at he ⊢;exact he
 |call g args=>rw[sB] at he ⊢;exact hc _ _ _ _ he
 |callv x args=>
  rw[pI] at he ⊢;split at he
  ·exact hc _ _ _ _ he
  ·exact hy _ _ _ _ he
  ·cases he
 |calli g t x args=>
  rw[pW] at he ⊢;split at he
  ·rename_i u v hx
   cases hq:Nat.beq u t with
   |false=>rw[hq] at he;cases he
   |true=>rw[hq] at he;exact hc _ _ _ _ he
  ·cases he
 |callp g args=>
  rw[lF] at he ⊢;obtain⟨v,h'⟩:=r;obtain⟨rfl,h1,h3,h2,e⟩:=vB he;have e2:=hc _ _ _ _ e;unfold En;simp only[h1,e2,h3,cond_true]
theorem oL (hc:Le cl cl')(hy:Le yl yl'): ∀(its:List It) (vars loc:List V) (h:H) (r:List V×H),sW cl yl its vars loc h=some r->sW cl' yl' its vars loc h=some r
 | [],vars,loc,h,r,he=>by rw[Dj] at he ⊢;exact he
 |it::its,vars,loc,h,r,he=>by
  rw[mP] at he ⊢;split at he
  ·split at he
   ·rename_i hw _ v h1 ha
    simp only[oS hc hy ha];exact oL hc hy its _ _ _ _ he
   ·cases he
  ·exact oL hc hy its _ _ _ _ he
  ·cases he
theorem sG (hc:Le cl cl')(hy:Le yl yl'){base:Nat}: ∀(xs:List AI) (vars:List V) (log:Log) (h:H) (r:List V×H),uL cl yl base xs vars log h=some r->uL cl' yl' base xs vars log h=some r
 | [],vars,log,h,r,he=>by rw[Dr] at he ⊢;exact he
 |x::xs,vars,log,h,r,he=>by
  rw[iY] at he ⊢;split at he
  ·split at he
   ·rename_i hw _ v h1 ha
    have ha':(if x.al then Jd vars h (base+x.i) x.it.a else kZ cl' yl' vars [] h x.it.a)=some (v,h1):=by
     split at ha
     ·rename_i hal;rw[if_pos hal];exact ha
     ·rename_i hal;rw[if_neg hal];exact oS hc hy ha
    simp only[ha'];split at he
    ·rename_i ho
     rw[if_pos ho];exact sG hc hy xs _ _ _ _ he
    ·cases he
   ·cases he
  ·split at he
   ·rename_i ho
    rw[if_pos ho];exact sG hc hy xs _ _ _ _ he
   ·cases he
  ·cases he
theorem rN {s s':List V->H->Rf}(hs: ∀vars h r,s vars h=some r->s' vars h=some r): ∀(n n':Nat),n<=n'-> ∀vars h r,xT s n vars h=some r->xT s' n' vars h=some r
 |0,_,_,vars,h,r,he=>by rw[Hz] at he;cases he
 |n+1,0,hn,_,_,_,_=>by omega
 |n+1,n'+1,hn,vars,h,r,he=>by
  rw[lH] at he ⊢
  cases hr:s vars h with
  |none=>simp [hr] at he
  |some q=>
   obtain⟨e,v1,d1,h1⟩:=q;rw[hs _ _ _ hr];simp only[hr] at he
   cases e with
   |norm=>
    simp only at he ⊢
    cases hr2:xT s n v1 h1 with
    |none=>simp [hr2] at he
    |some q=>
     rw[rN hs n n' (by omega) _ _ _ hr2];simp only[hr2] at he;exact he
   |ret=>exact he
   |exit k=>exact he
theorem fF (hc:Le cl cl')(hy:Le yl yl'){N N':Nat}(hN:N<=N'){rd:Option Nat}: ∀(c:C) (vars:List V) (h:H) (r:E×List V×FC×H),run cl yl N rd c vars h=some r->run cl' yl' N' rd c vars h=some r:=by
 intro c
 induction c with
 |skip=>intro vars h r he;rw[Ap] at he ⊢;exact he
 |reg its=>
  intro vars h r he;rw[Ov] at he ⊢;split at he
  ·rename_i v1 h1 hr
   simp only[oL hc hy _ _ _ _ _ hr];exact he
  ·cases he
 |any k nl its=>
  intro vars h r he;rw[Pb] at he ⊢;split at he
  ·rename_i v1 h1 hr
   simp only[sG hc hy _ _ _ _ _ hr];exact he
  ·cases he
 |regd its x args=>
  intro vars h r he;rw[Sb] at he ⊢;simp only[Fv] at he ⊢;split at he
  ·cases he
  ·rename_i hrd
   rw[if_neg hrd];split at he
   ·rename_i v1 h1 hr
    simp only[oL hc hy _ _ _ _ _ hr];exact he
   ·cases he
 |seq a b iha ihb=>
  intro vars h r he;rw[run_seq] at he ⊢
  cases hr:run cl yl N rd a vars h with
  |none=>simp [hr] at he
  |some q=>
   obtain⟨e,v1,d1,h1⟩:=q;rw[iha _ _ _ hr];simp only[hr] at he
   cases e with
   |norm=>
    simp only at he ⊢
    cases hr2:run cl yl N rd b v1 h1 with
    |none=>simp [hr2] at he
    |some q=>
     rw[ihb _ _ _ hr2];simp only[hr2] at he;exact he
   |ret=>exact he
   |exit k=>exact he
 |ite x a b iha ihb=>
  intro vars h r he;rw[run_ite] at he ⊢;split at he
  ·exact iha _ _ _ he
  ·exact ihb _ _ _ he
  ·cases he
 |block id a iha=>
  intro vars h r he;rw[Dy] at he ⊢
  cases hr:run cl yl N rd a vars h with
  |none=>simp [hr] at he
  |some q=>
   rw[iha _ _ _ hr];simp only[hr] at he;exact he
 |loop a iha=>
  intro vars h r he;rw[rF] at he ⊢;exact rN iha N N' hN _ _ _ he
 |exit n=>intro vars h r he;rw[Hd] at he ⊢;exact he
 |ret=>intro vars h r he;rw[Nf] at he ⊢;exact he
 |scope a iha=>intro vars h r he;rw[Di] at he ⊢;exact iha _ _ _ he
 |range x ps a b _ _=>
  intro vars h r he;rw[Ea] at he ⊢;simp only[xI] at he ⊢;split at he
  ·split at he
   ·rename_i hok
    rw[if_pos hok];split at he
    ·rename_i hr
     simp only[hc _ _ _ _ hr];exact he
    ·cases he
   ·cases he
  ·cases he
 |fail=>intro vars h r he;exact he
theorem zW {p:Nat->Option Fn}(hc:Le cl cl'): ∀(dfs:FC) (h h':H),yY p cl dfs h=some h'->yY p cl' dfs h=some h'
 | [],h,h',he=>by rw[uK] at he ⊢;exact he
 |(g,args)::r,h,h',he=>by
  rw[Jl] at he ⊢;split at he
  ·split at he
   ·rename_i hn
    rw[if_pos hn];split at he
    ·rename_i hr
     simp only[hc _ _ _ _ hr];exact zW hc r _ _ he
    ·cases he
   ·cases he
  ·cases he
theorem Wo {p:Nat->Option Fn}(hc:Le cl cl')(hy:Le yl yl'){N N':Nat}(hN:N<=N'):Le (xY p cl yl N) (xY p cl' yl' N'):=by
 intro g args h r he;simp only[xY] at he ⊢;split at he
 ·cases he
 ·rename_i fn hg
  split at he
  ·rename_i hl
   rw[if_pos hl];split at he
   ·rename_i hr
    simp only[fF hc hy hN _ _ _ _ hr];split at he
    ·rename_i hd
     simp only[zW hc _ _ _ hd];exact he
    ·cases he
   ·rename_i hr
    simp only[fF hc hy hN _ _ _ _ hr];split at he
    ·rename_i hd
     simp only[zW hc _ _ _ hd];exact he
    ·cases he
   ·cases he
  ·cases he
theorem Sx (hc:Le cl cl')(hy:Le yl yl'){N N':Nat}(hN:N<=N'):Le (tI cl yl N) (tI cl' yl' N'):=by
 intro id args h r he;simp only[tI] at he ⊢;split at he
 ·split at he
  ·rename_i hl
   rw[if_pos hl];split at he
   ·rename_i hr
    simp only[fF hc hy hN _ _ _ _ hr];split at he
    ·split at he
     ·rename_i iV
      rw[if_pos iV];split at he
      ·rename_i hr2
       simp only[fF hc hy hN _ _ _ _ hr2];exact he
      ·cases he
     ·cases he
    ·cases he
   ·cases he
  ·cases he
 ·cases he
theorem Ro (p:Nat->Option Fn){N N':Nat}(hN:N<=N'): ∀(f f':Nat),f<=f'->Le (lP p N f).1 (lP p N' f').1/\Le (lP p N f).2 (lP p N' f').2
 |0,_,_=>by rw[Px];exact⟨λ_ _ _ _ h=>by (cases h),λ_ _ _ _ h=>by (cases h)⟩
 |f+1,0,h=>by omega
 |f+1,f'+1,h=>by
  obtain⟨h1,h2⟩:=Ro p hN f f' (by omega);rw[pG,pG];exact⟨Wo h1 h2 hN,Sx h1 h2 hN⟩
end
end Go.Ay
