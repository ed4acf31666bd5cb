/- QE fuel, the same answer. -/
import Derived.Test.YtapfcpkecmmagaaGreatAy1b
namespace Go.Ay
def Le (a b:dO):Prop:= ∀g args h r,a g args h=some r->b g args h=some r
theorem Le.refl (a:dO):Le a a:=λ_ _ _ _ h=>h
theorem Le.trans {a b c:dO}(h:Le a b)(k:Le b c):Le a c:=λ_ _ _ _ x=>k _ _ _ _ (h _ _ _ _ x)
section
variable {cl cl' yl yl':dO}
theorem oS (hc:Le cl cl')(hy:Le yl yl'){vars loc:List V}{h:H}{a:dW}{r:V×H}(he:kX cl yl vars loc h a=some r):kX cl' yl' vars loc h a=some r:=by
 cases a with
 |op i=>rw[sU] at he ⊢;exact he
 |call g args=>rw[sT] at he ⊢;exact hc _ _ _ _ he
 |callv x args=>
  rw[pU] at he ⊢;split at he
  ·exact hc _ _ _ _ he
  ·exact hy _ _ _ _ he
  ·cases he
 |calli g t x args=>
  rw[qB] at he ⊢;split at he
  ·rename_i u v hx
   cases hq:Nat.beq u t with
   |false=>rw[hq] at he;cases he
   |true=>rw[hq] at he;exact hc _ _ _ _ he
  ·cases he
 |callp g args=>
  rw[lL] at he ⊢;obtain⟨v,h'⟩:=r;obtain⟨rfl,h1,h3,h2,e⟩:=xB he;have e2:=hc _ _ _ _ e;unfold Fw;simp only[h1,e2,h3,cond_true]
theorem oP (hc:Le cl cl')(hy:Le yl yl'): ∀(its:List It) (vars loc:List V) (h:H) (r:List V×H),tI cl yl its vars loc h=some r->tI cl' yl' its vars loc h=some r
 | [],vars,loc,h,r,he=>by rw[Eh] at he ⊢;exact he
 |it::its,vars,loc,h,r,he=>by
  rw[mI] at he ⊢;split at he
  ·split at he
   ·rename_i hw _ v h1 ha
    simp only[oS hc hy ha];exact oP hc hy its _ _ _ _ he
   ·cases he
  ·exact oP hc hy its _ _ _ _ he
  ·cases he
theorem sH (hc:Le cl cl')(hy:Le yl yl'){base:Nat}: ∀(xs:List AI) (vars:List V) (log:Log) (h:H) (r:List V×H),vP cl yl base xs vars log h=some r->vP cl' yl' base xs vars log h=some r
 | [],vars,log,h,r,he=>by rw[Dh] at he ⊢;exact he
 |x::xs,vars,log,h,r,he=>by
  rw[iY] at he ⊢;split at he
  ·split at he
   ·rename_i hw _ v h1 ha
    have ha':(if x.al then Ij vars h (base+x.i) x.it.a else kX cl' yl' vars [] h x.it.a)=some (v,h1):=by
     split at ha
     ·rename_i hal;rw[if_pos hal];exact ha
     ·rename_i hal;rw[if_neg hal];exact oS hc hy ha
    simp only[ha'];split at he
    ·rename_i ho
     rw[if_pos ho];exact sH hc hy xs _ _ _ _ he
    ·cases he
   ·cases he
  ·split at he
   ·rename_i ho
    rw[if_pos ho];exact sH hc hy xs _ _ _ _ he
   ·cases he
  ·cases he
theorem sM {s s':List V->H->Ru}(hs: ∀vars h r,s vars h=some r->s' vars h=some r): ∀(n n':Nat),n<=n'-> ∀vars h r,xT s n vars h=some r->xT s' n' vars h=some r
 |0,_,_,vars,h,r,he=>by rw[Jz] at he;cases he
 |n+1,0,hn,_,_,_,_=>by omega
 |n+1,n'+1,hn,vars,h,r,he=>by
  rw[lK] at he ⊢
  cases hr:s vars h with
  |none=>simp [hr] at he
  |some q=>
   obtain⟨e,v1,d1,h1⟩:=q;rw[hs _ _ _ hr];simp only[hr] at he
   cases e with
   |norm=>
    simp only at he ⊢
    cases hr2:xT s n v1 h1 with
    |none=>simp [hr2] at he
    |some q=>
     rw[sM hs n n' (by omega) _ _ _ hr2];simp only[hr2] at he;exact he
   |ret=>exact he
   |exit k=>exact he
theorem fG (hc:Le cl cl')(hy:Le yl yl'){N N':Nat}(hN:N<=N'){rd:Option Nat}: ∀(c:C) (vars:List V) (h:H) (r:E×List V×GG×H),run cl yl N rd c vars h=some r->run cl' yl' N' rd c vars h=some r:=by
 intro c
 induction c with
 |skip=>intro vars h r he;rw[Cy] at he ⊢;exact he
 |reg its=>
  intro vars h r he;rw[Qa] at he ⊢;split at he
  ·rename_i v1 h1 hr
   simp only[oP hc hy _ _ _ _ _ hr];exact he
  ·cases he
 |any k nl its=>
  intro vars h r he;rw[Oc] at he ⊢;split at he
  ·rename_i v1 h1 hr
   simp only[sH hc hy _ _ _ _ _ hr];exact he
  ·cases he
 |regd its x args=>
  intro vars h r he;rw[Sy] at he ⊢;simp only[Gh] at he ⊢;split at he
  ·cases he
  ·rename_i hrd
   rw[if_neg hrd];split at he
   ·rename_i v1 h1 hr
    simp only[oP hc hy _ _ _ _ _ hr];exact he
   ·cases he
 |seq a b iha ihb=>
  intro vars h r he;rw[run_seq] at he ⊢
  cases hr:run cl yl N rd a vars h with
  |none=>simp [hr] at he
  |some q=>
   obtain⟨e,v1,d1,h1⟩:=q;rw[iha _ _ _ hr];simp only[hr] at he
   cases e with
   |norm=>
    simp only at he ⊢
    cases hr2:run cl yl N rd b v1 h1 with
    |none=>simp [hr2] at he
    |some q=>
     rw[ihb _ _ _ hr2];simp only[hr2] at he;exact he
   |ret=>exact he
   |exit k=>exact he
 |ite x a b iha ihb=>
  intro vars h r he;rw[run_ite] at he ⊢;split at he
  ·exact iha _ _ _ he
  ·exact ihb _ _ _ he
  ·cases he
 |block id a iha=>
  intro vars h r he;rw[Ea] at he ⊢
  cases hr:run cl yl N rd a vars h with
  |none=>simp [hr] at he
  |some q=>
   rw[iha _ _ _ hr];simp only[hr] at he;exact he
 |loop a iha=>
  intro vars h r he;rw[rS] at he ⊢;exact sM iha N N' hN _ _ _ he
 |exit n=>intro vars h r he;rw[Js] at he ⊢;exact he
 |ret=>intro vars h r he;rw[Ow] at he ⊢;exact he
 |scope a iha=>intro vars h r he;rw[Ed] at he ⊢;exact iha _ _ _ he
 |range x ps a b _ _=>
  intro vars h r he;rw[Dp] at he ⊢;simp only[xS] at he ⊢;split at he
  ·split at he
   ·rename_i hok
    rw[if_pos hok];split at he
    ·rename_i hr
     simp only[hc _ _ _ _ hr];exact he
    ·cases he
   ·cases he
  ·cases he
 |fail=>intro vars h r he;exact he
theorem Ar {p:Nat->Option Fn}(hc:Le cl cl'): ∀(dfs:GG) (h h':H),Ac p cl dfs h=some h'->Ac p cl' dfs h=some h'
 | [],h,h',he=>by rw[uW] at he ⊢;exact he
 |(g,args)::r,h,h',he=>by
  rw[Hd] at he ⊢;split at he
  ·split at he
   ·rename_i hn
    rw[if_pos hn];split at he
    ·rename_i hr
     simp only[hc _ _ _ _ hr];exact Ar hc r _ _ he
    ·cases he
   ·cases he
  ·cases he
theorem Wu {p:Nat->Option Fn}(hc:Le cl cl')(hy:Le yl yl'){N N':Nat}(hN:N<=N'):Le (xX p cl yl N) (xX p cl' yl' N'):=by
 intro g args h r he;simp only[xX] at he ⊢;split at he
 ·cases he
 ·rename_i fn hg
  split at he
  ·rename_i hl
   rw[if_pos hl];split at he
   ·rename_i hr
    simp only[fG hc hy hN _ _ _ _ hr];split at he
    ·rename_i hd
     simp only[Ar hc _ _ _ hd];exact he
    ·cases he
   ·rename_i hr
    simp only[fG hc hy hN _ _ _ _ hr];split at he
    ·rename_i hd
     simp only[Ar hc _ _ _ hd];exact he
    ·cases he
   ·cases he
  ·cases he
theorem Ra (hc:Le cl cl')(hy:Le yl yl'){N N':Nat}(hN:N<=N'):Le (uO cl yl N) (uO cl' yl' N'):=by
 intro id args h r he;simp only[uO] at he ⊢;split at he
 ·split at he
  ·rename_i hl
   rw[if_pos hl];split at he
   ·rename_i hr
    simp only[fG hc hy hN _ _ _ _ hr];split at he
    ·split at he
     ·rename_i iW
      rw[if_pos iW];split at he
      ·rename_i hr2
       simp only[fG hc hy hN _ _ _ _ hr2];exact he
      ·cases he
     ·cases he
    ·cases he
   ·cases he
  ·cases he
 ·cases he
theorem Sw (p:Nat->Option Fn){N N':Nat}(hN:N<=N'): ∀(f f':Nat),f<=f'->Le (lM p N f).1 (lM p N' f').1/\Le (lM p N f).2 (lM p N' f').2
 |0,_,_=>by rw[Uf];exact⟨λ_ _ _ _ h=>by (cases h),λ_ _ _ _ h=>by (cases h)⟩
 |f+1,0,h=>by omega
 |f+1,f'+1,h=>by
  obtain⟨h1,h2⟩:=Sw p hN f f' (by omega);rw[pX,pX];exact⟨Wu h1 h2 hN,Ra h1 h2 hN⟩
end
end Go.Ay
