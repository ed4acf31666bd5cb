/- TN fuel, the same answer. -/
import Derived.Test.YtddpkbicnolafaaGreatAy1b
namespace Go.Ay
variable {N N':Nat}
def Le (a b:dS):Prop:= ∀g args h r,a g args h=some r->b g args h=some r
theorem Le.refl (a:dS):Le a a:=λ_ _ _ _ h=>h
theorem Le.trans {a b c:dS}(h:Le a b)(k:Le b c):Le a c:=λ_ _ _ _ x=>k _ _ _ _ (h _ _ _ _ x)
section
variable {cl cl' yl yl':dS}
theorem pM (hc:Le cl cl')(hy:Le yl yl'){vars loc:List V}{h:H}{a:dX}{r:V×H}(he:mD cl yl vars loc h a=some r):mD cl' yl' vars loc h a=some r:=by
 cases a with
 |op i=>rw[tQ] at he ⊢;exact he
 |call g args=>rw[tL] at he ⊢;exact hc _ _ _ _ he
 |callv x args=>
  rw[qP] at he ⊢;split at he
  ·exact hc _ _ _ _ he
  ·exact hy _ _ _ _ he
  ·cases he
 |calli g t x args=>
  rw[qS] at he ⊢;split at he
  ·rename_i u v hx
   cases hq:Nat.beq u t with
   |false=>rw[hq] at he;cases he
   |true=>rw[hq] at he;exact hc _ _ _ _ he
  ·cases he
 |callp g args=>
  rw[lX] at he ⊢;obtain⟨v,h'⟩:=r;obtain⟨rfl,h1,h3,h2,e⟩:=xO he;have e2:=hc _ _ _ _ e;unfold Hq;simp only[h1,e2,h3,cond_true]
theorem qF (hc:Le cl cl')(hy:Le yl yl'): ∀(its:List It) (vars loc:List V) (h:H) (r:List V×H),uH cl yl its vars loc h=some r->uH cl' yl' its vars loc h=some r
 | [],vars,loc,h,r,he=>by rw[Gx] at he ⊢;exact he
 |it::its,vars,loc,h,r,he=>by
  rw[oB] at he ⊢;split at he
  ·split at he
   ·rename_i hw _ v h1 ha
    simp only[pM hc hy ha];exact qF hc hy its _ _ _ _ he
   ·cases he
  ·exact qF hc hy its _ _ _ _ he
  ·cases he
theorem tV (hc:Le cl cl')(hy:Le yl yl'){base:Nat}: ∀(xs:List AI) (vars:List V) (log:Log) (h:H) (r:List V×H),vP cl yl base xs vars log h=some r->vP cl' yl' base xs vars log h=some r
 | [],vars,log,h,r,he=>by rw[Gl] at he ⊢;exact he
 |x::xs,vars,log,h,r,he=>by
  rw[jM] at he ⊢;split at he
  ·split at he
   ·rename_i hw _ v h1 ha
    have ha':(if x.al then Lc vars h (base+x.i) x.it.a else mD cl' yl' vars [] h x.it.a)=some (v,h1):=by
     split at ha
     ·rename_i hal;rw[if_pos hal];exact ha
     ·rename_i hal;rw[if_neg hal];exact pM hc hy ha
    simp only[ha'];split at he
    ·rename_i ho
     rw[if_pos ho];exact tV hc hy xs _ _ _ _ he
    ·cases he
   ·cases he
  ·split at he
   ·rename_i ho
    rw[if_pos ho];exact tV hc hy xs _ _ _ _ he
   ·cases he
  ·cases he
theorem xY {s s':List V->H->Sw}(hs: ∀vars h r,s vars h=some r->s' vars h=some r): ∀(n n':Nat),n<=n'-> ∀vars h r,yN s n vars h=some r->yN s' n' vars h=some r
 |0,_,_,vars,h,r,he=>by rw[Lo] at he;cases he
 |n+1,0,hn,_,_,_,_=>by omega
 |n+1,n'+1,hn,vars,h,r,he=>by
  rw[sX] at he ⊢
  cases hr:s vars h with
  |none=>simp [hr] at he
  |some q=>
   obtain⟨e,v1,d1,h1⟩:=q;rw[hs _ _ _ hr];simp only[hr] at he
   cases e with
   |norm=>
    simp only at he ⊢
    cases hr2:yN s n v1 h1 with
    |none=>simp [hr2] at he
    |some q=>
     rw[xY hs n n' (by omega) _ _ _ hr2];simp only[hr2] at he;exact he
   |ret=>exact he
   |exit k=>exact he
theorem iW (hc:Le cl cl')(hy:Le yl yl')(hN:N<=N'){rd:Option Nat}: ∀(c:C) (vars:List V) (h:H) (r:E×List V×GV×H),run cl yl N rd c vars h=some r->run cl' yl' N' rd c vars h=some r:=by
 intro c
 induction c with
 |skip=>intro vars h r he;rw[Cs] at he ⊢;exact he
 |reg its=>
  intro vars h r he;rw[Ri] at he ⊢;split at he
  ·rename_i v1 h1 hr
   simp only[qF hc hy _ _ _ _ _ hr];exact he
  ·cases he
 |any k nl its=>
  intro vars h r he;rw[Ql] at he ⊢;split at he
  ·rename_i v1 h1 hr
   simp only[tV hc hy _ _ _ _ _ hr];exact he
  ·cases he
 |regd its x args=>
  intro vars h r he;rw[Sk] at he ⊢;simp only[Ig] at he ⊢;split at he
  ·cases he
  ·rename_i hrd
   rw[if_neg hrd];split at he
   ·rename_i v1 h1 hr
    simp only[qF hc hy _ _ _ _ _ hr];exact he
   ·cases he
 |seq a b iha ihb=>
  intro vars h r he;rw[run_seq] at he ⊢
  cases hr:run cl yl N rd a vars h with
  |none=>simp [hr] at he
  |some q=>
   obtain⟨e,v1,d1,h1⟩:=q;rw[iha _ _ _ hr];simp only[hr] at he
   cases e with
   |norm=>
    simp only at he ⊢
    cases hr2:run cl yl N rd b v1 h1 with
    |none=>simp [hr2] at he
    |some q=>
     rw[ihb _ _ _ hr2];simp only[hr2] at he;exact he
   |ret=>exact he
   |exit k=>exact he
 |ite x a b iha ihb=>
  intro vars h r he;rw[run_ite] at he ⊢;split at he
  ·exact iha _ _ _ he
  ·exact ihb _ _ _ he
  ·cases he
 |block id a iha=>
  intro vars h r he;rw[Gn] at he ⊢
  cases hr:run cl yl N rd a vars h with
  |none=>simp [hr] at he
  |some q=>
   rw[iha _ _ _ hr];simp only[hr] at he;exact he
 |loop a iha=>
  intro vars h r he;rw[Ke] at he ⊢;exact xY iha N N' hN _ _ _ he
 |exit n=>intro vars h r he;rw[Lf] at he ⊢;exact he
 |ret=>intro vars h r he;rw[Qq] at he ⊢;exact he
 |scope a iha=>intro vars h r he;rw[Fw] at he ⊢;exact iha _ _ _ he
 |range x ps a b _ _=>
  intro vars h r he;rw[Gy] at he ⊢;simp only[Aa] at he ⊢;split at he
  ·split at he
   ·rename_i hok
    rw[if_pos hok];split at he
    ·rename_i hr
     simp only[hc _ _ _ _ hr];exact he
    ·cases he
   ·cases he
  ·cases he
 |fail=>intro vars h r he;exact he
theorem Cg {p:Nat->Option Fn}(hc:Le cl cl'): ∀(dfs:GV) (h h':H),Bm p cl dfs h=some h'->Bm p cl' dfs h=some h'
 | [],h,h',he=>by rw[vI] at he ⊢;exact he
 |(g,args)::r,h,h',he=>by
  rw[Lm] at he ⊢;split at he
  ·split at he
   ·rename_i hn
    rw[if_pos hn];split at he
    ·rename_i hr
     simp only[hc _ _ _ _ hr];exact Cg hc r _ _ he
    ·cases he
   ·cases he
  ·cases he
theorem Yn {p:Nat->Option Fn}(hc:Le cl cl')(hy:Le yl yl')(hN:N<=N'):Le (zA p cl yl N) (zA p cl' yl' N'):=by
 intro g args h r he;simp only[zA] at he ⊢;split at he
 ·cases he
 ·rename_i fn hg
  split at he
  ·rename_i hl
   rw[if_pos hl];split at he
   ·rename_i hr
    simp only[iW hc hy hN _ _ _ _ hr];split at he
    ·rename_i hd
     simp only[Cg hc _ _ _ hd];exact he
    ·cases he
   ·rename_i hr
    simp only[iW hc hy hN _ _ _ _ hr];split at he
    ·rename_i hd
     simp only[Cg hc _ _ _ hd];exact he
    ·cases he
   ·cases he
  ·cases he
theorem Sh (hc:Le cl cl')(hy:Le yl yl')(hN:N<=N'):Le (uP cl yl N) (uP cl' yl' N'):=by
 intro id args h r he;simp only[uP] at he ⊢;split at he
 ·split at he
  ·rename_i hl
   rw[if_pos hl];split at he
   ·rename_i hr
    simp only[iW hc hy hN _ _ _ _ hr];split at he
    ·split at he
     ·rename_i jB
      rw[if_pos jB];split at he
      ·rename_i hr2
       simp only[iW hc hy hN _ _ _ _ hr2];exact he
      ·cases he
     ·cases he
    ·cases he
   ·cases he
  ·cases he
 ·cases he
theorem Uz (p:Nat->Option Fn){N N':Nat}(hN:N<=N'): ∀(f f':Nat),f<=f'->Le (kB p N f).1 (kB p N' f').1/\Le (kB p N f).2 (kB p N' f').2
 |0,_,_=>by rw[Um];exact⟨λ_ _ _ _ h=>by (cases h),λ_ _ _ _ h=>by (cases h)⟩
 |f+1,0,h=>by omega
 |f+1,f'+1,h=>by
  obtain⟨h1,h2⟩:=Uz p hN f f' (by omega);rw[rF,rF];exact⟨Yn h1 h2 hN,Sh h1 h2 hN⟩
end
end Go.Ay
