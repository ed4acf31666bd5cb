/- QC fuel, the same answer. -/
import Derived.Test.YtddpkbicnolafaaGreatAy1b
namespace Go.Ay
def Le (a b:dX):Prop:= ∀g args h r,a g args h=some r->b g args h=some r
theorem Le.refl (a:dX):Le a a:=λ_ _ _ _ h=>h
theorem Le.trans {a b c:dX}(h:Le a b)(k:Le b c):Le a c:=λ_ _ _ _ x=>k _ _ _ _ (h _ _ _ _ x)
section
variable {cl cl' yl yl':dX}
theorem qJ (hc:Le cl cl')(hy:Le yl yl'){vars loc:List V}{h:H}{a:dZ}{r:V×H}(he:mE cl yl vars loc h a=some r):mE cl' yl' vars loc h a=some r:=by
 cases a with
 |op i=>rw[tA] at he ⊢;exact he
 |call g args=>rw[tD] at he ⊢;exact hc _ _ _ _ he
 |callv x args=>
  rw[qW] at he ⊢;split at he
  ·exact hc _ _ _ _ he
  ·exact hy _ _ _ _ he
  ·cases he
 |calli g t x args=>
  rw[qS] at he ⊢;split at he
  ·rename_i u v hx
   cases hq:Nat.beq u t with
   |false=>rw[hq] at he;cases he
   |true=>rw[hq] at he;exact hc _ _ _ _ he
  ·cases he
 |callp g args=>
  rw[mL] at he ⊢;obtain⟨v,h'⟩:=r;obtain⟨rfl,h1,h3,h2,e⟩:=wJ he;have e2:=hc _ _ _ _ e;unfold Gh;simp only[h1,e2,h3,cond_true]
theorem pX (hc:Le cl cl')(hy:Le yl yl'): ∀(its:List It) (vars loc:List V) (h:H) (r:List V×H),uB cl yl its vars loc h=some r->uB cl' yl' its vars loc h=some r
 | [],vars,loc,h,r,he=>by rw[Fe] at he ⊢;exact he
 |it::its,vars,loc,h,r,he=>by
  rw[oD] at he ⊢;split at he
  ·split at he
   ·rename_i hw _ v h1 ha
    simp only[qJ hc hy ha];exact pX hc hy its _ _ _ _ he
   ·cases he
  ·exact pX hc hy its _ _ _ _ he
  ·cases he
theorem sT (hc:Le cl cl')(hy:Le yl yl'){base:Nat}: ∀(xs:List AI) (vars:List V) (log:Log) (h:H) (r:List V×H),vB cl yl base xs vars log h=some r->vB cl' yl' base xs vars log h=some r
 | [],vars,log,h,r,he=>by rw[Fo] at he ⊢;exact he
 |x::xs,vars,log,h,r,he=>by
  rw[jM] at he ⊢;split at he
  ·split at he
   ·rename_i hw _ v h1 ha
    have ha':(if x.al then Iu vars h (base+x.i) x.it.a else mE cl' yl' vars [] h x.it.a)=some (v,h1):=by
     split at ha
     ·rename_i hal;rw[if_pos hal];exact ha
     ·rename_i hal;rw[if_neg hal];exact qJ hc hy ha
    simp only[ha'];split at he
    ·rename_i ho
     rw[if_pos ho];exact sT hc hy xs _ _ _ _ he
    ·cases he
   ·cases he
  ·split at he
   ·rename_i ho
    rw[if_pos ho];exact sT hc hy xs _ _ _ _ he
   ·cases he
  ·cases he
theorem wC {s s':List V->H->Tj}(hs: ∀vars h r,s vars h=some r->s' vars h=some r): ∀(n n':Nat),n<=n'-> ∀vars h r,zH s n vars h=some r->zH s' n' vars h=some r
 |0,_,_,vars,h,r,he=>by rw[Ku] at he;cases he
 |n+1,0,hn,_,_,_,_=>by omega
 |n+1,n'+1,hn,vars,h,r,he=>by
  rw[sZ] at he ⊢
  cases hr:s vars h with
  |none=>simp [hr] at he
  |some q=>
   obtain⟨e,v1,d1,h1⟩:=q;rw[hs _ _ _ hr];simp only[hr] at he
   cases e with
   |norm=>
    simp only at he ⊢
    cases hr2:zH s n v1 h1 with
    |none=>simp [hr2] at he
    |some q=>
     rw[wC hs n n' (by omega) _ _ _ hr2];simp only[hr2] at he;exact he
   |ret=>exact he
   |exit k=>exact he
theorem iT (hc:Le cl cl')(hy:Le yl yl'){N N':Nat}(hN:N<=N'){rd:Option Nat}: ∀(c:C) (vars:List V) (h:H) (r:E×List V×GR×H),run cl yl N rd c vars h=some r->run cl' yl' N' rd c vars h=some r:=by
 intro c
 induction c with
 |skip=>intro vars h r he;rw[Ds] at he ⊢;exact he
 |reg its=>
  intro vars h r he;rw[Pg] at he ⊢;split at he
  ·rename_i v1 h1 hr
   simp only[pX hc hy _ _ _ _ _ hr];exact he
  ·cases he
 |any k nl its=>
  intro vars h r he;rw[Pq] at he ⊢;split at he
  ·rename_i v1 h1 hr
   simp only[sT hc hy _ _ _ _ _ hr];exact he
  ·cases he
 |regd its x args=>
  intro vars h r he;rw[Tn] at he ⊢;simp only[Hj] at he ⊢;split at he
  ·cases he
  ·rename_i hrd
   rw[if_neg hrd];split at he
   ·rename_i v1 h1 hr
    simp only[pX hc hy _ _ _ _ _ hr];exact he
   ·cases he
 |seq a b iha ihb=>
  intro vars h r he;rw[run_seq] at he ⊢
  cases hr:run cl yl N rd a vars h with
  |none=>simp [hr] at he
  |some q=>
   obtain⟨e,v1,d1,h1⟩:=q;rw[iha _ _ _ hr];simp only[hr] at he
   cases e with
   |norm=>
    simp only at he ⊢
    cases hr2:run cl yl N rd b v1 h1 with
    |none=>simp [hr2] at he
    |some q=>
     rw[ihb _ _ _ hr2];simp only[hr2] at he;exact he
   |ret=>exact he
   |exit k=>exact he
 |ite x a b iha ihb=>
  intro vars h r he;rw[run_ite] at he ⊢;split at he
  ·exact iha _ _ _ he
  ·exact ihb _ _ _ he
  ·cases he
 |block id a iha=>
  intro vars h r he;rw[Dz] at he ⊢
  cases hr:run cl yl N rd a vars h with
  |none=>simp [hr] at he
  |some q=>
   rw[iha _ _ _ hr];simp only[hr] at he;exact he
 |loop a iha=>
  intro vars h r he;rw[Ja] at he ⊢;exact wC iha N N' hN _ _ _ he
 |exit n=>intro vars h r he;rw[Jc] at he ⊢;exact he
 |ret=>intro vars h r he;rw[Ql] at he ⊢;exact he
 |scope a iha=>intro vars h r he;rw[Ea] at he ⊢;exact iha _ _ _ he
 |range x ps a b _ _=>
  intro vars h r he;rw[Eh] at he ⊢;simp only[yZ] at he ⊢;split at he
  ·split at he
   ·rename_i hok
    rw[if_pos hok];split at he
    ·rename_i hr
     simp only[hc _ _ _ _ hr];exact he
    ·cases he
   ·cases he
  ·cases he
 |fail=>intro vars h r he;exact he
theorem Bd {p:Nat->Option Fn}(hc:Le cl cl'): ∀(dfs:GR) (h h':H),Av p cl dfs h=some h'->Av p cl' dfs h=some h'
 | [],h,h',he=>by rw[vF] at he ⊢;exact he
 |(g,args)::r,h,h',he=>by
  rw[Kt] at he ⊢;split at he
  ·split at he
   ·rename_i hn
    rw[if_pos hn];split at he
    ·rename_i hr
     simp only[hc _ _ _ _ hr];exact Bd hc r _ _ he
    ·cases he
   ·cases he
  ·cases he
theorem Yr {p:Nat->Option Fn}(hc:Le cl cl')(hy:Le yl yl'){N N':Nat}(hN:N<=N'):Le (yV p cl yl N) (yV p cl' yl' N'):=by
 intro g args h r he;simp only[yV] at he ⊢;split at he
 ·cases he
 ·rename_i fn hg
  split at he
  ·rename_i hl
   rw[if_pos hl];split at he
   ·rename_i hr
    simp only[iT hc hy hN _ _ _ _ hr];split at he
    ·rename_i hd
     simp only[Bd hc _ _ _ hd];exact he
    ·cases he
   ·rename_i hr
    simp only[iT hc hy hN _ _ _ _ hr];split at he
    ·rename_i hd
     simp only[Bd hc _ _ _ hd];exact he
    ·cases he
   ·cases he
  ·cases he
theorem Sh (hc:Le cl cl')(hy:Le yl yl'){N N':Nat}(hN:N<=N'):Le (uQ cl yl N) (uQ cl' yl' N'):=by
 intro id args h r he;simp only[uQ] at he ⊢;split at he
 ·split at he
  ·rename_i hl
   rw[if_pos hl];split at he
   ·rename_i hr
    simp only[iT hc hy hN _ _ _ _ hr];split at he
    ·split at he
     ·rename_i jK
      rw[if_pos jK];split at he
      ·rename_i hr2
       simp only[iT hc hy hN _ _ _ _ hr2];exact he
      ·cases he
     ·cases he
    ·cases he
   ·cases he
  ·cases he
 ·cases he
theorem Ua (p:Nat->Option Fn){N N':Nat}(hN:N<=N'): ∀(f f':Nat),f<=f'->Le (kI p N f).1 (kI p N' f').1/\Le (kI p N f).2 (kI p N' f').2
 |0,_,_=>by rw[Sz];exact⟨λ_ _ _ _ h=>by (cases h),λ_ _ _ _ h=>by (cases h)⟩
 |f+1,0,h=>by omega
 |f+1,f'+1,h=>by
  obtain⟨h1,h2⟩:=Ua p hN f f' (by omega);rw[qY,qY];exact⟨Yr h1 h2 hN,Sh h1 h2 hN⟩
end
end Go.Ay
