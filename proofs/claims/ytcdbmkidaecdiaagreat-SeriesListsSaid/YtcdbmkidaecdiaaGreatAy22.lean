/- aeE fuel, the same answer. -/
import Derived.Test.YtcdbmkidaecdiaaGreatAy1b
namespace Go.Ay
def Le (a b:dM):Prop:= ∀g args h r,a g args h=some r->b g args h=some r
theorem Le.refl (a:dM):Le a a:=λ_ _ _ _ h=>h
theorem Le.trans {a b c:dM}(h:Le a b)(k:Le b c):Le a c:=λ_ _ _ _ x=>k _ _ _ _ (h _ _ _ _ x)
section
variable {cl cl' yl yl':dM}
theorem pN (f:Le cl cl')(l:Le yl yl'){c d:List V}{h:H}{a:dO}{r:V×H}(b:kY cl yl c d h a=some r):kY cl' yl' c d h a=some r:=by
 cases a with
 |op i=>rw[tQ] at b ⊢;exact b
 |call g args=>rw[tS] at b ⊢;exact f _ _ _ _ b
 |callv x args=>
  rw[rL] at b ⊢;split at b
  ·exact f _ _ _ _ b
  ·exact l _ _ _ _ b
  ·cases b
 |calli g t x args=>
  rw[rE] at b ⊢;split at b
  ·rename_i u v n
   cases hq:Nat.beq u t with
   |false=>rw[hq] at b;cases b
   |true=>rw[hq] at b;exact f _ _ _ _ b
  ·cases b
 |callp g args=>
  rw[lD] at b ⊢;obtain⟨v,o⟩:=r;obtain⟨rfl,k,j,p,e⟩:=xS b;have m:=f _ _ _ _ e;unfold Lg;simp only[k,m,j,cond_true]
theorem pJ (a:Le cl cl')(b:Le yl yl'): ∀(its:List It) (vars loc:List V) (h:H) (r:List V×H),uZ cl yl its vars loc h=some r->uZ cl' yl' its vars loc h=some r
 | [],vars,loc,h,r,he=>by rw[Ka] at he ⊢;exact he
 |it::its,vars,loc,h,r,he=>by
  rw[mQ] at he ⊢;split at he
  ·split at he
   ·rename_i d _ v e c
    simp only[pN a b c];exact pJ a b its _ _ _ _ he
   ·cases he
  ·exact pJ a b its _ _ _ _ he
  ·cases he
theorem uE (c:Le cl cl')(f:Le yl yl'){base:Nat}: ∀(xs:List AI) (vars:List V) (log:Log) (h:H) (r:List V×H),wW cl yl base xs vars log h=some r->wW cl' yl' base xs vars log h=some r
 | [],vars,log,h,r,he=>by rw[Kd] at he ⊢;exact he
 |x::xs,vars,log,h,r,he=>by
  rw[iY] at he ⊢;split at he
  ·split at he
   ·rename_i k _ v j d
    have g:(if x.al then Pb vars h (base+x.i) x.it.a else kY cl' yl' vars [] h x.it.a)=some (v,j):=by
     split at d
     ·rename_i b;rw[bJ b];exact d
     ·rename_i b;rw[bL b];exact pN c f d
    simp only[g];split at he
    ·rename_i e
     rw[bJ e];exact uE c f xs _ _ _ _ he
    ·cases he
   ·cases he
  ·split at he
   ·rename_i e
    rw[bJ e];exact uE c f xs _ _ _ _ he
   ·cases he
  ·cases he
theorem xP {s a:List V->H->Yp}(b: ∀vars h r,s vars h=some r->a vars h=some r): ∀(n n':Nat),n<=n'-> ∀vars h r,Be s n vars h=some r->Be a n' vars h=some r
 |0,_,_,vars,h,r,he=>by rw[Pc] at he;cases he
 |n+1,0,hn,_,_,_,_=>om
 |n+1,n'+1,hn,vars,h,r,he=>by
  rw[uA] at he ⊢
  cases hr:s vars h with
  |none=>simp [hr] at he
  |some q=>
   obtain⟨e,c,f,d⟩:=q;rw[b _ _ _ hr];simp only[hr] at he
   cases e with
   |norm=>
    simp only at he ⊢
    cases hr2:Be s n c d with
    |none=>simp [hr2] at he
    |some q=>
     rw[xP b n n' om _ _ _ hr2];simp only[hr2] at he;exact he
   |ret=>exact he
   |exit k=>exact he
theorem iH (g:Le cl cl')(o:Le yl yl'){N m:Nat}(s:N<=m){rd:Option Nat}: ∀(c:C) (vars:List V) (h:H) (r:E×List V×OK×H),run cl yl N rd c vars h=some r->run cl' yl' m rd c vars h=some r:=by
 intro c
 induction c with
 |skip=>intro vars h r d;rw[Hx] at d ⊢;exact d
 |reg its=>
  intro vars h r d;rw[Ut] at d ⊢;split at d
  ·rename_i j i f
   simp only[pJ g o _ _ _ _ _ f];exact d
  ·cases d
 |any k nl its=>
  intro vars h r d;rw[Uk] at d ⊢;split at d
  ·rename_i j i f
   simp only[uE g o _ _ _ _ _ f];exact d
  ·cases d
 |regd its x args=>
  intro vars h r d;rw[BJ] at d ⊢;simp only[Lx] at d ⊢;split at d
  ·cases d
  ·rename_i p
   rw[bL p];split at d
   ·rename_i j i f
    simp only[pJ g o _ _ _ _ _ f];exact d
   ·cases d
 |seq a b iha ihb=>
  intro vars h r d;rw[run_seq] at d ⊢
  cases f:run cl yl N rd a vars h with
  |none=>simp [f] at d
  |some q=>
   obtain⟨e,j,t,i⟩:=q;rw[iha _ _ _ f];simp only[f] at d
   cases e with
   |norm=>
    simp only at d ⊢
    cases hr2:run cl yl N rd b j i with
    |none=>simp [hr2] at d
    |some q=>
     rw[ihb _ _ _ hr2];simp only[hr2] at d;exact d
   |ret=>exact d
   |exit k=>exact d
 |ite x a b iha ihb=>
  intro vars h r d;rw[run_ite] at d ⊢;split at d
  ·exact iha _ _ _ d
  ·exact ihb _ _ _ d
  ·cases d
 |block id a iha=>
  intro vars h r d;rw[Jq] at d ⊢
  cases f:run cl yl N rd a vars h with
  |none=>simp [f] at d
  |some q=>
   rw[iha _ _ _ f];simp only[f] at d;exact d
 |loop a iha=>
  intro vars h r d;rw[Qj] at d ⊢;exact xP iha N m s _ _ _ d
 |exit n=>intro vars h r d;rw[Mq] at d ⊢;exact d
 |ret=>intro vars h r d;rw[Vn] at d ⊢;exact d
 |scope a iha=>intro vars h r d;rw[Kf] at d ⊢;exact iha _ _ _ d
 |range x ps a b _ _=>
  intro vars h r d;rw[Jy] at d ⊢;simp only[Bd] at d ⊢;split at d
  ·split at d
   ·rename_i l
    rw[bJ l];split at d
    ·rename_i f
     simp only[g _ _ _ _ f];exact d
    ·cases d
   ·cases d
  ·cases d
 |fail=>intro vars h r d;exact d
theorem Ec {p:Nat->Option Fn}(a:Le cl cl'): ∀(dfs:OK) (h h':H),Dp p cl dfs h=some h'->Dp p cl' dfs h=some h'
 | [],h,h',he=>by rw[vX] at he ⊢;exact he
 |(g,args)::r,h,h',he=>by
  rw[Nq] at he ⊢;split at he
  ·split at he
   ·rename_i b
    rw[bJ b];split at he
    ·rename_i c
     simp only[a _ _ _ _ c];exact Ec a r _ _ he
    ·cases he
   ·cases he
  ·cases he
theorem CB {p:Nat->Option Fn}(b:Le cl cl')(i:Le yl yl'){N f:Nat}(e:N<=f):Le (Bf p cl yl N) (Bf p cl' yl' f):=by
 intro g j h r a;simp only[Bf] at a ⊢;split at a
 ·cases a
 ·rename_i l m
  split at a
  ·rename_i k
   rw[bJ k];split at a
   ·rename_i d
    simp only[iH b i e _ _ _ _ d];split at a
    ·rename_i c
     simp only[Ec b _ _ _ c];exact a
    ·cases a
   ·rename_i d
    simp only[iH b i e _ _ _ _ d];split at a
    ·rename_i c
     simp only[Ec b _ _ _ c];exact a
    ·cases a
   ·cases a
  ·cases a
theorem Yc (c:Le cl cl')(f:Le yl yl'){N e:Nat}(d:N<=e):Le (vG cl yl N) (vG cl' yl' e):=by
 intro id g h r a;simp only[vG] at a ⊢;split at a
 ·split at a
  ·rename_i i
   rw[bJ i];split at a
   ·rename_i j
    simp only[iH c f d _ _ _ _ j];split at a
    ·split at a
     ·rename_i iB
      rw[bJ iB];split at a
      ·rename_i b
       simp only[iH c f d _ _ _ _ b];exact a
      ·cases a
     ·cases a
    ·cases a
   ·cases a
  ·cases a
 ·cases a
theorem AG (p:Nat->Option Fn){N a:Nat}(b:N<=a): ∀(f f':Nat),f<=f'->Le (jO p N f).1 (jO p a f').1/\Le (jO p N f).2 (jO p a f').2
 |0,_,_=>by rw[AF];exact⟨λ_ _ _ _ h=>by (cases h),λ_ _ _ _ h=>by (cases h)⟩
 |f+1,0,h=>om
 |f+1,f'+1,h=>by
  obtain⟨c,d⟩:=AG p b f f' om;rw[qS,qS];exact⟨CB c d b,Yc c d b⟩
end
end Go.Ay
