/- BM fuel, the same answer. -/
import Derived.Test.YtapfcpkecmmagaaGreatAy1b
namespace Go.Ay
def Le (a b:dP):Prop:= ∀g args h r,a g args h=some r->b g args h=some r
theorem Le.refl (a:dP):Le a a:=λ_ _ _ _ h=>h
theorem Le.trans {a b c:dP}(h:Le a b)(k:Le b c):Le a c:=λ_ _ _ _ x=>k _ _ _ _ (h _ _ _ _ x)
section
variable {cl cl' yl yl':dP}
theorem lE (f:Le cl cl')(m:Le yl yl'){c d:List V}{h:H}{a:dR}{r:V×H}(b:jI cl yl c d h a=some r):jI cl' yl' c d h a=some r:=by
 cases a with
 |op i=>rw[nE] at b ⊢;exact b
 |call g args=>rw[mV] at b ⊢;exact f _ _ _ _ b
 |callv x args=>
  rw[mB] at b ⊢;split at b
  ·exact f _ _ _ _ b
  ·exact m _ _ _ _ b
  ·cases b
 |calli g t x args=>
  rw[lU] at b ⊢;split at b
  ·rename_i u v p
   cases hq:Nat.beq u t with
   |false=>rw[hq] at b;cases b
   |true=>rw[hq] at b;exact f _ _ _ _ b
  ·cases b
 |callp g args=>
  rw[jG] at b ⊢;obtain⟨v,o⟩:=r;obtain⟨rfl,k,j,n,e⟩:=qF b;have l:=f _ _ _ _ e;unfold xX;simp only[k,l,j,cond_true]
theorem lH (b:Le cl cl')(a:Le yl yl'): ∀(its:List It) (vars loc:List V) (h:H) (r:List V×H),oD cl yl its vars loc h=some r->oD cl' yl' its vars loc h=some r
 | [],vars,loc,h,r,he=>by rw[xE] at he ⊢;exact he
 |it::its,vars,loc,h,r,he=>by
  rw[jX] at he ⊢;split at he
  ·split at he
   ·rename_i e _ v d c
    simp only[lE b a c];exact lH b a its _ _ _ _ he
   ·cases he
  ·exact lH b a its _ _ _ _ he
  ·cases he
theorem mU (e:Le cl cl')(f:Le yl yl'){base:Nat}: ∀(xs:List AI) (vars:List V) (log:Log) (h:H) (r:List V×H),oW cl yl base xs vars log h=some r->oW cl' yl' base xs vars log h=some r
 | [],vars,log,h,r,he=>by rw[xI] at he ⊢;exact he
 |x::xs,vars,log,h,r,he=>by
  rw[iD] at he ⊢;split at he
  ·split at he
   ·rename_i k _ v j g
    have c:(if x.al then zJ vars h (base+x.i) x.it.a else jI cl' yl' vars [] h x.it.a)=some (v,j):=by
     split at g
     ·rename_i b;rw[aV b];exact g
     ·rename_i b;rw[aZ b];exact lE e f g
    simp only[c];split at he
    ·rename_i d
     rw[aV d];exact mU e f xs _ _ _ _ he
    ·cases he
   ·cases he
  ·split at he
   ·rename_i d
    rw[aV d];exact mU e f xs _ _ _ _ he
   ·cases he
  ·cases he
theorem qJ {s b:List V->H->Ju}(a: ∀vars h r,s vars h=some r->b vars h=some r): ∀(n n':Nat),n<=n'-> ∀vars h r,rD s n vars h=some r->rD b n' vars h=some r
 |0,_,_,vars,h,r,he=>by rw[zL] at he;cases he
 |n+1,0,hn,_,_,_,_=>om
 |n+1,n'+1,hn,vars,h,r,he=>by
  rw[mQ] at he ⊢
  cases hr:s vars h with
  |none=>simp [hr] at he
  |some q=>
   obtain⟨e,d,f,c⟩:=q;rw[a _ _ _ hr];simp only[hr] at he
   cases e with
   |norm=>
    simp only at he ⊢
    cases hr2:rD s n d c with
    |none=>simp [hr2] at he
    |some q=>
     rw[qJ a n n' om _ _ _ hr2];simp only[hr2] at he;exact he
   |ret=>exact he
   |exit k=>exact he
theorem fY (i:Le cl cl')(o:Le yl yl'){N p:Nat}(s:N<=p){rd:Option Nat}: ∀(c:C) (vars:List V) (h:H) (r:E×List V×Sz×H),run cl yl N rd c vars h=some r->run cl' yl' p rd c vars h=some r:=by
 intro c
 induction c with
 |skip=>intro vars h r d;rw[uP] at d ⊢;exact d
 |reg its=>
  intro vars h r d;rw[Gk] at d ⊢;split at d
  ·rename_i j g f
   simp only[lH i o _ _ _ _ _ f];exact d
  ·cases d
 |any k nl its=>
  intro vars h r d;rw[Gf] at d ⊢;split at d
  ·rename_i j g f
   simp only[mU i o _ _ _ _ _ f];exact d
  ·cases d
 |regd its x args=>
  intro vars h r d;rw[Kf] at d ⊢;simp only[zB] at d ⊢;split at d
  ·cases d
  ·rename_i m
   rw[aZ m];split at d
   ·rename_i j g f
    simp only[lH i o _ _ _ _ _ f];exact d
   ·cases d
 |seq a b iha ihb=>
  intro vars h r d;rw[run_seq] at d ⊢
  cases f:run cl yl N rd a vars h with
  |none=>simp [f] at d
  |some q=>
   obtain⟨e,j,t,g⟩:=q;rw[iha _ _ _ f];simp only[f] at d
   cases e with
   |norm=>
    simp only at d ⊢
    cases hr2:run cl yl N rd b j g with
    |none=>simp [hr2] at d
    |some q=>
     rw[ihb _ _ _ hr2];simp only[hr2] at d;exact d
   |ret=>exact d
   |exit k=>exact d
 |ite x a b iha ihb=>
  intro vars h r d;rw[run_ite] at d ⊢;split at d
  ·exact iha _ _ _ d
  ·exact ihb _ _ _ d
  ·cases d
 |block id a iha=>
  intro vars h r d;rw[xH] at d ⊢
  cases f:run cl yl N rd a vars h with
  |none=>simp [f] at d
  |some q=>
   rw[iha _ _ _ f];simp only[f] at d;exact d
 |loop a iha=>
  intro vars h r d;rw[Ai] at d ⊢;exact qJ iha N p s _ _ _ d
 |exit n=>intro vars h r d;rw[Ak] at d ⊢;exact d
 |ret=>intro vars h r d;rw[Gw] at d ⊢;exact d
 |scope a iha=>intro vars h r d;rw[xG] at d ⊢;exact iha _ _ _ d
 |range x ps a b _ _=>
  intro vars h r d;rw[wZ] at d ⊢;simp only[rN] at d ⊢;split at d
  ·split at d
   ·rename_i l
    rw[aV l];split at d
    ·rename_i f
     simp only[i _ _ _ _ f];exact d
    ·cases d
   ·cases d
  ·cases d
 |fail=>intro vars h r d;exact d
theorem tU {p:Nat->Option Fn}(a:Le cl cl'): ∀(dfs:Sz) (h h':H),tA p cl dfs h=some h'->tA p cl' dfs h=some h'
 | [],h,h',he=>by rw[oX] at he ⊢;exact he
 |(g,args)::r,h,h',he=>by
  rw[Bq] at he ⊢;split at he
  ·split at he
   ·rename_i b
    rw[aV b];split at he
    ·rename_i c
     simp only[a _ _ _ _ c];exact tU a r _ _ he
    ·cases he
   ·cases he
  ·cases he
theorem Mu {p:Nat->Option Fn}(b:Le cl cl')(i:Le yl yl'){N j:Nat}(f:N<=j):Le (qZ p cl yl N) (qZ p cl' yl' j):=by
 intro g e h r a;simp only[qZ] at a ⊢;split at a
 ·cases a
 ·rename_i m l
  split at a
  ·rename_i k
   rw[aV k];split at a
   ·rename_i d
    simp only[fY b i f _ _ _ _ d];split at a
    ·rename_i c
     simp only[tU b _ _ _ c];exact a
    ·cases a
   ·rename_i d
    simp only[fY b i f _ _ _ _ d];split at a
    ·rename_i c
     simp only[tU b _ _ _ c];exact a
    ·cases a
   ·cases a
  ·cases a
theorem Jj (d:Le cl cl')(e:Le yl yl'){N f:Nat}(g:N<=f):Le (oN cl yl N) (oN cl' yl' f):=by
 intro id c h r a;simp only[oN] at a ⊢;split at a
 ·split at a
  ·rename_i i
   rw[aV i];split at a
   ·rename_i j
    simp only[fY d e g _ _ _ _ j];split at a
    ·split at a
     ·rename_i gY
      rw[aV gY];split at a
      ·rename_i b
       simp only[fY d e g _ _ _ _ b];exact a
      ·cases a
     ·cases a
    ·cases a
   ·cases a
  ·cases a
 ·cases a
theorem Il (p:Nat->Option Fn){N a:Nat}(b:N<=a): ∀(f f':Nat),f<=f'->Le (iL p N f).1 (iL p a f').1/\Le (iL p N f).2 (iL p a f').2
 |0,_,_=>by rw[Jz];exact⟨λ_ _ _ _ h=>by (cases h),λ_ _ _ _ h=>by (cases h)⟩
 |f+1,0,h=>om
 |f+1,f'+1,h=>by
  obtain⟨c,d⟩:=Il p b f f' om;rw[lY,lY];exact⟨Mu c d b,Jj c d b⟩
end
end Go.Ay
