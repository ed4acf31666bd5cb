/- CQ fuel, the same answer. -/
import Derived.Test.YtapfcpkecmmagaaGreatAy1b
namespace Go.Ay
def Le (a b:dP):Prop:= ∀g args h r,a g args h=some r->b g args h=some r
theorem Le.refl (a:dP):Le a a:=λ_ _ _ _ h=>h
theorem Le.trans {a b c:dP}(h:Le a b)(k:Le b c):Le a c:=λ_ _ _ _ x=>k _ _ _ _ (h _ _ _ _ x)
section
variable {cl cl' yl yl':dP}
theorem lM (f:Le cl cl')(k:Le yl yl'){c d:List V}{h:H}{a:dV}{r:V×H}(b:jC cl yl c d h a=some r):jC cl' yl' c d h a=some r:=by
 cases a with
 |op i=>rw[nG] at b ⊢;exact b
 |call g args=>rw[mW] at b ⊢;exact f _ _ _ _ b
 |callv x args=>
  rw[mC] at b ⊢;split at b
  ·exact f _ _ _ _ b
  ·exact k _ _ _ _ b
  ·cases b
 |calli g t x args=>
  rw[mB] at b ⊢;split at b
  ·rename_i u v o
   cases hq:Nat.beq u t with
   |false=>rw[hq] at b;cases b
   |true=>rw[hq] at b;exact f _ _ _ _ b
  ·cases b
 |callp g args=>
  rw[jG] at b ⊢;obtain⟨v,n⟩:=r;obtain⟨rfl,l,m,p,e⟩:=qJ b;have j:=f _ _ _ _ e;unfold yA;simp only[l,j,m,cond_true]
theorem lH (a:Le cl cl')(b:Le yl yl'): ∀(its:List It) (vars loc:List V) (h:H) (r:List V×H),oK cl yl its vars loc h=some r->oK cl' yl' its vars loc h=some r
 | [],vars,loc,h,r,he=>by rw[xA] at he ⊢;exact he
 |it::its,vars,loc,h,r,he=>by
  rw[kC] at he ⊢;split at he
  ·split at he
   ·rename_i e _ v d c
    simp only[lM a b c];exact lH a b its _ _ _ _ he
   ·cases he
  ·exact lH a b its _ _ _ _ he
  ·cases he
theorem mV (c:Le cl cl')(d:Le yl yl'){base:Nat}: ∀(xs:List AI) (vars:List V) (log:Log) (h:H) (r:List V×H),pI cl yl base xs vars log h=some r->pI cl' yl' base xs vars log h=some r
 | [],vars,log,h,r,he=>by rw[wZ] at he ⊢;exact he
 |x::xs,vars,log,h,r,he=>by
  rw[iB] at he ⊢;split at he
  ·split at he
   ·rename_i k _ v j g
    have e:(if x.al then Bg vars h (base+x.i) x.it.a else jC cl' yl' vars [] h x.it.a)=some (v,j):=by
     split at g
     ·rename_i b;rw[aV b];exact g
     ·rename_i b;rw[aZ b];exact lM c d g
    simp only[e];split at he
    ·rename_i f
     rw[aV f];exact mV c d xs _ _ _ _ he
    ·cases he
   ·cases he
  ·split at he
   ·rename_i f
    rw[aV f];exact mV c d xs _ _ _ _ he
   ·cases he
  ·cases he
theorem nU {s a:List V->H->Kq}(b: ∀vars h r,s vars h=some r->a vars h=some r): ∀(n n':Nat),n<=n'-> ∀vars h r,rZ s n vars h=some r->rZ a n' vars h=some r
 |0,_,_,vars,h,r,he=>by rw[An] at he;cases he
 |n+1,0,hn,_,_,_,_=>om
 |n+1,n'+1,hn,vars,h,r,he=>by
  rw[jE] at he ⊢
  cases hr:s vars h with
  |none=>simp [hr] at he
  |some q=>
   obtain⟨e,d,f,c⟩:=q;rw[b _ _ _ hr];simp only[hr] at he
   cases e with
   |norm=>
    simp only at he ⊢
    cases hr2:rZ s n d c with
    |none=>simp [hr2] at he
    |some q=>
     rw[nU b n n' om _ _ _ hr2];simp only[hr2] at he;exact he
   |ret=>exact he
   |exit k=>exact he
theorem eY (g:Le cl cl')(m:Le yl yl'){N p:Nat}(s:N<=p){rd:Option Nat}: ∀(c:C) (vars:List V) (h:H) (r:E×List V×Tt×H),run cl yl N rd c vars h=some r->run cl' yl' p rd c vars h=some r:=by
 intro c
 induction c with
 |skip=>intro vars h r d;rw[uL] at d ⊢;exact d
 |reg its=>
  intro vars h r d;rw[Gf] at d ⊢;split at d
  ·rename_i j i f
   simp only[lH g m _ _ _ _ _ f];exact d
  ·cases d
 |any k nl its=>
  intro vars h r d;rw[Hk] at d ⊢;split at d
  ·rename_i j i f
   simp only[mV g m _ _ _ _ _ f];exact d
  ·cases d
 |regd its x args=>
  intro vars h r d;rw[Jl] at d ⊢;simp only[zH] at d ⊢;split at d
  ·cases d
  ·rename_i l
   rw[aZ l];split at d
   ·rename_i j i f
    simp only[lH g m _ _ _ _ _ f];exact d
   ·cases d
 |seq a b iha ihb=>
  intro vars h r d;rw[run_seq] at d ⊢
  cases f:run cl yl N rd a vars h with
  |none=>simp [f] at d
  |some q=>
   obtain⟨e,j,t,i⟩:=q;rw[iha _ _ _ f];simp only[f] at d
   cases e with
   |norm=>
    simp only at d ⊢
    cases hr2:run cl yl N rd b j i with
    |none=>simp [hr2] at d
    |some q=>
     rw[ihb _ _ _ hr2];simp only[hr2] at d;exact d
   |ret=>exact d
   |exit k=>exact d
 |ite x a b iha ihb=>
  intro vars h r d;rw[run_ite] at d ⊢;split at d
  ·exact iha _ _ _ d
  ·exact ihb _ _ _ d
  ·cases d
 |block id a iha=>
  intro vars h r d;rw[xN] at d ⊢
  cases f:run cl yl N rd a vars h with
  |none=>simp [f] at d
  |some q=>
   rw[iha _ _ _ f];simp only[f] at d;exact d
 |loop a iha=>
  intro vars h r d;rw[nH] at d ⊢;exact nU iha N p s _ _ _ d
 |exit n=>intro vars h r d;rw[Cd] at d ⊢;exact d
 |ret=>intro vars h r d;rw[Fv] at d ⊢;exact d
 |scope a iha=>intro vars h r d;rw[wV] at d ⊢;exact iha _ _ _ d
 |range x ps a b _ _=>
  intro vars h r d;rw[wG] at d ⊢;simp only[rQ] at d ⊢;split at d
  ·split at d
   ·rename_i o
    rw[aV o];split at d
    ·rename_i f
     simp only[g _ _ _ _ f];exact d
    ·cases d
   ·cases d
  ·cases d
 |fail=>intro vars h r d;exact d
theorem tQ {p:Nat->Option Fn}(a:Le cl cl'): ∀(dfs:Tt) (h h':H),tP p cl dfs h=some h'->tP p cl' dfs h=some h'
 | [],h,h',he=>by rw[pH] at he ⊢;exact he
 |(g,args)::r,h,h',he=>by
  rw[Ca] at he ⊢;split at he
  ·split at he
   ·rename_i c
    rw[aV c];split at he
    ·rename_i b
     simp only[a _ _ _ _ b];exact tQ a r _ _ he
    ·cases he
   ·cases he
  ·cases he
theorem Nb {p:Nat->Option Fn}(b:Le cl cl')(e:Le yl yl'){N i:Nat}(f:N<=i):Le (rN p cl yl N) (rN p cl' yl' i):=by
 intro g j h r a;simp only[rN] at a ⊢;split at a
 ·cases a
 ·rename_i m l
  split at a
  ·rename_i k
   rw[aV k];split at a
   ·rename_i d
    simp only[eY b e f _ _ _ _ d];split at a
    ·rename_i c
     simp only[tQ b _ _ _ c];exact a
    ·cases a
   ·rename_i d
    simp only[eY b e f _ _ _ _ d];split at a
    ·rename_i c
     simp only[tQ b _ _ _ c];exact a
    ·cases a
   ·cases a
  ·cases a
theorem Iu (c:Le cl cl')(e:Le yl yl'){N f:Nat}(d:N<=f):Le (oY cl yl N) (oY cl' yl' f):=by
 intro id g h r a;simp only[oY] at a ⊢;split at a
 ·split at a
  ·rename_i i
   rw[aV i];split at a
   ·rename_i j
    simp only[eY c e d _ _ _ _ j];split at a
    ·split at a
     ·rename_i iA
      rw[aV iA];split at a
      ·rename_i b
       simp only[eY c e d _ _ _ _ b];exact a
      ·cases a
     ·cases a
    ·cases a
   ·cases a
  ·cases a
 ·cases a
theorem Il (p:Nat->Option Fn){N a:Nat}(b:N<=a): ∀(f f':Nat),f<=f'->Le (iO p N f).1 (iO p a f').1/\Le (iO p N f).2 (iO p a f').2
 |0,_,_=>by rw[Hx];exact⟨λ_ _ _ _ h=>by (cases h),λ_ _ _ _ h=>by (cases h)⟩
 |f+1,0,h=>om
 |f+1,f'+1,h=>by
  obtain⟨d,c⟩:=Il p b f f' om;rw[mD,mD];exact⟨Nb d c b,Iu d c b⟩
end
end Go.Ay
