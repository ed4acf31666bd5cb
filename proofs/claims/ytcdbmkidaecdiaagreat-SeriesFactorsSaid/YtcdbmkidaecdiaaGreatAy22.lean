/- ZF fuel, the same answer. -/
import Derived.Test.YtcdbmkidaecdiaaGreatAy1b
namespace Go.Ay
def Le (a b:dP):Prop:= ∀g args h r,a g args h=some r->b g args h=some r
theorem Le.refl (a:dP):Le a a:=λ_ _ _ _ h=>h
theorem Le.trans {a b c:dP}(h:Le a b)(k:Le b c):Le a c:=λ_ _ _ _ x=>k _ _ _ _ (h _ _ _ _ x)
section
variable {cl cl' yl yl':dP}
theorem QB (f:Le cl cl')(l:Le yl yl'){c d:List V}{h:H}{a:dR}{r:V×H}(b:Lh cl yl c d h a=some r):Lh cl' yl' c d h a=some r:=by
 cases a with
 |op i=>rw[sX] at b ⊢;exact b
 |call g args=>rw[tS] at b ⊢;exact f _ _ _ _ b
 |callv x args=>
  rw[rF] at b ⊢;split at b
  ·exact f _ _ _ _ b
  ·exact l _ _ _ _ b
  ·cases b
 |calli g t x args=>
  rw[rH] at b ⊢;split at b
  ·rename_i u v p
   cases hq:Nat.beq u t with
   |false=>rw[hq] at b;cases b
   |true=>rw[hq] at b;exact f _ _ _ _ b
  ·cases b
 |callp g args=>
  rw[mB] at b ⊢;obtain⟨v,o⟩:=r;obtain⟨rfl,m,j,n,e⟩:=yL b;have k:=f _ _ _ _ e;unfold Kg;simp only[m,k,j,cond_true]
theorem qK (b:Le cl cl')(a:Le yl yl'): ∀(its:List It) (vars loc:List V) (h:H) (r:List V×H),vA cl yl its vars loc h=some r->vA cl' yl' its vars loc h=some r
 | [],vars,loc,h,r,he=>by rw[Jb] at he ⊢;exact he
 |it::its,vars,loc,h,r,he=>by
  rw[nL] at he ⊢;split at he
  ·split at he
   ·rename_i d _ v f c
    simp only[QB b a c];exact qK b a its _ _ _ _ he
   ·cases he
  ·exact qK b a its _ _ _ _ he
  ·cases he
theorem tG (k:Le cl cl')(j:Le yl yl'){base:Nat}: ∀(xs:List AI) (vars:List V) (log:Log) (h:H) (r:List V×H),wZ cl yl base xs vars log h=some r->wZ cl' yl' base xs vars log h=some r
 | [],vars,log,h,r,he=>by rw[Ik] at he ⊢;exact he
 |x::xs,vars,log,h,r,he=>by
  rw[jK] at he ⊢;split at he
  ·split at he
   ·rename_i m _ v l c
    have f:(if x.al then Oq vars h (base+x.i) x.it.a else Lh cl' yl' vars [] h x.it.a)=some (v,l):=by
     split at c
     ·rename_i b;rw[bF b];exact c
     ·rename_i b;rw[bI b];exact QB k j c
    simp only[f];split at he
    ·rename_i d
     rw[bF d];exact tG k j xs _ _ _ _ he
    ·cases he
   ·cases he
  ·split at he
   ·rename_i d
    rw[bF d];exact tG k j xs _ _ _ _ he
   ·cases he
  ·cases he
theorem yG {s b:List V->H->Zd}(a: ∀vars h r,s vars h=some r->b vars h=some r): ∀(n n':Nat),n<=n'-> ∀vars h r,Bg s n vars h=some r->Bg b n' vars h=some r
 |0,_,_,vars,h,r,he=>by rw[Nk] at he;cases he
 |n+1,0,hn,_,_,_,_=>om
 |n+1,n'+1,hn,vars,h,r,he=>by
  rw[tD] at he ⊢
  cases hr:s vars h with
  |none=>simp [hr] at he
  |some q=>
   obtain⟨e,c,f,d⟩:=q;rw[a _ _ _ hr];simp only[hr] at he
   cases e with
   |norm=>
    simp only at he ⊢
    cases hr2:Bg s n c d with
    |none=>simp [hr2] at he
    |some q=>
     rw[yG a n n' om _ _ _ hr2];simp only[hr2] at he;exact he
   |ret=>exact he
   |exit k=>exact he
theorem iU (l:Le cl cl')(p:Le yl yl'){N s:Nat}(t:N<=s){rd:Option Nat}: ∀(c:C) (vars:List V) (h:H) (r:E×List V×MZ×H),run cl yl N rd c vars h=some r->run cl' yl' s rd c vars h=some r:=by
 intro c
 induction c with
 |skip=>intro vars h r d;rw[Ez] at d ⊢;exact d
 |reg its=>
  intro vars h r d;rw[Va] at d ⊢;split at d
  ·rename_i i j f
   simp only[qK l p _ _ _ _ _ f];exact d
  ·cases d
 |any k nl its=>
  intro vars h r d;rw[Ur] at d ⊢;split at d
  ·rename_i i j f
   simp only[tG l p _ _ _ _ _ f];exact d
  ·cases d
 |regd its x args=>
  intro vars h r d;rw[Xd] at d ⊢;simp only[Lc] at d ⊢;split at d
  ·cases d
  ·rename_i m
   rw[bI m];split at d
   ·rename_i i j f
    simp only[qK l p _ _ _ _ _ f];exact d
   ·cases d
 |seq a b iha ihb=>
  intro vars h r d;rw[run_seq] at d ⊢
  cases f:run cl yl N rd a vars h with
  |none=>simp [f] at d
  |some q=>
   obtain⟨e,i,u,j⟩:=q;rw[iha _ _ _ f];simp only[f] at d
   cases e with
   |norm=>
    simp only at d ⊢
    cases hr2:run cl yl N rd b i j with
    |none=>simp [hr2] at d
    |some q=>
     rw[ihb _ _ _ hr2];simp only[hr2] at d;exact d
   |ret=>exact d
   |exit k=>exact d
 |ite x a b iha ihb=>
  intro vars h r d;rw[run_ite] at d ⊢;split at d
  ·exact iha _ _ _ d
  ·exact ihb _ _ _ d
  ·cases d
 |block id a iha=>
  intro vars h r d;rw[Iq] at d ⊢
  cases f:run cl yl N rd a vars h with
  |none=>simp [f] at d
  |some q=>
   rw[iha _ _ _ f];simp only[f] at d;exact d
 |loop a iha=>
  intro vars h r d;rw[Nc] at d ⊢;exact yG iha N s t _ _ _ d
 |exit n=>intro vars h r d;rw[Og] at d ⊢;exact d
 |ret=>intro vars h r d;rw[Vg] at d ⊢;exact d
 |scope a iha=>intro vars h r d;rw[Ja] at d ⊢;exact iha _ _ _ d
 |range x ps a b _ _=>
  intro vars h r d;rw[Jd] at d ⊢;simp only[zS] at d ⊢;split at d
  ·split at d
   ·rename_i o
    rw[bF o];split at d
    ·rename_i f
     simp only[l _ _ _ _ f];exact d
    ·cases d
   ·cases d
  ·cases d
 |fail=>intro vars h r d;exact d
theorem Ex {p:Nat->Option Fn}(a:Le cl cl'): ∀(dfs:MZ) (h h':H),Dt p cl dfs h=some h'->Dt p cl' dfs h=some h'
 | [],h,h',he=>by rw[xF] at he ⊢;exact he
 |(g,args)::r,h,h',he=>by
  rw[Pn] at he ⊢;split at he
  ·split at he
   ·rename_i c
    rw[bF c];split at he
    ·rename_i b
     simp only[a _ _ _ _ b];exact Ex a r _ _ he
    ·cases he
   ·cases he
  ·cases he
theorem CS {p:Nat->Option Fn}(b:Le cl cl')(f:Le yl yl'){N k:Nat}(i:N<=k):Le (Af p cl yl N) (Af p cl' yl' k):=by
 intro g j h r a;simp only[Af] at a ⊢;split at a
 ·cases a
 ·rename_i m n
  split at a
  ·rename_i l
   rw[bF l];split at a
   ·rename_i d
    simp only[iU b f i _ _ _ _ d];split at a
    ·rename_i c
     simp only[Ex b _ _ _ c];exact a
    ·cases a
   ·rename_i d
    simp only[iU b f i _ _ _ _ d];split at a
    ·rename_i c
     simp only[Ex b _ _ _ c];exact a
    ·cases a
   ·cases a
  ·cases a
theorem Yw (i:Le cl cl')(c:Le yl yl'){N j:Nat}(d:N<=j):Le (vG cl yl N) (vG cl' yl' j):=by
 intro id f h r a;simp only[vG] at a ⊢;split at a
 ·split at a
  ·rename_i l
   rw[bF l];split at a
   ·rename_i k
    simp only[iU i c d _ _ _ _ k];split at a
    ·split at a
     ·rename_i iP
      rw[bF iP];split at a
      ·rename_i b
       simp only[iU i c d _ _ _ _ b];exact a
      ·cases a
     ·cases a
    ·cases a
   ·cases a
  ·cases a
 ·cases a
theorem Yl (p:Nat->Option Fn){N b:Nat}(a:N<=b): ∀(f f':Nat),f<=f'->Le (jX p N f).1 (jX p b f').1/\Le (jX p N f).2 (jX p b f').2
 |0,_,_=>by rw[AA];exact⟨λ_ _ _ _ h=>by (cases h),λ_ _ _ _ h=>by (cases h)⟩
 |f+1,0,h=>om
 |f+1,f'+1,h=>by
  obtain⟨d,c⟩:=Yl p a f f' om;rw[qU,qU];exact⟨CS d c a,Yw d c a⟩
end
end Go.Ay
