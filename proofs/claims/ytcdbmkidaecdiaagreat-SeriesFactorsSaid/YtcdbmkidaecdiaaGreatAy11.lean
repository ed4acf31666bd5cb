/- A region in the order of its text. -/
import Derived.Test.YtcdbmkidaecdiaaGreatAy10
namespace Go.Ay
open Go
section
variable {ops:Array Oper}
section
variable {P:Program} {cl yl:dP} {m:M} {h h':H} {w:World} {nt:Nat} {pv defs:List Nat} {vars loc:List V} {a:Act} {o:Oper} {v:V}
def Dst (nt:Nat)(pv defs:List Nat)(dst:Option Tmp)(d:D)(defs':List Nat):Prop:=
 match dst with
 |none=>d= .n/\defs'=defs
 |some t=>t<nt/\match idx t pv with
  |some k=>d= .v k/\defs'=defs
  |none=>d= .l/\defs'=t::defs
theorem St.put (s:St m nt pv defs vars loc a){dst:Option Tmp}{d:D}{b:List Nat}(c:Dst nt pv defs dst d b){x:Value}(f:VR m v x):
  St m nt pv b (lX d vars loc v).1 (lX d vars loc v).2 (a.put dst x):=by
 cases dst with
 |none=>obtain⟨rfl,rfl⟩:=c;exact s
 |some t=>
  obtain⟨i,c⟩:=c;simp only[Act.put]
  cases hk:idx t pv with
  |some k=>
   simp only[hk] at c;obtain⟨rfl,rfl⟩:=c;exact⟨s.vars.set hk f,s.loc.afF hk x⟩
  |none=>
   simp only[hk] at c;obtain⟨rfl,rfl⟩:=c;exact⟨s.vars.adS hk x,s.loc.push (nt:=nt) hk (by rw[s.vars.size];exact i) f⟩
theorem St.mono {b:M}(e:Ext m b)(s:St m nt pv defs vars loc a):St b nt pv defs vars loc a:=⟨s.vars.mono e,s.loc.mono e⟩
theorem Jx {it:It}{c:List Nat}(n:vD P nt pv defs ops o=some (it,c)):
  jO P pv defs o=some it.a/\Dst nt pv defs o.dst it.d c/\
  (match o.guard with
   |none=>it.g=none
   |some (j,b)=> ∃t x,(ops[j]?).bind (·.dst)=some t/\fU pv defs (.tmp t)=some x/\it.g=some (x,b)):=by
 unfold vD at n
 split at n
 ·rename_i r g d p i f
  cases n
  refine⟨p,?_,?_⟩
  ·cases hdst:o.dst with
   |none=>rw[hdst] at f;cases f;exact⟨rfl,rfl⟩
   |some t=>
    rw[hdst] at f;simp only[adB] at f;split at f
    ·rename_i l
     refine⟨l,?_⟩
     cases hk:idx t pv with
     |some k=>simp only[hk] at f;cases f;exact⟨rfl,rfl⟩
     |none=>simp only[hk] at f;cases f;exact⟨rfl,rfl⟩
    ·cases f
  ·cases ho:o.guard with
   |none=>rw[ho] at i;cases i;rfl
   |some jb=>
    obtain⟨j,b⟩:=jb;rw[ho] at i;simp only[adA] at i
    cases l:(ops[j]?).bind (·.dst) with
    |none=>simp [l] at i
    |some t=>
     simp only[l,mJ] at i;obtain⟨x,q,rfl⟩:=i;exact⟨t,x,l,q,rfl⟩
 ·cases n
theorem Hp (s:St m nt pv defs vars loc a){g:Option (X×Bool)}{b:Bool}(i:(match o.guard with
   |none=>g=none
   |some (j,b)=> ∃t x,(ops[j]?).bind (·.dst)=some t/\fU pv defs (.tmp t)=some x/\g=some (x,b))) (f:vQ vars loc g=some b):
  Region.wanted o (yielded ops a.tmps)=b:=by
 unfold Region.wanted
 cases ho:o.guard with
 |none=>simp only[ho] at i;subst i;simp only[vQ] at f;cases f;rfl
 |some jb=>
  obtain⟨j,n⟩:=jb;simp only[ho] at i;obtain⟨t,x,q,p,rfl⟩:=i;have d:=aJ s p;simp only[vQ] at f;simp only[yielded,q,Option.bind_some];have k:a.eval (.tmp t)=a.tmps.getD t undef:=rfl;rw[k] at d;split at f
  ·rename_i c l
   rw[l] at d;have d:a.tmps.getD t undef= .bool c:=d;cases f
   cases hq:a.tmps[t]? with
   |none=>simp [ND,hq,undef] at d
   |some y=>
    simp [ND,hq] at d;subst d;simp
  ·rename_i l
   rw[l] at d;obtain⟨xs,d,_⟩:=d;cases f
   cases hq:a.tmps[t]? with
   |none=>simp
   |some y=>
    simp [ND,hq] at d;subst d;simp
  ·cases f
theorem RT (O:Dd P cl)(Y:Ao P yl){r:Option Nat}{Q:Exit->Act->World->Prop}(z:List Nat): ∀(l:List Nat) (defs:List Nat) (its:List It) (vars loc:List V) (h:H) (vars':List V) (h':H),
  Ci P nt pv ops l defs=some its->vA cl yl its vars loc h=some (vars',h')->
  ∀(m:M) (w:World) (a:Act),St m nt pv defs vars loc a->HR P m h w->Qk m h.next->
  (∀a' w' m',jM m' nt pv vars' a'.tmps->a'.defers=a.defers->iO P m h w m' h' w'->wpOpsIn (Wf r) 0 P ops Q z a' w')->
  wpOpsIn (Wf r) 0 P ops Q (l++z) a w:=by
 intro l
 induction l with
 |nil=>
  intro defs its vars loc h vars' h' j f m w a s y A G;simp only[Ci] at j;cases j;have:vars=vars'/\h=h':=by rw[Jb] at f;simpa using f
  obtain⟨rfl,rfl⟩:=this;exact G a w m s.vars rfl (iO.Rn y)
 |cons i l ih=>
  intro defs its vars loc h vars' h' j f m w a s y A G;simp only[Ci] at j
  cases ho:ops[i]? with
  |none=>simp [ho] at j
  |some o=>
   simp only[ho] at j
   cases hit:vD P nt pv defs ops o with
   |none=>simp [hit] at j
   |some q=>
    obtain⟨it,n⟩:=q;simp only[hit,mJ] at j;obtain⟨k,F,rfl⟩:=j;obtain⟨W,J,U⟩:=Jx hit;rw[nL] at f
    have next: ∀(v:V) (p:H),vA cl yl k (lX it.d vars loc v).1 (lX it.d vars loc v).2 p=some (vars',h')-> ∀x t u,VR u v x->iO P m h w u p t->wpOpsIn (Wf r) 0 P ops Q (l++z) (a.put o.dst x) t:=by
     intro v p B x t u N c;refine ih n k _ _ p vars' h' F B u t _ ((s.mono c.ext).put J N) c.rel (c.low A) (λa' w' m' K R L=>G a' w' m' K ?_ (c.trans L));rw[R];cases o.dst<;>rfl
    simp only[List.cons_append,wpOpsIn,ho]
    cases hw:vQ vars loc it.g with
    |none=>simp [hw] at f
    |some b=>
     rw[hw] at f;rw[Hp s U hw]
     cases b with
     |true=>
      simp only[if_true];simp only at f
      cases hact:Lh cl yl vars loc h it.a with
      |none=>simp [hact] at f
      |some q=>
       obtain⟨v,p⟩:=q;simp only[hact] at f;exact PQ O Y W s y A hact (next v p f)
     |false=>
      simp only[Bool.false_eq_true,if_false];exact⟨λ_ _=>trivial,next .undef h f undef w m (VR.undef m) (iO.Rn y)⟩
end
end
end Go.Ay
