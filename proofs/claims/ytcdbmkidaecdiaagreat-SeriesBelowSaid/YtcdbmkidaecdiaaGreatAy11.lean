/- A region in the order of its text. -/
import Derived.Test.YtcdbmkidaecdiaaGreatAy10
namespace Go.Ay
open Go
section
variable {ops:Array Oper}
section
variable {P:Program} {cl yl:lQ} {m:M} {h h':H} {w:World} {nt:Nat} {pv defs:List Nat} {vars loc:List V} {a:Act} {o:Oper} {v:V}
def Dst (nt:Nat)(pv defs:List Nat)(dst:Option Tmp)(d:D)(defs':List Nat):Prop:=
 match dst with
 |none=>d= .n/\defs'=defs
 |some t=>t<nt/\match idx t pv with
  |some k=>d= .v k/\defs'=defs
  |none=>d= .l/\defs'=t::defs
theorem St.put (s:St m nt pv defs vars loc a){f:Option Tmp}{d:D}{b:List Nat}(c:Dst nt pv defs f d b){x:Value}(i:VR m v x):
  St m nt pv b (jG d vars loc v).1 (jG d vars loc v).2 (a.put f x):=by
 cases f with
 |none=>obtain⟨rfl,rfl⟩:=c;exact s
 |some t=>
  obtain⟨j,c⟩:=c;simp only[Act.put]
  cases hk:idx t pv with
  |some k=>
   simp only[hk] at c;obtain⟨rfl,rfl⟩:=c;exact⟨s.vars.set hk i,s.loc.agW hk x⟩
  |none=>
   simp only[hk] at c;obtain⟨rfl,rfl⟩:=c;exact⟨s.vars.afY hk x,s.loc.push (nt:=nt) hk (by rw[s.vars.size];exact j) i⟩
theorem St.mono {b:M}(e:Ext m b)(s:St m nt pv defs vars loc a):St b nt pv defs vars loc a:=⟨s.vars.mono e,s.loc.mono e⟩
theorem Lo {it:It}{c:List Nat}(n:xB P nt pv defs ops o=some (it,c)):
  pI P pv defs o=some it.a/\Dst nt pv defs o.dst it.d c/\
  (match o.guard with
   |none=>it.g=none
   |some (j,b)=> ∃t x,(ops[j]?).bind (·.dst)=some t/\iM pv defs (.tmp t)=some x/\it.g=some (x,b)):=by
 unfold xB at n
 split at n
 ·rename_i r g d q i f
  cases n
  refine⟨q,?_,?_⟩
  ·cases hdst:o.dst with
   |none=>rw[hdst] at f;cases f;exact⟨rfl,rfl⟩
   |some t=>
    rw[hdst] at f;simp only[aeT] at f;split at f
    ·rename_i l
     refine⟨l,?_⟩
     cases hk:idx t pv with
     |some k=>simp only[hk] at f;cases f;exact⟨rfl,rfl⟩
     |none=>simp only[hk] at f;cases f;exact⟨rfl,rfl⟩
    ·cases f
  ·cases ho:o.guard with
   |none=>rw[ho] at i;cases i;rfl
   |some jb=>
    obtain⟨j,b⟩:=jb;rw[ho] at i;simp only[aeN] at i
    cases l:(ops[j]?).bind (·.dst) with
    |none=>simp [l] at i
    |some t=>
     simp only[l,oU] at i;obtain⟨x,p,rfl⟩:=i;exact⟨t,x,l,p,rfl⟩
 ·cases n
theorem Gy (s:St m nt pv defs vars loc a){g:Option (X×Bool)}{b:Bool}(i:(match o.guard with
   |none=>g=none
   |some (j,b)=> ∃t x,(ops[j]?).bind (·.dst)=some t/\iM pv defs (.tmp t)=some x/\g=some (x,b))) (f:iU vars loc g=some b):
  Region.wanted o (yielded ops a.tmps)=b:=by
 unfold Region.wanted
 cases ho:o.guard with
 |none=>simp only[ho] at i;subst i;simp only[iU] at f;cases f;rfl
 |some jb=>
  obtain⟨j,n⟩:=jb;simp only[ho] at i;obtain⟨t,x,q,p,rfl⟩:=i;have d:=aQ s p;simp only[iU] at f;simp only[yielded,q,Option.bind_some];have k:a.eval (.tmp t)=a.tmps.getD t undef:=rfl;rw[k] at d;split at f
  ·rename_i c l
   rw[l] at d;have d:a.tmps.getD t undef= .bool c:=d;cases f
   cases hq:a.tmps[t]? with
   |none=>simp [OV,hq,undef] at d
   |some y=>
    simp [OV,hq] at d;subst d;simp
  ·rename_i l
   rw[l] at d;obtain⟨xs,d,_⟩:=d;cases f
   cases hq:a.tmps[t]? with
   |none=>simp
   |some y=>
    simp [OV,hq] at d;subst d;simp
  ·cases f
theorem afF (R:Hz P cl)(K:Bp P yl){r:Option Nat}{Q:Exit->Act->World->Prop}(F:List Nat): ∀(l:List Nat) (defs:List Nat) (its:List It) (vars loc:List V) (h:H) (vars':List V) (h':H),
  Hq P nt pv ops l defs=some its->Ar cl yl its vars loc h=some (vars',h')->
  ∀(m:M) (w:World) (a:Act),St m nt pv defs vars loc a->HR P m h w->Vz m h.next->
  (∀a' w' m',jW m' nt pv vars' a'.tmps->a'.defers=a.defers->jR P m h w m' h' w'->wpOpsIn (Wf r) 0 P ops Q F a' w')->
  wpOpsIn (Wf r) 0 P ops Q (l++F) a w:=by
 intro l
 induction l with
 |nil=>
  intro defs its vars loc h vars' h' j f m w a s t G z;simp only[Hq] at j;cases j;have:vars=vars'/\h=h':=by simpa [Ar] using f
  obtain⟨rfl,rfl⟩:=this;exact z a w m s.vars rfl (jR.Sa t)
 |cons i l ih=>
  intro defs its vars loc h vars' h' j f m w a s t G z;simp only[Hq] at j
  cases ho:ops[i]? with
  |none=>simp [ho] at j
  |some o=>
   simp only[ho] at j
   cases hit:xB P nt pv defs ops o with
   |none=>simp [hit] at j
   |some q=>
    obtain⟨it,n⟩:=q;simp only[hit,oU] at j;obtain⟨k,A,rfl⟩:=j;obtain⟨N,O,U⟩:=Lo hit;rw[Ar] at f
    have next: ∀(v:V) (p:H),Ar cl yl k (jG it.d vars loc v).1 (jG it.d vars loc v).2 p=some (vars',h')-> ∀x y u,VR u v x->jR P m h w u p y->wpOpsIn (Wf r) 0 P ops Q (l++F) (a.put o.dst x) y:=by
     intro v p B x y u J c;refine ih n k _ _ p vars' h' A B u y _ ((s.mono c.ext).put O J) c.rel (c.low G) (λa' w' m' Y L W=>z a' w' m' Y ?_ (c.trans W));rw[L];cases o.dst<;>rfl
    simp only[List.cons_append,wpOpsIn,ho]
    cases hw:iU vars loc it.g with
    |none=>simp [hw] at f
    |some b=>
     rw[hw] at f;rw[Gy s U hw]
     cases b with
     |true=>
      simp only[if_true];simp only at f
      cases hact:uN cl yl vars loc h it.a with
      |none=>simp [hact] at f
      |some q=>
       obtain⟨v,p⟩:=q;simp only[hact] at f;exact XW R K N s t G hact (next v p f)
     |false=>
      simp only[Bool.false_eq_true,if_false];exact⟨λ_ _=>trivial,next .undef h f undef w m (VR.undef m) (jR.Sa t)⟩
end
end
end Go.Ay
