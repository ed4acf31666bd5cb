/- A region in the order of its text. -/
import Derived.Test.YtcdbmkidaecdiaaGreatAy10
namespace Go.Ay
open Go
section
variable {ops:Array Oper}
section
variable {P:Program} {cl yl:lQ} {m:M} {h h':H} {w:World} {nt:Nat} {pv defs:List Nat} {vars loc:List V} {a:Act} {o:Oper} {v:V}
def Dst (nt:Nat)(pv defs:List Nat)(dst:Option Tmp)(d:D)(defs':List Nat):Prop:=
 match dst with
 |none=>d= .n/\defs'=defs
 |some t=>t<nt/\match idx t pv with
  |some k=>d= .v k/\defs'=defs
  |none=>d= .l/\defs'=t::defs
theorem St.put (s:St m nt pv defs vars loc a){c:Option Tmp}{d:D}{b:List Nat}(e:Dst nt pv defs c d b){x:Value}(f:VR m v x):
  St m nt pv b (jG d vars loc v).1 (jG d vars loc v).2 (a.put c x):=by
 cases c with
 |none=>obtain⟨rfl,rfl⟩:=e;exact s
 |some t=>
  obtain⟨g,e⟩:=e;simp only[Act.put]
  cases hk:idx t pv with
  |some k=>
   simp only[hk] at e;obtain⟨rfl,rfl⟩:=e;exact⟨s.vars.set hk f,s.loc.agW hk x⟩
  |none=>
   simp only[hk] at e;obtain⟨rfl,rfl⟩:=e;exact⟨s.vars.afY hk x,s.loc.push (nt:=nt) hk (by rw[s.vars.size];exact g) f⟩
theorem St.mono {b:M}(e:Ext m b)(s:St m nt pv defs vars loc a):St b nt pv defs vars loc a:=⟨s.vars.mono e,s.loc.mono e⟩
theorem Lo {it:It}{c:List Nat}(l:xB P nt pv defs ops o=some (it,c)):
  pI P pv defs o=some it.a/\Dst nt pv defs o.dst it.d c/\
  (match o.guard with
   |none=>it.g=none
   |some (j,b)=> ∃t x,(ops[j]?).bind (·.dst)=some t/\iM pv defs (.tmp t)=some x/\it.g=some (x,b)):=by
 unfold xB at l
 split at l
 ·rename_i p g d n f e
  cases l
  refine⟨n,?_,?_⟩
  ·cases hdst:o.dst with
   |none=>rw[hdst] at e;cases e;exact⟨rfl,rfl⟩
   |some t=>
    rw[hdst] at e;simp only[aeT] at e;split at e
    ·rename_i i
     refine⟨i,?_⟩
     cases hk:idx t pv with
     |some k=>simp only[hk] at e;cases e;exact⟨rfl,rfl⟩
     |none=>simp only[hk] at e;cases e;exact⟨rfl,rfl⟩
    ·cases e
  ·cases ho:o.guard with
   |none=>rw[ho] at f;cases f;rfl
   |some jb=>
    obtain⟨j,b⟩:=jb;rw[ho] at f;simp only[aeN] at f
    cases i:(ops[j]?).bind (·.dst) with
    |none=>simp [i] at f
    |some t=>
     simp only[i,oU] at f;obtain⟨x,q,rfl⟩:=f;exact⟨t,x,i,q,rfl⟩
 ·cases l
theorem Gy (s:St m nt pv defs vars loc a){g:Option (X×Bool)}{b:Bool}(f:(match o.guard with
   |none=>g=none
   |some (j,b)=> ∃t x,(ops[j]?).bind (·.dst)=some t/\iM pv defs (.tmp t)=some x/\g=some (x,b))) (e:iU vars loc g=some b):
  Region.wanted o (yielded ops a.tmps)=b:=by
 unfold Region.wanted
 cases ho:o.guard with
 |none=>simp only[ho] at f;subst f;simp only[iU] at e;cases e;rfl
 |some jb=>
  obtain⟨j,l⟩:=jb;simp only[ho] at f;obtain⟨t,x,p,n,rfl⟩:=f;have d:=aQ s n;simp only[iU] at e;simp only[yielded,p,Option.bind_some];have k:a.eval (.tmp t)=a.tmps.getD t undef:=rfl;rw[k] at d;split at e
  ·rename_i c i
   rw[i] at d;have d:a.tmps.getD t undef= .bool c:=d;cases e
   cases hq:a.tmps[t]? with
   |none=>simp [OV,hq,undef] at d
   |some y=>
    simp [OV,hq] at d;subst d;simp
  ·rename_i i
   rw[i] at d;obtain⟨xs,d,_⟩:=d;cases e
   cases hq:a.tmps[t]? with
   |none=>simp
   |some y=>
    simp [OV,hq] at d;subst d;simp
  ·cases e
theorem afF (K:Hz P cl)(J:Bp P yl){r:Option Nat}{Q:Exit->Act->World->Prop}(y:List Nat): ∀(l:List Nat) (defs:List Nat) (its:List It) (vars loc:List V) (h:H) (vars':List V) (h':H),
  Hq P nt pv ops l defs=some its->Ar cl yl its vars loc h=some (vars',h')->
  ∀(m:M) (w:World) (a:Act),St m nt pv defs vars loc a->HR P m h w->Vz m h.next->
  (∀a' w' m',jW m' nt pv vars' a'.tmps->a'.defers=a.defers->jR P m h w m' h' w'->wpOpsIn (Wf r) 0 P ops Q y a' w')->
  wpOpsIn (Wf r) 0 P ops Q (l++y) a w:=by
 intro l
 induction l with
 |nil=>
  intro defs its vars loc h vars' h' f e m w a s p B z;simp only[Hq] at f;cases f;have:vars=vars'/\h=h':=by simpa [Ar] using e
  obtain⟨rfl,rfl⟩:=this;exact z a w m s.vars rfl (jR.Sa p)
 |cons i l ih=>
  intro defs its vars loc h vars' h' f e m w a s p B z;simp only[Hq] at f
  cases ho:ops[i]? with
  |none=>simp [ho] at f
  |some o=>
   simp only[ho] at f
   cases hit:xB P nt pv defs ops o with
   |none=>simp [hit] at f
   |some q=>
    obtain⟨it,k⟩:=q;simp only[hit,oU] at f;obtain⟨j,A,rfl⟩:=f;obtain⟨W,R,G⟩:=Lo hit;rw[Ar] at e
    have next: ∀(v:V) (n:H),Ar cl yl j (jG it.d vars loc v).1 (jG it.d vars loc v).2 n=some (vars',h')-> ∀x u t,VR t v x->jR P m h w t n u->wpOpsIn (Wf r) 0 P ops Q (l++y) (a.put o.dst x) u:=by
     intro v n F x u t N c;refine ih k j _ _ n vars' h' A F t u _ ((s.mono c.ext).put R N) c.rel (c.low B) (λa' w' m' O U L=>z a' w' m' O ?_ (c.trans L));rw[U];cases o.dst<;>rfl
    simp only[List.cons_append,wpOpsIn,ho]
    cases hw:iU vars loc it.g with
    |none=>simp [hw] at e
    |some b=>
     rw[hw] at e;rw[Gy s G hw]
     cases b with
     |true=>
      simp only[if_true];simp only at e
      cases hact:uN cl yl vars loc h it.a with
      |none=>simp [hact] at e
      |some q=>
       obtain⟨v,n⟩:=q;simp only[hact] at e;exact XW K J W s p B hact (next v n e)
     |false=>
      simp only[Bool.false_eq_true,if_false];exact⟨λ_ _=>trivial,next .undef h e undef w m (VR.undef m) (jR.Sa p)⟩
end
end
end Go.Ay
