/- A region in the order of its text. -/
import Derived.Test.YtcdbmkidaecdiaaGreatAy10
namespace Go.Ay
open Go
section
variable {ops:Array Oper}
section
variable {P:Program} {cl yl:dM} {m:M} {h h':H} {w:World} {nt:Nat} {pv defs:List Nat} {vars loc:List V} {a:Act} {o:Oper} {v:V}
def Dst (nt:Nat)(pv defs:List Nat)(dst:Option Tmp)(d:D)(defs':List Nat):Prop:=
 match dst with
 |none=>d= .n/\defs'=defs
 |some t=>t<nt/\match idx t pv with
  |some k=>d= .v k/\defs'=defs
  |none=>d= .l/\defs'=t::defs
theorem St.put (s:St m nt pv defs vars loc a){dst:Option Tmp}{d:D}{b:List Nat}(c:Dst nt pv defs dst d b){x:Value}(e:VR m v x):
  St m nt pv b (lI d vars loc v).1 (lI d vars loc v).2 (a.put dst x):=by
 cases dst with
 |none=>obtain⟨rfl,rfl⟩:=c;exact s
 |some t=>
  obtain⟨f,c⟩:=c;simp only[Act.put]
  cases hk:idx t pv with
  |some k=>
   simp only[hk] at c;obtain⟨rfl,rfl⟩:=c;exact⟨s.vars.set hk e,s.loc.aiD hk x⟩
  |none=>
   simp only[hk] at c;obtain⟨rfl,rfl⟩:=c;exact⟨s.vars.afY hk x,s.loc.push (nt:=nt) hk (by rw[s.vars.size];exact f) e⟩
theorem St.mono {b:M}(e:Ext m b)(s:St m nt pv defs vars loc a):St b nt pv defs vars loc a:=⟨s.vars.mono e,s.loc.mono e⟩
theorem Lc {it:It}{c:List Nat}(l:vU P nt pv defs ops o=some (it,c)):
  jG P pv defs o=some it.a/\Dst nt pv defs o.dst it.d c/\
  (match o.guard with
   |none=>it.g=none
   |some (j,b)=> ∃t x,(ops[j]?).bind (·.dst)=some t/\fL pv defs (.tmp t)=some x/\it.g=some (x,b)):=by
 unfold vU at l
 split at l
 ·rename_i n g d p f e
  cases l
  refine⟨p,?_,?_⟩
  ·cases hdst:o.dst with
   |none=>rw[hdst] at e;cases e;exact⟨rfl,rfl⟩
   |some t=>
    rw[hdst] at e;simp only[aeG] at e;split at e
    ·rename_i i
     refine⟨i,?_⟩
     cases hk:idx t pv with
     |some k=>simp only[hk] at e;cases e;exact⟨rfl,rfl⟩
     |none=>simp only[hk] at e;cases e;exact⟨rfl,rfl⟩
    ·cases e
  ·cases ho:o.guard with
   |none=>rw[ho] at f;cases f;rfl
   |some jb=>
    obtain⟨j,b⟩:=jb;rw[ho] at f;simp only[aeO] at f
    cases i:(ops[j]?).bind (·.dst) with
    |none=>simp [i] at f
    |some t=>
     simp only[i,lT] at f;obtain⟨x,q,rfl⟩:=f;exact⟨t,x,i,q,rfl⟩
 ·cases l
theorem Gt (s:St m nt pv defs vars loc a){g:Option (X×Bool)}{b:Bool}(f:(match o.guard with
   |none=>g=none
   |some (j,b)=> ∃t x,(ops[j]?).bind (·.dst)=some t/\fL pv defs (.tmp t)=some x/\g=some (x,b))) (e:fU vars loc g=some b):
  Region.wanted o (yielded ops a.tmps)=b:=by
 unfold Region.wanted
 cases ho:o.guard with
 |none=>simp only[ho] at f;subst f;simp only[fU] at e;cases e;rfl
 |some jb=>
  obtain⟨j,l⟩:=jb;simp only[ho] at f;obtain⟨t,x,p,n,rfl⟩:=f;have d:=aJ s n;simp only[fU] at e;simp only[yielded,p,Option.bind_some];have k:a.eval (.tmp t)=a.tmps.getD t undef:=rfl;rw[k] at d;split at e
  ·rename_i c i
   rw[i] at d;have d:a.tmps.getD t undef= .bool c:=d;cases e
   cases hq:a.tmps[t]? with
   |none=>simp [OQ,hq,undef] at d
   |some y=>
    simp [OQ,hq] at d;subst d;simp
  ·rename_i i
   rw[i] at d;obtain⟨xs,d,_⟩:=d;cases e
   cases hq:a.tmps[t]? with
   |none=>simp
   |some y=>
    simp [OQ,hq] at d;subst d;simp
  ·cases e
theorem TQ (L:Cv P cl)(N:Al P yl){r:Option Nat}{Q:Exit->Act->World->Prop}(z:List Nat): ∀(l:List Nat) (defs:List Nat) (its:List It) (vars loc:List V) (h:H) (vars':List V) (h':H),
  Cf P nt pv ops l defs=some its->uZ cl yl its vars loc h=some (vars',h')->
  ∀(m:M) (w:World) (a:Act),St m nt pv defs vars loc a->HR P m h w->Qx m h.next->
  (∀a' w' m',jA m' nt pv vars' a'.tmps->a'.defers=a.defers->iC P m h w m' h' w'->wpOpsIn (Wf r) 0 P ops Q z a' w')->
  wpOpsIn (Wf r) 0 P ops Q (l++z) a w:=by
 intro l
 induction l with
 |nil=>
  intro defs its vars loc h vars' h' f e m w a s u B y;simp only[Cf] at f;cases f;have:vars=vars'/\h=h':=by rw[Ka] at e;simpa using e
  obtain⟨rfl,rfl⟩:=this;exact y a w m s.vars rfl (iC.Ts u)
 |cons i l ih=>
  intro defs its vars loc h vars' h' f e m w a s u B y;simp only[Cf] at f
  cases ho:ops[i]? with
  |none=>simp [ho] at f
  |some o=>
   simp only[ho] at f
   cases hit:vU P nt pv defs ops o with
   |none=>simp [hit] at f
   |some q=>
    obtain⟨it,k⟩:=q;simp only[hit,lT] at f;obtain⟨j,A,rfl⟩:=f;obtain⟨R,K,W⟩:=Lc hit;rw[mQ] at e
    have next: ∀(v:V) (n:H),uZ cl yl j (lI it.d vars loc v).1 (lI it.d vars loc v).2 n=some (vars',h')-> ∀x p t,VR t v x->iC P m h w t n p->wpOpsIn (Wf r) 0 P ops Q (l++z) (a.put o.dst x) p:=by
     intro v n F x p t O c;refine ih k j _ _ n vars' h' A F t p _ ((s.mono c.ext).put K O) c.rel (c.low B) (λa' w' m' G J U=>y a' w' m' G ?_ (c.trans U));rw[J];cases o.dst<;>rfl
    simp only[List.cons_append,wpOpsIn,ho]
    cases hw:fU vars loc it.g with
    |none=>simp [hw] at e
    |some b=>
     rw[hw] at e;rw[Gt s W hw]
     cases b with
     |true=>
      simp only[if_true];simp only at e
      cases hact:kY cl yl vars loc h it.a with
      |none=>simp [hact] at e
      |some q=>
       obtain⟨v,n⟩:=q;simp only[hact] at e;exact SE L N R s u B hact (next v n e)
     |false=>
      simp only[Bool.false_eq_true,if_false];exact⟨λ_ _=>trivial,next .undef h e undef w m (VR.undef m) (iC.Ts u)⟩
end
end
end Go.Ay
