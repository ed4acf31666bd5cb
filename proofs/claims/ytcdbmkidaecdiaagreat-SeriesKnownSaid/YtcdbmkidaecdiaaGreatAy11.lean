/- A region in the order of its text. -/
import Derived.Test.YtcdbmkidaecdiaaGreatAy10
namespace Go.Ay
open Go
section
variable {ops:Array Oper}
section
variable {P:Program} {cl yl:dP} {m:M} {h h':H} {w:World} {nt:Nat} {pv defs:List Nat} {vars loc:List V} {a:Act} {o:Oper} {v:V}
def Dst (nt:Nat)(pv defs:List Nat)(dst:Option Tmp)(d:D)(defs':List Nat):Prop:=
 match dst with
 |none=>d= .n/\defs'=defs
 |some t=>t<nt/\match idx t pv with
  |some k=>d= .v k/\defs'=defs
  |none=>d= .l/\defs'=t::defs
theorem St.put (s:St m nt pv defs vars loc a){dst:Option Tmp}{d:D}{b:List Nat}(c:Dst nt pv defs dst d b){x:Value}(e:VR m v x):
  St m nt pv b (lX d vars loc v).1 (lX d vars loc v).2 (a.put dst x):=by
 cases dst with
 |none=>obtain⟨rfl,rfl⟩:=c;exact s
 |some t=>
  obtain⟨f,c⟩:=c;simp only[Act.put]
  cases hk:idx t pv with
  |some k=>
   simp only[hk] at c;obtain⟨rfl,rfl⟩:=c;exact⟨s.vars.set hk e,s.loc.afF hk x⟩
  |none=>
   simp only[hk] at c;obtain⟨rfl,rfl⟩:=c;exact⟨s.vars.adS hk x,s.loc.push (nt:=nt) hk (by rw[s.vars.size];exact f) e⟩
theorem St.mono {b:M}(e:Ext m b)(s:St m nt pv defs vars loc a):St b nt pv defs vars loc a:=⟨s.vars.mono e,s.loc.mono e⟩
theorem Jx {it:It}{c:List Nat}(l:vD P nt pv defs ops o=some (it,c)):
  jO P pv defs o=some it.a/\Dst nt pv defs o.dst it.d c/\
  (match o.guard with
   |none=>it.g=none
   |some (j,b)=> ∃t x,(ops[j]?).bind (·.dst)=some t/\fU pv defs (.tmp t)=some x/\it.g=some (x,b)):=by
 unfold vD at l
 split at l
 ·rename_i q g d p f e
  cases l
  refine⟨p,?_,?_⟩
  ·cases hdst:o.dst with
   |none=>rw[hdst] at e;cases e;exact⟨rfl,rfl⟩
   |some t=>
    rw[hdst] at e;simp only[adB] at e;split at e
    ·rename_i i
     refine⟨i,?_⟩
     cases hk:idx t pv with
     |some k=>simp only[hk] at e;cases e;exact⟨rfl,rfl⟩
     |none=>simp only[hk] at e;cases e;exact⟨rfl,rfl⟩
    ·cases e
  ·cases ho:o.guard with
   |none=>rw[ho] at f;cases f;rfl
   |some jb=>
    obtain⟨j,b⟩:=jb;rw[ho] at f;simp only[adA] at f
    cases i:(ops[j]?).bind (·.dst) with
    |none=>simp [i] at f
    |some t=>
     simp only[i,mJ] at f;obtain⟨x,n,rfl⟩:=f;exact⟨t,x,i,n,rfl⟩
 ·cases l
theorem Hp (s:St m nt pv defs vars loc a){g:Option (X×Bool)}{b:Bool}(f:(match o.guard with
   |none=>g=none
   |some (j,b)=> ∃t x,(ops[j]?).bind (·.dst)=some t/\fU pv defs (.tmp t)=some x/\g=some (x,b))) (e:gH vars loc g=some b):
  Region.wanted o (yielded ops a.tmps)=b:=by
 unfold Region.wanted
 cases ho:o.guard with
 |none=>simp only[ho] at f;subst f;simp only[gH] at e;cases e;rfl
 |some jb=>
  obtain⟨j,l⟩:=jb;simp only[ho] at f;obtain⟨t,x,n,p,rfl⟩:=f;have d:=aJ s p;simp only[gH] at e;simp only[yielded,n,Option.bind_some];have k:a.eval (.tmp t)=a.tmps.getD t undef:=rfl;rw[k] at d;split at e
  ·rename_i c i
   rw[i] at d;have d:a.tmps.getD t undef= .bool c:=d;cases e
   cases hq:a.tmps[t]? with
   |none=>simp [ND,hq,undef] at d
   |some y=>
    simp [ND,hq] at d;subst d;simp
  ·rename_i i
   rw[i] at d;obtain⟨xs,d,_⟩:=d;cases e
   cases hq:a.tmps[t]? with
   |none=>simp
   |some y=>
    simp [ND,hq] at d;subst d;simp
  ·cases e
theorem RT (L:Dd P cl)(N:Ao P yl){r:Option Nat}{Q:Exit->Act->World->Prop}(y:List Nat): ∀(l:List Nat) (defs:List Nat) (its:List It) (vars loc:List V) (h:H) (vars':List V) (h':H),
  Ci P nt pv ops l defs=some its->vA cl yl its vars loc h=some (vars',h')->
  ∀(m:M) (w:World) (a:Act),St m nt pv defs vars loc a->HR P m h w->Qk m h.next->
  (∀a' w' m',jM m' nt pv vars' a'.tmps->a'.defers=a.defers->iO P m h w m' h' w'->wpOpsIn (Wf r) 0 P ops Q y a' w')->
  wpOpsIn (Wf r) 0 P ops Q (l++y) a w:=by
 intro l
 induction l with
 |nil=>
  intro defs its vars loc h vars' h' f e m w a s t F A;simp only[Ci] at f;cases f;have:vars=vars'/\h=h':=by rw[Jb] at e;simpa using e
  obtain⟨rfl,rfl⟩:=this;exact A a w m s.vars rfl (iO.Rn t)
 |cons i l ih=>
  intro defs its vars loc h vars' h' f e m w a s t F A;simp only[Ci] at f
  cases ho:ops[i]? with
  |none=>simp [ho] at f
  |some o=>
   simp only[ho] at f
   cases hit:vD P nt pv defs ops o with
   |none=>simp [hit] at f
   |some q=>
    obtain⟨it,k⟩:=q;simp only[hit,mJ] at f;obtain⟨j,z,rfl⟩:=f;obtain⟨W,G,O⟩:=Jx hit;rw[nL] at e
    have next: ∀(v:V) (n:H),vA cl yl j (lX it.d vars loc v).1 (lX it.d vars loc v).2 n=some (vars',h')-> ∀x p u,VR u v x->iO P m h w u n p->wpOpsIn (Wf r) 0 P ops Q (l++y) (a.put o.dst x) p:=by
     intro v n B x p u K c;refine ih k j _ _ n vars' h' z B u p _ ((s.mono c.ext).put G K) c.rel (c.low F) (λa' w' m' R U J=>A a' w' m' R ?_ (c.trans J));rw[U];cases o.dst<;>rfl
    simp only[List.cons_append,wpOpsIn,ho]
    cases hw:gH vars loc it.g with
    |none=>simp [hw] at e
    |some b=>
     rw[hw] at e;rw[Hp s O hw]
     cases b with
     |true=>
      simp only[if_true];simp only at e
      cases hact:lN cl yl vars loc h it.a with
      |none=>simp [hact] at e
      |some q=>
       obtain⟨v,n⟩:=q;simp only[hact] at e;exact PQ L N W s t F hact (next v n e)
     |false=>
      simp only[Bool.false_eq_true,if_false];exact⟨λ_ _=>trivial,next .undef h e undef w m (VR.undef m) (iO.Rn t)⟩
end
end
end Go.Ay
