/- A region in the order of its text. -/
import Derived.Test.YtapfcpkecmmagaaGreatAy10
namespace Go.Ay
open Go
section
variable {ops:Array Oper}
section
variable {P:Program} {cl yl:dP} {m:M} {h h':H} {w:World} {nt:Nat} {pv defs:List Nat} {vars loc:List V} {a:Act} {o:Oper} {v:V}
def HU (nt:Nat)(pv defs:List Nat)(dst:Option Tmp)(d:D)(defs':List Nat):Prop:=
 match dst with
 |none=>d= .n/\defs'=defs
 |some t=>t<nt/\match idx t pv with
  |some k=>d= .v k/\defs'=defs
  |none=>d= .l/\defs'=t::defs
theorem St.put (s:St m nt pv defs vars loc a){dst:Option Tmp}{d:D}{b:List Nat}(c:HU nt pv defs dst d b){x:Value}(e:VR m v x):
  St m nt pv b (jI d vars loc v).1 (jI d vars loc v).2 (a.put dst x):=by
 cases dst with
 |none=>obtain⟨rfl,rfl⟩:=c;exact s
 |some t=>
  obtain⟨f,c⟩:=c;simp only[Act.put]
  cases hk:idx t pv with
  |some k=>
   simp only[hk] at c;obtain⟨rfl,rfl⟩:=c;exact⟨s.vars.set hk e,s.loc.EI hk x⟩
  |none=>
   simp only[hk] at c;obtain⟨rfl,rfl⟩:=c;exact⟨s.vars.FM hk x,s.loc.push (nt:=nt) hk (by rw[s.vars.size];exact f) e⟩
theorem St.mono {b:M}(e:Ext m b)(s:St m nt pv defs vars loc a):St b nt pv defs vars loc a:=⟨s.vars.mono e,s.loc.mono e⟩
theorem yB {it:It}{c:List Nat}(l:pD P nt pv defs ops o=some (it,c)):
  iI P pv defs o=some it.a/\HU nt pv defs o.dst it.d c/\
  (match o.guard with
   |none=>it.g=none
   |some (j,b)=> ∃t x,(ops[j]?).bind (·.dst)=some t/\fC pv defs (.tmp t)=some x/\it.g=some (x,b)):=by
 unfold pD at l
 split at l
 ·rename_i p g d q f e
  cases l
  refine⟨q,?_,?_⟩
  ·cases hdst:o.dst with
   |none=>rw[hdst] at e;cases e;exact⟨rfl,rfl⟩
   |some t=>
    rw[hdst] at e;simp only[CY] at e;split at e
    ·rename_i i
     refine⟨i,?_⟩
     cases hk:idx t pv with
     |some k=>simp only[hk] at e;cases e;exact⟨rfl,rfl⟩
     |none=>simp only[hk] at e;cases e;exact⟨rfl,rfl⟩
    ·cases e
  ·cases ho:o.guard with
   |none=>rw[ho] at f;cases f;rfl
   |some jb=>
    obtain⟨j,b⟩:=jb;rw[ho] at f;simp only[CZ] at f
    cases i:(ops[j]?).bind (·.dst) with
    |none=>simp [i] at f
    |some t=>
     simp only[i,jA] at f;obtain⟨x,n,rfl⟩:=f;exact⟨t,x,i,n,rfl⟩
 ·cases l
theorem vI (s:St m nt pv defs vars loc a){g:Option (X×Bool)}{b:Bool}(f:(match o.guard with
   |none=>g=none
   |some (j,b)=> ∃t x,(ops[j]?).bind (·.dst)=some t/\fC pv defs (.tmp t)=some x/\g=some (x,b))) (e:fK vars loc g=some b):
  Region.wanted o (yielded ops a.tmps)=b:=by
 unfold Region.wanted
 cases ho:o.guard with
 |none=>simp only[ho] at f;subst f;simp only[fK] at e;cases e;rfl
 |some jb=>
  obtain⟨j,l⟩:=jb;simp only[ho] at f;obtain⟨t,x,n,p,rfl⟩:=f;have d:=aJ s p;simp only[fK] at e;simp only[yielded,n,Option.bind_some];have k:a.eval (.tmp t)=a.tmps.getD t undef:=rfl;rw[k] at d;split at e
  ·rename_i c i
   rw[i] at d;have d:a.tmps.getD t undef= .bool c:=d;cases e
   cases hq:a.tmps[t]? with
   |none=>simp [Tu,hq,undef] at d
   |some y=>
    simp [Tu,hq] at d;subst d;simp
  ·rename_i i
   rw[i] at d;obtain⟨xs,d,_⟩:=d;cases e
   cases hq:a.tmps[t]? with
   |none=>simp
   |some y=>
    simp [Tu,hq] at d;subst d;simp
  ·cases e
theorem Xq (R:tE P cl)(L:rY P yl){r:Option Nat}{Q:Exit->Act->World->Prop}(A:List Nat): ∀(l:List Nat) (defs:List Nat) (its:List It) (vars loc:List V) (h:H) (vars':List V) (h':H),
  sK P nt pv ops l defs=some its->oK cl yl its vars loc h=some (vars',h')->
  ∀(m:M) (w:World) (a:Act),St m nt pv defs vars loc a->HR P m h w->Cx m h.next->
  (∀a' w' m',iG m' nt pv vars' a'.tmps->a'.defers=a.defers->fY P m h w m' h' w'->wpOpsIn (Wf r) 0 P ops Q A a' w')->
  wpOpsIn (Wf r) 0 P ops Q (l++A) a w:=by
 intro l
 induction l with
 |nil=>
  intro defs its vars loc h vars' h' f e m w a s t F y;simp only[sK] at f;cases f;have:vars=vars'/\h=h':=by rw[xA] at e;simpa using e
  obtain⟨rfl,rfl⟩:=this;exact y a w m s.vars rfl (fY.Df t)
 |cons i l ih=>
  intro defs its vars loc h vars' h' f e m w a s t F y;simp only[sK] at f
  cases ho:ops[i]? with
  |none=>simp [ho] at f
  |some o=>
   simp only[ho] at f
   cases hit:pD P nt pv defs ops o with
   |none=>simp [hit] at f
   |some q=>
    obtain⟨it,k⟩:=q;simp only[hit,jA] at f;obtain⟨j,B,rfl⟩:=f;obtain⟨J,O,U⟩:=yB hit;rw[kC] at e
    have next: ∀(v:V) (n:H),oK cl yl j (jI it.d vars loc v).1 (jI it.d vars loc v).2 n=some (vars',h')-> ∀x u p,VR p v x->fY P m h w p n u->wpOpsIn (Wf r) 0 P ops Q (l++A) (a.put o.dst x) u:=by
     intro v n z x u p N c;refine ih k j _ _ n vars' h' B z p u _ ((s.mono c.ext).put O N) c.rel (c.low F) (λa' w' m' W K G=>y a' w' m' W ?_ (c.trans G));rw[K];cases o.dst<;>rfl
    simp only[List.cons_append,wpOpsIn,ho]
    cases hw:fK vars loc it.g with
    |none=>simp [hw] at e
    |some b=>
     rw[hw] at e;rw[vI s U hw]
     cases b with
     |true=>
      simp only[if_true];simp only at e
      cases hact:jC cl yl vars loc h it.a with
      |none=>simp [hact] at e
      |some q=>
       obtain⟨v,n⟩:=q;simp only[hact] at e;exact Xa R L J s t F hact (next v n e)
     |false=>
      simp only[Bool.false_eq_true,if_false];exact⟨λ_ _=>trivial,next .undef h e undef w m (VR.undef m) (fY.Df t)⟩
end
end
end Go.Ay
