/- A region in the order of its text. -/
import Derived.Test.YtapfcpkecmmagaaGreatAy10
namespace Go.Ay
open Go
section
variable {ops:Array Oper}
section
variable {P:Program} {cl yl:dP} {m:M} {h h':H} {w:World} {nt:Nat} {pv defs:List Nat} {vars loc:List V} {a:Act} {o:Oper} {v:V}
def GO (nt:Nat)(pv defs:List Nat)(dst:Option Tmp)(d:D)(defs':List Nat):Prop:=
 match dst with
 |none=>d= .n/\defs'=defs
 |some t=>t<nt/\match idx t pv with
  |some k=>d= .v k/\defs'=defs
  |none=>d= .l/\defs'=t::defs
theorem St.put (s:St m nt pv defs vars loc a){dst:Option Tmp}{d:D}{b:List Nat}(c:GO nt pv defs dst d b){x:Value}(e:VR m v x):
  St m nt pv b (jJ d vars loc v).1 (jJ d vars loc v).2 (a.put dst x):=by
 cases dst with
 |none=>obtain⟨rfl,rfl⟩:=c;exact s
 |some t=>
  obtain⟨f,c⟩:=c;simp only[Act.put]
  cases hk:idx t pv with
  |some k=>
   simp only[hk] at c;obtain⟨rfl,rfl⟩:=c;exact⟨s.vars.set hk e,s.loc.DE hk x⟩
  |none=>
   simp only[hk] at c;obtain⟨rfl,rfl⟩:=c;exact⟨s.vars.EO hk x,s.loc.push (nt:=nt) hk (by rw[s.vars.size];exact f) e⟩
theorem St.mono {b:M}(e:Ext m b)(s:St m nt pv defs vars loc a):St b nt pv defs vars loc a:=⟨s.vars.mono e,s.loc.mono e⟩
theorem xR {it:It}{c:List Nat}(l:oS P nt pv defs ops o=some (it,c)):
  iJ P pv defs o=some it.a/\GO nt pv defs o.dst it.d c/\
  (match o.guard with
   |none=>it.g=none
   |some (j,b)=> ∃t x,(ops[j]?).bind (·.dst)=some t/\fC pv defs (.tmp t)=some x/\it.g=some (x,b)):=by
 unfold oS at l
 split at l
 ·rename_i n g d q f e
  cases l
  refine⟨q,?_,?_⟩
  ·cases hdst:o.dst with
   |none=>rw[hdst] at e;cases e;exact⟨rfl,rfl⟩
   |some t=>
    rw[hdst] at e;simp only[BT] at e;split at e
    ·rename_i i
     refine⟨i,?_⟩
     cases hk:idx t pv with
     |some k=>simp only[hk] at e;cases e;exact⟨rfl,rfl⟩
     |none=>simp only[hk] at e;cases e;exact⟨rfl,rfl⟩
    ·cases e
  ·cases ho:o.guard with
   |none=>rw[ho] at f;cases f;rfl
   |some jb=>
    obtain⟨j,b⟩:=jb;rw[ho] at f;simp only[BZ] at f
    cases i:(ops[j]?).bind (·.dst) with
    |none=>simp [i] at f
    |some t=>
     simp only[i,jB] at f;obtain⟨x,p,rfl⟩:=f;exact⟨t,x,i,p,rfl⟩
 ·cases l
theorem vE (s:St m nt pv defs vars loc a){g:Option (X×Bool)}{b:Bool}(f:(match o.guard with
   |none=>g=none
   |some (j,b)=> ∃t x,(ops[j]?).bind (·.dst)=some t/\fC pv defs (.tmp t)=some x/\g=some (x,b))) (e:fJ vars loc g=some b):
  Region.wanted o (yielded ops a.tmps)=b:=by
 unfold Region.wanted
 cases ho:o.guard with
 |none=>simp only[ho] at f;subst f;simp only[fJ] at e;cases e;rfl
 |some jb=>
  obtain⟨j,l⟩:=jb;simp only[ho] at f;obtain⟨t,x,n,p,rfl⟩:=f;have d:=aJ s p;simp only[fJ] at e;simp only[yielded,n,Option.bind_some];have i:a.eval (.tmp t)=a.tmps.getD t undef:=rfl;rw[i] at d;split at e
  ·rename_i c k
   rw[k] at d;have d:a.tmps.getD t undef= .bool c:=d;cases e
   cases hq:a.tmps[t]? with
   |none=>simp [Ta,hq,undef] at d
   |some y=>
    simp [Ta,hq] at d;subst d;simp
  ·rename_i k
   rw[k] at d;obtain⟨xs,d,_⟩:=d;cases e
   cases hq:a.tmps[t]? with
   |none=>simp
   |some y=>
    simp [Ta,hq] at d;subst d;simp
  ·cases e
theorem Xy (R:tN P cl)(O:rX P yl){r:Option Nat}{Q:Exit->Act->World->Prop}(z:List Nat): ∀(l:List Nat) (defs:List Nat) (its:List It) (vars loc:List V) (h:H) (vars':List V) (h':H),
  sE P nt pv ops l defs=some its->oD cl yl its vars loc h=some (vars',h')->
  ∀(m:M) (w:World) (a:Act),St m nt pv defs vars loc a->HR P m h w->Cq m h.next->
  (∀a' w' m',iG m' nt pv vars' a'.tmps->a'.defers=a.defers->fU P m h w m' h' w'->wpOpsIn (Wf r) 0 P ops Q z a' w')->
  wpOpsIn (Wf r) 0 P ops Q (l++z) a w:=by
 intro l
 induction l with
 |nil=>
  intro defs its vars loc h vars' h' f e m w a s t y A;simp only[sE] at f;cases f;have:vars=vars'/\h=h':=by rw[xE] at e;simpa using e
  obtain⟨rfl,rfl⟩:=this;exact A a w m s.vars rfl (fU.Dz t)
 |cons i l ih=>
  intro defs its vars loc h vars' h' f e m w a s t y A;simp only[sE] at f
  cases ho:ops[i]? with
  |none=>simp [ho] at f
  |some o=>
   simp only[ho] at f
   cases hit:oS P nt pv defs ops o with
   |none=>simp [hit] at f
   |some q=>
    obtain⟨it,k⟩:=q;simp only[hit,jB] at f;obtain⟨j,F,rfl⟩:=f;obtain⟨J,L,G⟩:=xR hit;rw[jX] at e
    have next: ∀(v:V) (n:H),oD cl yl j (jJ it.d vars loc v).1 (jJ it.d vars loc v).2 n=some (vars',h')-> ∀x p u,VR u v x->fU P m h w u n p->wpOpsIn (Wf r) 0 P ops Q (l++z) (a.put o.dst x) p:=by
     intro v n B x p u K c;refine ih k j _ _ n vars' h' F B u p _ ((s.mono c.ext).put L K) c.rel (c.low y) (λa' w' m' N U W=>A a' w' m' N ?_ (c.trans W));rw[U];cases o.dst<;>rfl
    simp only[List.cons_append,wpOpsIn,ho]
    cases hw:fJ vars loc it.g with
    |none=>simp [hw] at e
    |some b=>
     rw[hw] at e;rw[vE s G hw]
     cases b with
     |true=>
      simp only[if_true];simp only at e
      cases hact:jI cl yl vars loc h it.a with
      |none=>simp [hact] at e
      |some q=>
       obtain⟨v,n⟩:=q;simp only[hact] at e;exact Xp R O J s t y hact (next v n e)
     |false=>
      simp only[Bool.false_eq_true,if_false];exact⟨λ_ _=>trivial,next .undef h e undef w m (VR.undef m) (fU.Dz t)⟩
end
end
end Go.Ay
