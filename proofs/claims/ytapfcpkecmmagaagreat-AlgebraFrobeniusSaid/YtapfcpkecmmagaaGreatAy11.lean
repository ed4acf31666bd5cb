/- A region in the order of its text. -/
import Derived.Test.YtapfcpkecmmagaaGreatAy10
namespace Go.Ay
open Go
section
variable {ops:Array Oper}
section
variable {P:Program} {cl yl:dD} {m:M} {h h':H} {w:World} {nt:Nat} {pv defs:List Nat} {vars loc:List V} {a:Act} {o:Oper} {v:V}
def Yp (nt:Nat)(pv defs:List Nat)(dst:Option Tmp)(d:D)(defs':List Nat):Prop:=
 match dst with
 |none=>d= .n/\defs'=defs
 |some t=>t<nt/\match idx t pv with
  |some k=>d= .v k/\defs'=defs
  |none=>d= .l/\defs'=t::defs
theorem St.put (s:St m nt pv defs vars loc a){dst:Option Tmp}{d:D}{defs':List Nat}(hd:Yp nt pv defs dst d defs'){x:Value}(hv:VR m v x):
  St m nt pv defs' (iA d vars loc v).1 (iA d vars loc v).2 (a.put dst x):=by
 cases dst with
 |none=>obtain⟨rfl,rfl⟩:=hd;exact s
 |some t=>
  obtain⟨ht,hd⟩:=hd;simp only[Act.put]
  cases hk:idx t pv with
  |some k=>
   simp only[hk] at hd;obtain⟨rfl,rfl⟩:=hd;exact⟨s.vars.set hk hv,s.loc.Wh hk x⟩
  |none=>
   simp only[hk] at hd;obtain⟨rfl,rfl⟩:=hd;exact⟨s.vars.Uv hk x,s.loc.push (nt:=nt) hk (by rw[s.vars.size];exact ht) hv⟩
theorem St.mono {m':M}(e:Ext m m')(s:St m nt pv defs vars loc a):St m' nt pv defs vars loc a:=⟨s.vars.mono e,s.loc.mono e⟩
theorem tV {it:It}{defs':List Nat}(hc:mK P nt pv defs ops o=some (it,defs')):
  fP P pv defs o=some it.a/\Yp nt pv defs o.dst it.d defs'/\
  (match o.guard with
   |none=>it.g=none
   |some (j,b)=> ∃t x,(ops[j]?).bind (·.dst)=some t/\dW pv defs (.tmp t)=some x/\it.g=some (x,b)):=by
 unfold mK at hc
 split at hc
 ·rename_i act g d ha hg hd
  cases hc
  refine⟨ha,?_,?_⟩
  ·cases hdst:o.dst with
   |none=>rw[hdst] at hd;cases hd;exact⟨rfl,rfl⟩
   |some t=>
    rw[hdst] at hd;simp only[Ul] at hd;split at hd
    ·rename_i ht
     refine⟨ht,?_⟩
     cases hk:idx t pv with
     |some k=>simp only[hk] at hd;cases hd;exact⟨rfl,rfl⟩
     |none=>simp only[hk] at hd;cases hd;exact⟨rfl,rfl⟩
    ·cases hd
  ·cases ho:o.guard with
   |none=>rw[ho] at hg;cases hg;rfl
   |some jb=>
    obtain⟨j,b⟩:=jb;rw[ho] at hg;simp only[Up] at hg
    cases ht:(ops[j]?).bind (·.dst) with
    |none=>simp [ht] at hg
    |some t=>
     simp only[ht,gJ] at hg;obtain⟨x,hx,rfl⟩:=hg;exact⟨t,x,ht,hx,rfl⟩
 ·cases hc
theorem sB (s:St m nt pv defs vars loc a){g:Option (X×Bool)}{b:Bool}(hg:(match o.guard with
   |none=>g=none
   |some (j,b)=> ∃t x,(ops[j]?).bind (·.dst)=some t/\dW pv defs (.tmp t)=some x/\g=some (x,b))) (hw:dZ vars loc g=some b):
  Region.wanted o (yielded ops a.tmps)=b:=by
 unfold Region.wanted
 cases ho:o.guard with
 |none=>simp only[ho] at hg;subst hg;simp only[dZ] at hw;cases hw;rfl
 |some jb=>
  obtain⟨j,want⟩:=jb;simp only[ho] at hg;obtain⟨t,x,ht,hx,rfl⟩:=hg;have hv:=aG s hx;simp only[dZ] at hw;simp only[yielded,ht,Option.bind_some];have hev:a.eval (.tmp t)=a.tmps.getD t undef:=rfl;rw[hev] at hv;split at hw
  ·rename_i c hc
   rw[hc] at hv;have hv:a.tmps.getD t undef= .bool c:=hv;cases hw
   cases hq:a.tmps[t]? with
   |none=>simp [Array.getD_eq_getD_getElem?,hq,undef] at hv
   |some y=>
    simp [Array.getD_eq_getD_getElem?,hq] at hv;subst hv;simp
  ·rename_i hc
   rw[hc] at hv;obtain⟨xs,hv,_⟩:=hv;cases hw
   cases hq:a.tmps[t]? with
   |none=>simp
   |some y=>
    simp [Array.getD_eq_getD_getElem?,hq] at hv;subst hv;simp
  ·cases hw
theorem Qc (hS:qI P cl)(hY:oW P yl){r:Option Nat}{Q:Exit->Act->World->Prop}(l2:List Nat): ∀(l:List Nat) (defs:List Nat) (its:List It) (vars loc:List V) (h:H) (vars':List V) (h':H),
  pP P nt pv ops l defs=some its->mH cl yl its vars loc h=some (vars',h')->
  ∀(m:M) (w:World) (a:Act),St m nt pv defs vars loc a->HR P m h w->xS m h.next->
  (∀a' w' m',fL m' nt pv vars' a'.tmps->a'.defers=a.defers->eS P m h w m' h' w'->wpOpsIn (Wf r) 0 P ops Q l2 a' w')->
  wpOpsIn (Wf r) 0 P ops Q (l++l2) a w:=by
 intro l
 induction l with
 |nil=>
  intro defs its vars loc h vars' h' hc he m w a s hr hl hQ;simp only[pP] at hc;cases hc;have:vars=vars'/\h=h':=by rw[sY] at he;simpa using he
  obtain⟨rfl,rfl⟩:=this;exact hQ a w m s.vars rfl (eS.yI hr)
 |cons i l ih=>
  intro defs its vars loc h vars' h' hc he m w a s hr hl hQ;simp only[pP] at hc
  cases ho:ops[i]? with
  |none=>simp [ho] at hc
  |some o=>
   simp only[ho] at hc
   cases hit:mK P nt pv defs ops o with
   |none=>simp [hit] at hc
   |some q=>
    obtain⟨it,defs'⟩:=q;simp only[hit,gJ] at hc;obtain⟨its',hc',rfl⟩:=hc;obtain⟨c1,c2,c3⟩:=tV hit;rw[iQ] at he
    have next: ∀(v:V) (h1:H),mH cl yl its' (iA it.d vars loc v).1 (iA it.d vars loc v).2 h1=some (vars',h')-> ∀x w1 m1,VR m1 v x->eS P m h w m1 h1 w1->wpOpsIn (Wf r) 0 P ops Q (l++l2) (a.put o.dst x) w1:=by
     intro v h1 he1 x w1 m1 hv hadv;refine ih defs' its' _ _ h1 vars' h' hc' he1 m1 w1 _ ((s.mono hadv.ext).put c2 hv) hadv.rel (hadv.low hl) (λa' w' m' e1 e2 e3=>hQ a' w' m' e1 ?_ (hadv.trans e3));rw[e2];cases o.dst<;>rfl
    simp only[List.cons_append,wpOpsIn,ho]
    cases hw:dZ vars loc it.g with
    |none=>simp [hw] at he
    |some b=>
     rw[hw] at he;rw[sB s c3 hw]
     cases b with
     |true=>
      simp only[if_true];simp only at he
      cases hact:gO cl yl vars loc h it.a with
      |none=>simp [hact] at he
      |some q=>
       obtain⟨v,h1⟩:=q;simp only[hact] at he;exact Qk hS hY c1 s hr hl hact (next v h1 he)
     |false=>
      simp only[Bool.false_eq_true,if_false];exact⟨λ_ _=>trivial,next .undef h he undef w m (VR.undef m) (eS.yI hr)⟩
end
end
end Go.Ay
