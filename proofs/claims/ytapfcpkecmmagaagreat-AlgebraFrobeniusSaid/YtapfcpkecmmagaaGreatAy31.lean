/- What a law is given, as objects of the abstract machine. -/
import Derived.Test.YtapfcpkecmmagaaGreatAy24
import Derived.Test.YtapfcpkecmmagaaGreatAy26
import Derived.ChangeSlices
namespace Go.Ay
open Go Go.RowKit Go.WideShapes Go.ChangeShapes Go.ChangeAt
section
variable {os:List Ob} {ps:List (Nat×Nat×Nat)} {r:Reach} {b0:Nat} {e t:TypeId} {v:Value}
section
variable {P:Program} {W:World}
def Tq (ps:List (Nat×Nat×Nat)):M:=λid=>ps[id]?
theorem Ic (ps qs:List (Nat×Nat×Nat)):Ext (Tq ps) (Tq (ps++qs)):=λid p h=>by
 simp only[Tq] at*;rw[wY (List.getElem?_eq_some_iff.1 h).1];exact h
structure Ins (P:Program)(W:World)(os:List Ob)(ps:List (Nat×Nat×Nat)):Prop where
 len:os.length=ps.length
 ok: ∀(i:Nat) (o:Ob) (p:Nat×Nat×Nat),os[i]? =some o->ps[i]? =some p->o.rw=false/\OR P (Tq ps) o p W
theorem Ins.nil:Ins P W [] []:=⟨rfl,λi o p h=>by simp at h⟩
theorem Ins.push (I:Ins P W os ps){vs:List V}{p:Nat×Nat×Nat}(h:OR P (Tq ps) (.cells true vs) p W):Ins P W (os++ [.cells true vs]) (ps++ [p]):=by
 refine⟨by rw[jD,jD,I.len];rfl,λi o q ho hq=>?_⟩
 by_cases hi:i<os.length
 ·rw[wY hi] at ho
  rw[wY (by rw[←I.len];exact hi)] at hq;obtain⟨h1,h2⟩:=I.ok i o q ho hq;exact⟨h1,h2.mono (Ic _ _) rfl⟩
 ·rw[List.getElem?_append_right (by omega)] at ho
  rw[List.getElem?_append_right (by have:=I.len;omega)] at hq
  have h0:i-os.length=0:=by
   have:=(List.getElem?_eq_some_iff.1 ho).1;simp at this;omega
  rw[h0] at ho;rw[←I.len,h0] at hq;simp only[List.getElem?_cons_zero,Option.some.injEq] at ho hq;subst ho;subst hq;exact⟨rfl,h.mono (Ic _ _) rfl⟩
theorem Ins.fr (os os':List Ob):Fr (Go.Ay.H.mX os) (Go.Ay.H.mX (os++os')):=by
 refine⟨by rw[lT,lT,jD];omega,λid hid=>?_⟩;rw[lT] at hid;rw[kY,kY,wY hid]
theorem Ns {fits:TypeId->Bool}: ∀(d:Nat) (e:TypeId) (count off n:Nat),rowAt P fits d e count off n=true->off<=count*P.cellsOf e
 |0,_,_,_,_,h=>by simp [rowAt] at h
 |d+1,e,count,off,n,h=>by
  simp only[rowAt] at h;split at h
  ·cases h
  ·rename_i hs
   have hdm:=Nat.div_add_mod off (P.cellsOf e);rw[Bool.or_eq_true] at h;rcases h with h|h
   ·simp only[Bool.and_eq_true,beq_iff_eq,decide_eq_true_eq] at h
    obtain⟨⟨h1,h2⟩,_⟩:=h;have:off/P.cellsOf e*P.cellsOf e<=count*P.cellsOf e:=Nat.mul_le_mul_right _ (by omega);rw[Nat.mul_comm] at hdm;omega
   ·rw[Bool.and_eq_true,decide_eq_true_eq] at h
    have h1:=h.1;have hm:off%P.cellsOf e<P.cellsOf e:=Nat.mod_lt _ (by omega);have:(off/P.cellsOf e+1)*P.cellsOf e<=count*P.cellsOf e:=Nat.mul_le_mul_right _ (by omega);rw[Nat.add_mul,Nat.one_mul,Nat.mul_comm (off/P.cellsOf e)] at this;omega
theorem yQ: ∀(d:Nat) (e:TypeId) (count off:Nat) (u:TypeId) (n:Nat),liesAt P d e count off u n=true->off<=count*P.cellsOf e
 |0,_,_,_,_,_,h=>by simp [liesAt] at h
 |d+1,e,count,off,u,n,h=>by
  simp only[liesAt,Bool.or_eq_true] at h;rcases h with h|h
  ·exact Ns _ _ _ _ _ h
  ·split at h
   ·exact yQ d e count off _ _ h
   ·cases h
theorem Ie {a:Addr}{n:Nat}(h:W.has P r b0 a e n):a.spot=none/\ ∃c el fr,W.heap[a.block]? =some (.cells c el fr)/\a.off<=c.size:=by
 obtain⟨_,h2,row,cells,h3,h4⟩:=h;refine⟨h2,?_⟩;unfold World.shape? at h3;split at h3
 ·rename_i c el fr hc
  simp only[Option.some.injEq,Prod.mk.injEq] at h3;obtain⟨rfl,rfl⟩:=h3;refine⟨c,el,fr,hc,?_⟩;exact Nat.le_trans (yQ _ _ _ _ _ _ h4) (Nat.div_mul_le_self ..)
 ·cases h3
variable {Hh:Type} {enc:TypeId×Value->Hh} {base:Nat} {held:Bool}
theorem Si {fuel:Nat}{x:DataW Hh×List MemPlace}(ht:P.underlying t=some (.slice e))(he:P.underlying e=some (.int .i64))(hc:P.cellsOf e=1)
  (hval:Cell.ok P W r b0 t v) (hd:DataW.trod enc P W base (λ_=>true) held fuel t [v]=some x)   (I:Ins P W os ps):
  ∃os' ps' u l,Ins P W (os++os') (ps++ps')/\VR (Tq (ps++ps')) u v/\SI (Go.Ay.H.mX (os++os')) u l/\(l.length:Int)<=2^63- 1/\(∀z∈l, -9223372036854775808<=z/\z<9223372036854775808):=by
 rcases open_ints ht he hc hd with ⟨h1,h2⟩|⟨a,len,cap,zs,h1,h2,h3,h4,h5,h6,h7,h8⟩
 ·simp only[List.cons.injEq,and_true] at h1
  subst h1
  exact⟨[], [],.aB, [],by simpa using I,rfl,SI.aB _,by simp,by simp⟩
 ·simp only[List.cons.injEq,and_true] at h1
  subst h1
  simp only[if_true] at h5
  have hok:len<=cap/\(cap:Int)<=IntKind.i64.max/\W.has P r b0 a e cap:=by
   simpa only[Cell.ok,ht] using hval
  obtain⟨hsp,c,el,fr,hcells,hoff⟩:=Ie hok.2.2
  obtain⟨ab,ao,asp⟩:=a
  simp only at hsp hcells hoff
  subst hsp
  have hcell: ∀i,i<zs.length->c[ao+i]? =some (.int .i64 (zs.getD i 0)):=λi hi=>by
   have:=h7 i hi;unfold World.cell? at this;unfold Addr.add at this
   by_cases h0:i=0
   ·subst h0
    simp only[if_true,hcells,Option.isSome_none,Bool.false_eq_true,if_false] at this;exact this
   ·simp only[h0,if_false,hcells,Option.isSome_none,Bool.false_eq_true] at this
    exact this
  have hle:ao+len<=c.size:=by
   cases len with
   |zero=>exact hoff
   |succ k=>
    have:=(Array.getElem?_eq_some_iff.1 (hcell k (by omega))).1;omega
  have hlt:(zs.take len).length=len:=by rw[xL];omega
  have hw: ∀z∈zs.take len, -9223372036854775808<=z/\z<9223372036854775808:=λz hz=>by
   have:=h8 z (List.mem_of_mem_take hz);simp only[Lit.wf] at this;have e1:IntKind.i64.min= -9223372036854775808:=by decide
   have e2:IntKind.i64.max=9223372036854775807:=by decide
   simp [e1,e2] at this;omega
  have hmx:(cap:Int)<=2^63- 1:=by
   have e2:IntKind.i64.max=9223372036854775807:=by decide
   have:=hok.2.1;rw[e2] at this;omega
  refine⟨[.cells true (ints (zs.take len))], [(ab,ao,c.size)],.sl os.length 0 len (.kn cap),zs.take len,I.push ⟨c,el,fr,hcells,rfl,by rw[aN,hlt];exact hle,λi v hv=>?_,λh=>by cases h⟩,⟨(ab,ao,c.size),cap,0,?_,?_,h3,λ_=>rfl,rfl,rfl⟩,?_,by rw[hlt];omega,hw⟩
  ·have hi:=(List.getElem?_eq_some_iff.1 hv).1
   rw[aN,hlt] at hi
   rw[yV (by rw[hlt];exact hi)] at hv
   simp only[Option.some.injEq] at hv
   subst hv
   refine⟨rfl,_,hcell i (by omega),?_⟩
   have:(zs.take len).getD i 0=zs.getD i 0:=by
    rw[List.getD_eq_getElem?_getD,List.getElem?_take_of_lt hi,←List.getD_eq_getElem?_getD]
   rw[this];rfl
  ·simp only[Tq]
   rw[I.len,List.getElem?_append_right (eP _),Nat.sub_self];rfl
  ·rfl
  ·have:=SI.own (h:=Go.Ay.H.mX (os++ [.cells true (ints (zs.take len))])) (id:=os.length) (ro:=true) (l:=zs.take len) (by rw[lT,jD];simp) (by rw[kY,List.getElem?_append_right (eP _),Nat.sub_self];rfl) (.kn cap)
   rw[hlt] at this
   exact this
theorem Oc {d:DataW Hh}{q:List MemPlace}(ht:P.underlying t=some (.slice e))(he:P.underlying e=some (.int .i64))(hc:P.cellsOf e=1)
  (hval:Value.okWide P W r b0 t v) (hd:DataW.Trod enc P W base (λ_=>true) held t v d q)   (I:Ins P W os ps):
  ∃os' ps' u l,Ins P W (os++os') (ps++ps')/\VR (Tq (ps++ps')) u v/\SI (Go.Ay.H.mX (os++os')) u l/\(l.length:Int)<=2^63- 1/\(∀z∈l, -9223372036854775808<=z/\z<9223372036854775808):=by
 obtain⟨fuel,hd⟩:=hd
 have hv:Cell.ok P W r b0 t v:=by
  simp only[Value.okWide,ht] at hval;simpa only[Cell.okWide,ht] using hval
 have hcl:v.cells.toList= [v]:=by
  have:Cell.ok P W r b0 t v:=hv;simp only[Cell.ok,ht] at this;cases v<;>first|rfl|exact this.elim
 rw[hcl] at hd
 exact Si ht he hc hv hd I
theorem Wo {d:DataW Hh}{q:List MemPlace}(ht:P.underlying t=some (.int .i64))
  (hval:Value.okWide P W r b0 t v) (hd:DataW.Trod enc P W base (λ_=>true) held t v d q):
  ∃n,v= .int .i64 n/\(-9223372036854775808<=n/\n<9223372036854775808):=by
 obtain⟨n,h1,_,_,h4⟩:=open_int ht hval hd
 refine⟨n,h1,?_⟩
 simp only[Lit.wf] at h4
 have e1:IntKind.i64.min= -9223372036854775808:=by decide
 have e2:IntKind.i64.max=9223372036854775807:=by decide
 simp [e1,e2] at h4
 omega
theorem Js {C:Checked}{T:Nat->Option Fn}{g:Nat}{f:Func}{vs:List V}{s:ChangeSpec}{args:Array Value}{ds gs:List (DataW Hh)}{before:List MemPlace}{tb:TypeId}{apart fresh handsOn again:Bool}
  (hm:C.prog.follows .mixedOrders=true) (hp:Ln C.prog T) (hl:laidOutB C.prog=true)
  (hev:Ev T g vs (Go.Ay.H.mX os) (λv _=>v= .bool true)) (I:Ins C.prog W os ps) (hv:eG (Tq ps) vs args.toList)
  (hvar:s.vars= []) (hpar:f.params.toList.all (λt=>C.prog.readableRec t&&decide (t<C.prog.types.size))=true)
  (hrt:f.resultTypes= #[tb]) (htb:C.prog.underlying tb=some .bool)
  (hW:DataW.Whole enc C.prog f.params.toList s.vars apart W args.toList ds gs before)
  (hspec:(s.fn Hh (ds++gs))={results:= [.lit (.bool true)],args:=ds}):
  Calls C.prog g args W λe W'=> ∃v,e= .returned v/\s.post enc C.prog f apart fresh handsOn again W args v W':=by
 obtain⟨N,fu,x0,h',he,rfl⟩:=hev
 obtain⟨hr,hlow⟩:=Nf (P:=C.prog) (w:=W) I.len I.ok
 refine (tS hm hp he (xs:=args) hv hr hlow).mono λe W' ⟨x,m',he,hv,hadv⟩=>?_
 have:x= .bool true:=hv
 subst this
 refine⟨_,he,Lx (tb:=tb) hl hvar hpar hrt htb hW hspec (hadv.below (Me λo ho=>?_))⟩
 obtain⟨i,hi⟩:=List.getElem?_of_mem ho
 have hlt:=(List.getElem?_eq_some_iff.1 hi).1
 exact (I.ok i o _ hi (eQ (by have:=I.len;omega))).1
end
end
end Go.Ay
