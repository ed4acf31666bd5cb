/- What a law is given, as objects of the abstract machine. -/
import Derived.Test.YtapfcpkecmmagaaGreatAy24
import Derived.Test.YtapfcpkecmmagaaGreatAy26
import Derived.ChangeSlices
namespace Go.Ay
open Go Go.RowKit Go.WideShapes Go.ChangeShapes Go.ChangeAt
section
variable {P:Program} {W:World}
def YJ (ps:List (Nat×Nat×Nat)):M:=λid=>ps[id]?
theorem Zk (ps qs:List (Nat×Nat×Nat)):Ext (YJ ps) (YJ (ps++qs)):=λid p h=>by
 simp only[YJ] at*;rw[Jt (List.getElem?_eq_some_iff.1 h).1];exact h
structure Ins (P:Program)(W:World)(os:List Ob)(ps:List (Nat×Nat×Nat)):Prop where
 len:os.length=ps.length
 ok: ∀(i:Nat) (o:Ob) (p:Nat×Nat×Nat),os[i]? =some o->ps[i]? =some p->o.rw=false/\OR P (YJ ps) o p W
theorem Ins.nil:Ins P W [] []:=⟨rfl,λi o p h=>by simp at h⟩
theorem Ins.push {os:List Ob}{ps:List (Nat×Nat×Nat)}(I:Ins P W os ps){vs:List V}{p:Nat×Nat×Nat}(h:OR P (YJ ps) (.cells true vs) p W):Ins P W (os++ [.cells true vs]) (ps++ [p]):=by
 refine⟨by rw[pQ,pQ,I.len];rfl,λi o q ho hq=>?_⟩
 by_cases hi:i<os.length
 ·rw[Jt hi] at ho
  rw[Jt (by rw[←I.len];exact hi)] at hq;obtain⟨h1,h2⟩:=I.ok i o q ho hq;exact⟨h1,h2.mono (Zk _ _) rfl⟩
 ·rw[List.getElem?_append_right (by omega)] at ho
  rw[List.getElem?_append_right (by have:=I.len;omega)] at hq
  have h0:i-os.length=0:=by
   have:=(List.getElem?_eq_some_iff.1 ho).1;simp at this;omega
  rw[h0] at ho;rw[←I.len,h0] at hq;simp only[List.getElem?_cons_zero,Option.some.injEq] at ho hq;subst ho;subst hq;exact⟨rfl,h.mono (Zk _ _) rfl⟩
theorem Ins.fr (os os':List Ob):Fr (Go.Ay.H.zI os) (Go.Ay.H.zI (os++os')):=by
 refine⟨by rw[vP,vP,pQ];omega,λid hid=>?_⟩;rw[vP] at hid;rw[uO,uO,Jt hid]
variable {Hh:Type} {enc:TypeId×Value->Hh} {base:Nat} {held:Bool}
theorem AX {C:Checked}{os:List Ob}{ps:List (Nat×Nat×Nat)}{T:Nat->Option Fn}{g:Nat}{f:Func}{vs:List V}{s:ChangeSpec}{args:Array Value}{ds gs:List (DataW Hh)}{before:List MemPlace}{tb:TypeId}{apart fresh handsOn again:Bool}
  (hm:C.prog.follows .mixedOrders=true) (hp:IN C.prog T) (hl:laidOutB C.prog=true)
  (hev:Ev T g vs (Go.Ay.H.zI os) (λv _=>v= .bool true)) (I:Ins C.prog W os ps) (hv:fY (YJ ps) vs args.toList)
  (hvar:s.vars= []) (hpar:f.params.toList.all (λt=>C.prog.readableRec t&&decide (t<C.prog.types.size))=true)
  (hrt:f.resultTypes= #[tb]) (htb:C.prog.underlying tb=some .bool)
  (hW:DataW.Whole enc C.prog f.params.toList s.vars apart W args.toList ds gs before)
  (hspec:(s.fn Hh (ds++gs))={results:= [.lit (.bool true)],args:=ds}):
  Calls C.prog g args W λe W'=> ∃v,e= .returned v/\s.post enc C.prog f apart fresh handsOn again W args v W':=by
 obtain⟨N,fu,x0,h',he,rfl⟩:=hev
 obtain⟨hr,hlow⟩:=MC (P:=C.prog) (w:=W) I.len I.ok
 refine (Eo hm hp he (xs:=args) hv hr hlow).mono λe W' ⟨x,m',he,hv,hadv⟩=>?_
 have:x= .bool true:=hv
 subst this
 refine⟨_,he,GN (tb:=tb) hl hvar hpar hrt htb hW hspec (hadv.below (HI λo ho=>?_))⟩
 obtain⟨i,hi⟩:=List.getElem?_of_mem ho
 have hlt:=(List.getElem?_eq_some_iff.1 hi).1
 exact (I.ok i o _ hi (iI (by have:=I.len;omega))).1
end
end Go.Ay
