/- What a law is given, as objects of the abstract machine. -/
import Derived.Test.YtddpkbicnolafaaGreatAy24
import Derived.Test.YtddpkbicnolafaaGreatAy26
import Derived.ChangeSlices
namespace Go.Ay
open Go Go.RowKit Go.WideShapes Go.ChangeShapes Go.ChangeAt
section
variable {P:Program} {W:World}
def Vf (ps:List (Nat×Nat×Nat)):M:=λid=>ps[id]?
theorem Ci (ps qs:List (Nat×Nat×Nat)):Ext (Vf ps) (Vf (ps++qs)):=λid p h=>by
 simp only[Vf] at*;rw[Et (List.getElem?_eq_some_iff.1 h).1];exact h
structure Ins (P:Program)(W:World)(os:List Ob)(ps:List (Nat×Nat×Nat)):Prop where
 len:os.length=ps.length
 ok: ∀(i:Nat) (o:Ob) (p:Nat×Nat×Nat),os[i]? =some o->ps[i]? =some p->o.rw=false/\OR P (Vf ps) o p W
theorem Ins.nil:Ins P W [] []:=⟨rfl,λi o p h=>by simp at h⟩
theorem Ins.push {os:List Ob}{ps:List (Nat×Nat×Nat)}(I:Ins P W os ps){vs:List V}{p:Nat×Nat×Nat}(h:OR P (Vf ps) (.cells true vs) p W):Ins P W (os++ [.cells true vs]) (ps++ [p]):=by
 refine⟨by rw[pW,pW,I.len];rfl,λi o q ho hq=>?_⟩
 by_cases hi:i<os.length
 ·rw[Et hi] at ho
  rw[Et (by rw[←I.len];exact hi)] at hq;obtain⟨h1,h2⟩:=I.ok i o q ho hq;exact⟨h1,h2.mono (Ci _ _) rfl⟩
 ·rw[List.getElem?_append_right (by omega)] at ho
  rw[List.getElem?_append_right (by have:=I.len;omega)] at hq
  have h0:i-os.length=0:=by
   have:=(List.getElem?_eq_some_iff.1 ho).1;simp at this;omega
  rw[h0] at ho;rw[←I.len,h0] at hq;simp only[List.getElem?_cons_zero,Option.some.injEq] at ho hq;subst ho;subst hq;exact⟨rfl,h.mono (Ci _ _) rfl⟩
theorem Ins.fr (os os':List Ob):Fr (Go.Ay.H.mX os) (Go.Ay.H.mX (os++os')):=by
 refine⟨by rw[qK,qK,pW];omega,λid hid=>?_⟩;rw[qK] at hid;rw[pY,pY,Et hid]
variable {Hh:Type} {enc:TypeId×Value->Hh} {base:Nat} {held:Bool}
theorem YN {t:TypeId}{r:Reach}{b0:Nat}{v:Value}{d:DataW Hh}{q:List MemPlace}(ht:P.underlying t=some (.int .i64))
  (hval:Value.okWide P W r b0 t v) (hd:DataW.Trod enc P W base (λ_=>true) held t v d q):
  ∃n,v= .int .i64 n/\(-9223372036854775808<=n/\n<9223372036854775808):=by
 obtain⟨n,h1,_,_,h4⟩:=open_int ht hval hd
 refine⟨n,h1,?_⟩
 simp only[Lit.wf] at h4
 have e1:IntKind.i64.min= -9223372036854775808:=by decide
 have e2:IntKind.i64.max=9223372036854775807:=by decide
 simp [e1,e2] at h4
 omega
theorem CG {C:Checked}{os:List Ob}{ps:List (Nat×Nat×Nat)}{T:Nat->Option Fn}{g:Nat}{f:Func}{vs:List V}{s:ChangeSpec}{args:Array Value}{ds gs:List (DataW Hh)}{before:List MemPlace}{tb:TypeId}{apart fresh handsOn again:Bool}
  (hm:C.prog.follows .mixedOrders=true) (hp:NG C.prog T) (hl:laidOutB C.prog=true)
  (hev:Ev T g vs (Go.Ay.H.mX os) (λv _=>v= .bool true)) (I:Ins C.prog W os ps) (hv:gW (Vf ps) vs args.toList)
  (hvar:s.vars= []) (hpar:f.params.toList.all (λt=>C.prog.readableRec t&&decide (t<C.prog.types.size))=true)
  (hrt:f.resultTypes= #[tb]) (htb:C.prog.underlying tb=some .bool)
  (hW:DataW.Whole enc C.prog f.params.toList s.vars apart W args.toList ds gs before)
  (hspec:(s.fn Hh (ds++gs))={results:= [.lit (.bool true)],args:=ds}):
  Calls C.prog g args W λe W'=> ∃v,e= .returned v/\s.post enc C.prog f apart fresh handsOn again W args v W':=by
 obtain⟨N,fu,x0,h',he,rfl⟩:=hev
 obtain⟨hr,hlow⟩:=HY (P:=C.prog) (w:=W) I.len I.ok
 refine (Gf hm hp he (xs:=args) hv hr hlow).mono λe W' ⟨x,m',he,hv,hadv⟩=>?_
 have:x= .bool true:=hv
 subst this
 refine⟨_,he,JS (tb:=tb) hl hvar hpar hrt htb hW hspec (hadv.below (NW λo ho=>?_))⟩
 obtain⟨i,hi⟩:=List.getElem?_of_mem ho
 have hlt:=(List.getElem?_eq_some_iff.1 hi).1
 exact (I.ok i o _ hi (fX (by have:=I.len;omega))).1
end
end Go.Ay
