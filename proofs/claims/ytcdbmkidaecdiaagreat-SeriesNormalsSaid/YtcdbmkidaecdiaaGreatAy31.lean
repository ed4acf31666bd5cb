/- What a law is given, as objects of the abstract machine. -/
import Derived.Test.YtcdbmkidaecdiaaGreatAy24
import Derived.Test.YtcdbmkidaecdiaaGreatAy26
import Derived.ChangeSlices
namespace Go.Ay
open Go Go.RowKit Go.WideShapes Go.ChangeShapes Go.ChangeAt
section
variable {P:Program} {W:World}
def Wc (ps:List (Nat×Nat×Nat)):M:=λid=>ps[id]?
theorem Hp (ps a:List (Nat×Nat×Nat)):Ext (Wc ps) (Wc (ps++a)):=λid p h=>by
 simp only[Wc] at*;rw[Dt (vJ.1 h).1];exact h
structure Ins (P:Program)(W:World)(os:List Ob)(ps:List (Nat×Nat×Nat)):Prop where
 len:os.length=ps.length
 ok: ∀(i:Nat) (o:Ob) (p:Nat×Nat×Nat),os[i]? =some o->ps[i]? =some p->o.rw=false/\OR P (Wc ps) o p W
theorem Ins.nil:Ins P W [] []:=⟨rfl,λi o p h=>by simp at h⟩
theorem Ins.push {c:List Ob}{ps:List (Nat×Nat×Nat)}(I:Ins P W c ps){vs:List V}{p:Nat×Nat×Nat}(h:OR P (Wc ps) (.cells true vs) p W):Ins P W (c++ [.cells true vs]) (ps++ [p]):=by
 refine⟨by rw[iV,iV,I.len];rfl,λi o q a b=>?_⟩
 by_cases hi:i<c.length
 ·rw[Dt hi] at a
  rw[Dt (by rw[←I.len];exact hi)] at b;obtain⟨e,f⟩:=I.ok i o q a b;exact⟨e,f.mono (Hp _ _) rfl⟩
 ·rw[Jg om] at a
  rw[Jg (by have:=I.len;omega)] at b
  have d:i-c.length=0:=by
   have:=(vJ.1 a).1;simp at this;omega
  rw[d] at a;rw[←I.len,d] at b;simp only[List.getElem?_cons_zero,Option.some.injEq] at a b;subst a;subst b;exact⟨rfl,h.mono (Hp _ _) rfl⟩
theorem Ins.fr (c b:List Ob):Fr (Go.Ay.H.yH c) (Go.Ay.H.yH (c++b)):=by
 refine⟨by rw[uT,uT,iV];omega,λid a=>?_⟩;rw[uT] at a;rw[tV,tV,Dt a]
variable {Hh:Type} {enc:TypeId×Value->Hh} {base:Nat} {held:Bool}
theorem MH {C:Checked}{y:List Ob}{ps:List (Nat×Nat×Nat)}{T:Nat->Option Fn}{g:Nat}{f:Func}{vs:List V}{s:ChangeSpec}{args:Array Value}{ds u:List (DataW Hh)}{c:List MemPlace}{tb:TypeId}{a fresh b d:Bool}
  (K:C.prog.follows .mixedOrders=true) (z:POk C.prog T) (J:laidOutB C.prog=true)
  (r:Ev T g vs (Go.Ay.H.yH y) (λv _=>v= .bool true)) (I:Ins C.prog W y ps) (p:iR (Wc ps) vs args.toList)
  (m:s.vars= []) (j:f.params.toList.all (λt=>C.prog.readableRec t&&decide (t<C.prog.types.size))=true)
  (n:f.resultTypes= #[tb]) (q:C.prog.underlying tb=some .bool)
  (A:DataW.Whole enc C.prog f.params.toList s.vars a W args.toList ds u c)
  (h:(s.fn Hh (ds++u))={results:= [.lit (.bool true)],args:=ds}):
  Calls C.prog g args W λe W'=> ∃v,e= .returned v/\s.post enc C.prog f a fresh b d W args v W':=by
 obtain⟨N,O,L,k,rfl⟩:=r
 have k:=k N (dT N)
 obtain⟨B,l⟩:=SK (P:=C.prog) (w:=W) I.len I.ok
 refine (BG K z k (xs:=args) p B l).mono λe W' ⟨x,m',k,p,hadv⟩=>?_
 have:x= .bool true:=p
 subst this
 refine⟨_,k,XX (tb:=tb) J m j n q A h (hadv.below (VU λo F=>?_))⟩
 obtain⟨i,hi⟩:=List.getElem?_of_mem F
 have G:=(vJ.1 hi).1
 exact (I.ok i o _ hi (dD (by have:=I.len;omega))).1
end
end Go.Ay
