/- What a law is given, as objects of the abstract machine. -/
import Derived.Test.YtcdbmkidaecdiaaGreatAy24
import Derived.Test.YtcdbmkidaecdiaaGreatAy26
import Derived.ChangeSlices
namespace Go.Ay
open Go Go.RowKit Go.WideShapes Go.ChangeShapes Go.ChangeAt
section
variable {P:Program} {W:World}
def BS (ps:List (Nat×Nat×Nat)):M:=λid=>ps[id]?
theorem Gh (ps a:List (Nat×Nat×Nat)):Ext (BS ps) (BS (ps++a)):=λid p h=>by
 simp only[BS] at*;rw[Ej (zG.1 h).1];exact h
structure Ins (P:Program)(W:World)(os:List Ob)(ps:List (Nat×Nat×Nat)):Prop where
 len:os.length=ps.length
 ok: ∀(i:Nat) (o:Ob) (p:Nat×Nat×Nat),os[i]? =some o->ps[i]? =some p->o.rw=false/\OR P (BS ps) o p W
theorem Ins.nil:Ins P W [] []:=⟨rfl,λi o p h=>by simp at h⟩
theorem Ins.push {c:List Ob}{ps:List (Nat×Nat×Nat)}(I:Ins P W c ps){vs:List V}{p:Nat×Nat×Nat}(h:OR P (BS ps) (.cells true vs) p W):Ins P W (c++ [.cells true vs]) (ps++ [p]):=by
 refine⟨by rw[iA,iA,I.len];rfl,λi o q a b=>?_⟩
 by_cases hi:i<c.length
 ·rw[Ej hi] at a
  rw[Ej (by rw[←I.len];exact hi)] at b;obtain⟨e,f⟩:=I.ok i o q a b;exact⟨e,f.mono (Gh _ _) rfl⟩
 ·rw[Eb om] at a
  rw[Eb (by have:=I.len;omega)] at b
  have d:i-c.length=0:=by
   have:=(zG.1 a).1;simp at this;omega
  rw[d] at a;rw[←I.len,d] at b;simp only[List.getElem?_cons_zero,Option.some.injEq] at a b;subst a;subst b;exact⟨rfl,h.mono (Gh _ _) rfl⟩
theorem Ins.fr (c b:List Ob):Fr (Go.Ay.H.mE c) (Go.Ay.H.mE (c++b)):=by
 refine⟨by rw[pW,pW,iA];omega,λid a=>?_⟩;rw[pW] at a;rw[qC,qC,Ej a]
variable {Hh:Type} {enc:TypeId×Value->Hh} {base:Nat} {held:Bool}
theorem MV {C:Checked}{y:List Ob}{ps:List (Nat×Nat×Nat)}{T:Nat->Option Fn}{g:Nat}{f:Func}{vs:List V}{s:ChangeSpec}{args:Array Value}{ds u:List (DataW Hh)}{c:List MemPlace}{tb:TypeId}{b fresh a d:Bool}
  (A:C.prog.follows .mixedOrders=true) (G:POk C.prog T) (z:laidOutB C.prog=true)
  (r:Ev T g vs (Go.Ay.H.mE y) (λv _=>v= .bool true)) (I:Ins C.prog W y ps) (n:gJ (BS ps) vs args.toList)
  (l:s.vars= []) (k:f.params.toList.all (λt=>C.prog.readableRec t&&decide (t<C.prog.types.size))=true)
  (q:f.resultTypes= #[tb]) (p:C.prog.underlying tb=some .bool)
  (J:DataW.Whole enc C.prog f.params.toList s.vars b W args.toList ds u c)
  (h:(s.fn Hh (ds++u))={results:= [.lit (.bool true)],args:=ds}):
  Calls C.prog g args W λe W'=> ∃v,e= .returned v/\s.post enc C.prog f b fresh a d W args v W':=by
 obtain⟨N,Q,L,O,m,rfl⟩:=r
 obtain⟨K,j⟩:=XE (P:=C.prog) (w:=W) I.len I.ok
 refine (Kq A G m (xs:=args) n K j).mono λe W' ⟨x,m',m,n,hadv⟩=>?_
 have:x= .bool true:=n
 subst this
 refine⟨_,m,TR (tb:=tb) z l k q p J h (hadv.below (SF λo B=>?_))⟩
 obtain⟨i,hi⟩:=List.getElem?_of_mem B
 have F:=(zG.1 hi).1
 exact (I.ok i o _ hi (dF (by have:=I.len;omega))).1
end
end Go.Ay
