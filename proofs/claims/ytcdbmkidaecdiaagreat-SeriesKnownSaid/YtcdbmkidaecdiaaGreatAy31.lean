/- What a law is given, as objects of the abstract machine. -/
import Derived.Test.YtcdbmkidaecdiaaGreatAy24
import Derived.Test.YtcdbmkidaecdiaaGreatAy26
import Derived.ChangeSlices
namespace Go.Ay
open Go Go.RowKit Go.WideShapes Go.ChangeShapes Go.ChangeAt
section
variable {P:Program} {W:World}
def mOf (ps:List (Nat×Nat×Nat)):M:=λid=>ps[id]?
theorem HL (ps a:List (Nat×Nat×Nat)):Ext (mOf ps) (mOf (ps++a)):=λid p h=>by
 simp only[mOf] at*;rw[Dv (Ax.1 h).1];exact h
structure Ins (P:Program)(W:World)(os:List Ob)(ps:List (Nat×Nat×Nat)):Prop where
 len:os.length=ps.length
 ok: ∀(i:Nat) (o:Ob) (p:Nat×Nat×Nat),os[i]? =some o->ps[i]? =some p->o.rw=false/\OR P (mOf ps) o p W
theorem Ins.nil:Ins P W [] []:=⟨rfl,λi o p h=>by simp at h⟩
theorem Ins.push {c:List Ob}{ps:List (Nat×Nat×Nat)}(I:Ins P W c ps){vs:List V}{p:Nat×Nat×Nat}(h:OR P (mOf ps) (.cells true vs) p W):Ins P W (c++ [.cells true vs]) (ps++ [p]):=by
 refine⟨by rw[jZ,jZ,I.len];rfl,λi o q a b=>?_⟩
 by_cases hi:i<c.length
 ·rw[Dv hi] at a
  rw[Dv (by rw[←I.len];exact hi)] at b;obtain⟨f,e⟩:=I.ok i o q a b;exact⟨f,e.mono (HL _ _) rfl⟩
 ·rw[Kk om] at a
  rw[Kk (by have:=I.len;omega)] at b
  have d:i-c.length=0:=by
   have:=(Ax.1 a).1;simp at this;omega
  rw[d] at a;rw[←I.len,d] at b;simp only[List.getElem?_cons_zero,Option.some.injEq] at a b;subst a;subst b;exact⟨rfl,h.mono (HL _ _) rfl⟩
theorem Ins.fr (c b:List Ob):Fr (Go.Ay.H.Dp c) (Go.Ay.H.Dp (c++b)):=by
 refine⟨by rw[xU,xU,jZ];omega,λid a=>?_⟩;rw[xU] at a;rw[wY,wY,Dv a]
variable {Hh:Type} {enc:TypeId×Value->Hh} {base:Nat} {held:Bool}
theorem LM {C:Checked}{y:List Ob}{ps:List (Nat×Nat×Nat)}{T:Nat->Option Fn}{g:Nat}{f:Func}{vs:List V}{s:ChangeSpec}{args:Array Value}{ds u:List (DataW Hh)}{c:List MemPlace}{tb:TypeId}{a fresh b h:Bool}
  (G:C.prog.follows .mixedOrders=true) (A:POk C.prog T) (J:laidOutB C.prog=true)
  (n:Ev T g vs (Go.Ay.H.Dp y) (λv _=>v= .bool true)) (I:Ins C.prog W y ps) (r:gZ (mOf ps) vs args.toList)
  (k:s.vars= []) (j:f.params.toList.all (λt=>C.prog.readableRec t&&decide (t<C.prog.types.size))=true)
  (p:f.resultTypes= #[tb]) (q:C.prog.underlying tb=some .bool)
  (K:DataW.Whole enc C.prog f.params.toList s.vars a W args.toList ds u c)
  (d:(s.fn Hh (ds++u))={results:= [.lit (.bool true)],args:=ds}):
  Calls C.prog g args W λe W'=> ∃v,e= .returned v/\s.post enc C.prog f a fresh b h W args v W':=by
 obtain⟨N,L,Q,O,m,rfl⟩:=n
 obtain⟨F,l⟩:=WE (P:=C.prog) (w:=W) I.len I.ok
 refine (Kj G A m (xs:=args) r F l).mono λe W' ⟨x,m',m,r,hadv⟩=>?_
 have:x= .bool true:=r
 subst this
 refine⟨_,m,OL (tb:=tb) J k j p q K d (hadv.below (UH λo z=>?_))⟩
 obtain⟨i,hi⟩:=List.getElem?_of_mem z
 have B:=(Ax.1 hi).1
 exact (I.ok i o _ hi (dD (by have:=I.len;omega))).1
end
end Go.Ay
