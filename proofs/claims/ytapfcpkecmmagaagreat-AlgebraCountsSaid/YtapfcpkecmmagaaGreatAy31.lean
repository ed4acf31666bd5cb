/- What a law is given, as objects of the abstract machine. -/
import Derived.Test.YtapfcpkecmmagaaGreatAy24
import Derived.Test.YtapfcpkecmmagaaGreatAy26
import Derived.ChangeSlices
namespace Go.Ay
open Go Go.RowKit Go.WideShapes Go.ChangeShapes Go.ChangeAt
section
variable {P:Program} {W:World}
def Ku (ps:List (Nat×Nat×Nat)):M:=λid=>ps[id]?
theorem uQ (a b:List (Nat×Nat×Nat)):Ext (Ku a) (Ku (a++b)):=λid p h=>by
 simp only[Ku] at*;rw[vY (xQ.1 h).1];exact h
structure Ins (P:Program)(W:World)(os:List Ob)(ps:List (Nat×Nat×Nat)):Prop where
 len:os.length=ps.length
 ok: ∀(i:Nat) (o:Ob) (p:Nat×Nat×Nat),os[i]? =some o->ps[i]? =some p->o.rw=false/\OR P (Ku ps) o p W
theorem Ins.nil:Ins P W [] []:=⟨rfl,λi o p h=>by simp at h⟩
theorem Ins.push {c:List Ob}{d:List (Nat×Nat×Nat)}(I:Ins P W c d){vs:List V}{p:Nat×Nat×Nat}(h:OR P (Ku d) (.cells true vs) p W):Ins P W (c++ [.cells true vs]) (d++ [p]):=by
 refine⟨by rw[jD,jD,I.len];rfl,λi o q a b=>?_⟩
 by_cases hi:i<c.length
 ·rw[vY hi] at a
  rw[vY (by rw[←I.len];exact hi)] at b;obtain⟨e,f⟩:=I.ok i o q a b;exact⟨e,f.mono (uQ _ _) rfl⟩
 ·rw[Dw om] at a
  rw[Dw (by have:=I.len;omega)] at b
  have e:i-c.length=0:=by
   have:=(xQ.1 a).1;simp at this;omega
  rw[e] at a;rw[←I.len,e] at b;simp only[List.getElem?_cons_zero,Option.some.injEq] at a b;subst a;subst b;exact⟨rfl,h.mono (uQ _ _) rfl⟩
theorem Ins.fr (c b:List Ob):Fr (Go.Ay.H.jP c) (Go.Ay.H.jP (c++b)):=by
 refine⟨by rw[lB,lB,jD];omega,λid a=>?_⟩;rw[lB] at a;rw[kZ,kZ,vY a]
variable {Hh:Type} {enc:TypeId×Value->Hh} {base:Nat} {held:Bool}
theorem DA {t:TypeId}{r:Reach}{c:Nat}{v:Value}{d:DataW Hh}{q:List MemPlace}(f:P.underlying t=some (.int .i64))
  (a:Value.okWide P W r c t v) (g:DataW.Trod enc P W base (λ_=>true) held t v d q):
  ∃n,v= .int .i64 n/\(-9223372036854775808<=n/\n<9223372036854775808):=by
 obtain⟨n,e,_,_,b⟩:=open_int f a g
 refine⟨n,e,?_⟩
 simp only[Lit.wf] at b
 have h:IntKind.i64.min= -9223372036854775808:=by decide
 have e:IntKind.i64.max=9223372036854775807:=by decide
 simp [h,e] at b
 omega
theorem Ry {C:Checked}{r:List Ob}{u:List (Nat×Nat×Nat)}{T:Nat->Option Fn}{g:Nat}{f:Func}{vs:List V}{s:ChangeSpec}{args:Array Value}{ds gs:List (DataW Hh)}{c:List MemPlace}{tb:TypeId}{b fresh a h:Bool}
  (B:C.prog.follows .mixedOrders=true) (A:Wk C.prog T) (z:laidOutB C.prog=true)
  (p:Ev T g vs (Go.Ay.H.jP r) (λv _=>v= .bool true)) (I:Ins C.prog W r u) (q:fL (Ku u) vs args.toList)
  (j:s.vars= []) (k:f.params.toList.all (λt=>C.prog.readableRec t&&decide (t<C.prog.types.size))=true)
  (l:f.resultTypes= #[tb]) (n:C.prog.underlying tb=some .bool)
  (y:DataW.Whole enc C.prog f.params.toList s.vars b W args.toList ds gs c)
  (d:(s.fn Hh (ds++gs))={results:= [.lit (.bool true)],args:=ds}):
  Calls C.prog g args W λe W'=> ∃v,e= .returned v/\s.post enc C.prog f b fresh a h W args v W':=by
 obtain⟨N,i,i,i,m,rfl⟩:=p
 obtain⟨o,i⟩:=Xa (P:=C.prog) (w:=W) I.len I.ok
 refine (yL B A m (xs:=args) q o i).mono λe W' ⟨x,m',m,q,hadv⟩=>?_
 have:x= .bool true:=q
 subst this
 refine⟨_,m,Un (tb:=tb) z j k l n y d (hadv.below (Ud λo m=>?_))⟩
 obtain⟨i,hi⟩:=List.getElem?_of_mem m
 have m:=(xQ.1 hi).1
 exact (I.ok i o _ hi (eX (by have:=I.len;omega))).1
end
end Go.Ay
