/- What a law is given, as objects of the abstract machine. -/
import Derived.Test.YtcdbmkidaecdiaaGreatAy24
import Derived.Test.YtcdbmkidaecdiaaGreatAy26
import Derived.ChangeSlices
namespace Go.Ay
open Go Go.RowKit Go.WideShapes Go.ChangeShapes Go.ChangeAt
section
variable {os:List Ob} {ps:List (Nat×Nat×Nat)} {r:Reach} {b0:Nat} {e:TypeId}
section
variable {P:Program} {W:World}
def mOf (ps:List (Nat×Nat×Nat)):M:=λid=>ps[id]?
theorem HL (ps a:List (Nat×Nat×Nat)):Ext (mOf ps) (mOf (ps++a)):=λid p h=>by
 simp only[mOf] at*;rw[Dv (Ax.1 h).1];exact h
structure Ins (P:Program)(W:World)(os:List Ob)(ps:List (Nat×Nat×Nat)):Prop where
 len:os.length=ps.length
 ok: ∀(i:Nat) (o:Ob) (p:Nat×Nat×Nat),os[i]? =some o->ps[i]? =some p->o.rw=false/\OR P (mOf ps) o p W
theorem Ins.nil:Ins P W [] []:=⟨rfl,λi o p h=>by simp at h⟩
theorem Ins.push (I:Ins P W os ps){vs:List V}{p:Nat×Nat×Nat}(h:OR P (mOf ps) (.cells true vs) p W):Ins P W (os++ [.cells true vs]) (ps++ [p]):=by
 refine⟨by rw[jZ,jZ,I.len];rfl,λi o q a b=>?_⟩
 by_cases hi:i<os.length
 ·rw[Dv hi] at a
  rw[Dv (by rw[←I.len];exact hi)] at b;obtain⟨f,d⟩:=I.ok i o q a b;exact⟨f,d.mono (HL _ _) rfl⟩
 ·rw[Sj om] at a
  rw[Sj (by have:=I.len;omega)] at b
  have c:i-os.length=0:=by
   have:=(Ax.1 a).1;simp at this;omega
  rw[c] at a;rw[←I.len,c] at b;simp only[List.getElem?_cons_zero,Option.some.injEq] at a b;subst a;subst b;exact⟨rfl,h.mono (HL _ _) rfl⟩
theorem Ins.fr (os b:List Ob):Fr (Go.Ay.H.Dp os) (Go.Ay.H.Dp (os++b)):=by
 refine⟨by rw[xU,xU,jZ];omega,λid a=>?_⟩;rw[xU] at a;rw[wY,wY,Dv a]
theorem amE {a:TypeId->Bool}: ∀(d:Nat) (e:TypeId) (count off n:Nat),rowAt P a d e count off n=true->off<=count*P.cellsOf e
 |0,_,_,_,_,h=>by simp [rowAt] at h
 |d+1,e,count,off,n,h=>by
  simp only[rowAt] at h;split at h
  ·cases h
  ·rename_i j
   have b:=Nat.div_add_mod off (P.cellsOf e);rw[Bool.or_eq_true] at h;rcases h with h|h
   ·simp only[vN,beq_iff_eq,decide_eq_true_eq] at h
    obtain⟨⟨c,i⟩,_⟩:=h;have:off/P.cellsOf e*P.cellsOf e<=count*P.cellsOf e:=Nat.mul_le_mul_right _ om;rw[Nat.mul_comm] at b;omega
   ·rw[vN,decide_eq_true_eq] at h
    have c:=h.1;have f:off%P.cellsOf e<P.cellsOf e:=Nat.mod_lt _ om;have:(off/P.cellsOf e+1)*P.cellsOf e<=count*P.cellsOf e:=Nat.mul_le_mul_right _ om;rw[Nat.add_mul,Nat.one_mul,Nat.mul_comm (off/P.cellsOf e)] at this;omega
theorem ajW: ∀(d:Nat) (e:TypeId) (count off:Nat) (u:TypeId) (n:Nat),liesAt P d e count off u n=true->off<=count*P.cellsOf e
 |0,_,_,_,_,_,h=>by simp [liesAt] at h
 |d+1,e,count,off,u,n,h=>by
  simp only[liesAt,Bool.or_eq_true] at h;rcases h with h|h
  ·exact amE _ _ _ _ _ h
  ·split at h
   ·exact ajW d e count off _ _ h
   ·cases h
theorem alV {a:Addr}{n:Nat}(h:W.has P r b0 a e n):a.spot=none/\ ∃c el fr,W.heap[a.block]? =some (.cells c el fr)/\a.off<=c.size:=by
 obtain⟨_,d,row,cells,b,f⟩:=h;refine⟨d,?_⟩;unfold World.shape? at b;split at b
 ·rename_i c el fr i
  simp only[Option.some.injEq,Prod.mk.injEq] at b;obtain⟨rfl,rfl⟩:=b;refine⟨c,el,fr,i,?_⟩;exact mT (ajW _ _ _ _ _ _ f) (Nat.div_mul_le_self ..)
 ·cases b
variable {Hh:Type} {enc:TypeId×Value->Hh} {base:Nat} {held:Bool}
theorem amW {t:TypeId}{v:Value}{o:Nat}{x:DataW Hh×List MemPlace}(J:P.underlying t=some (.slice e))(Z:P.underlying e=some (.int .i64))(hc:P.cellsOf e=1)
  (w:Cell.ok P W r b0 t v) (hd:DataW.trod enc P W base (λ_=>true) held o t [v]=some x)   (I:Ins P W os ps):
  ∃os' ps' u l,Ins P W (os++os') (ps++ps')/\VR (mOf (ps++ps')) u v/\SI (Go.Ay.H.Dp (os++os')) u l/\(l.length:Int)<=2^63- 1/\(∀z∈l, -9223372036854775808<=z/\z<9223372036854775808):=by
 rcases open_ints J Z hc hd with ⟨s,K⟩|⟨a,len,d,m,s,K,Q,h4,O,h6,U,Y⟩
 ·simp only[List.cons.injEq,and_true] at s
  subst s
  exact⟨[], [],.aE, [],by simpa using I,rfl,SI.aE _,by simp,by simp⟩
 ·simp only[List.cons.injEq,and_true] at s
  subst s
  simp only[if_true] at O
  have p:len<=d/\(d:Int)<=IntKind.i64.max/\W.has P r b0 a e d:=by
   simpa only[Cell.ok,J] using w
  obtain⟨q,c,el,fr,b,n⟩:=alV p.2.2
  obtain⟨ab,A,L⟩:=a
  simp only at q b n
  subst q
  have j: ∀i,i<m.length->c[A+i]? =some (.int .i64 (m.getD i 0)):=λi hi=>by
   have:=U i hi;unfold World.cell? at this;unfold Addr.add at this
   by_cases G:i=0
   ·subst G
    simp only[if_true,b,Option.isSome_none,Bool.false_eq_true,if_false] at this;exact this
   ·simp only[G,if_false,b,Option.isSome_none,Bool.false_eq_true] at this
    exact this
  have F:A+len<=c.size:=by
   cases len with
   |zero=>exact n
   |succ k=>
    have:=(AS.1 (j k om)).1;omega
  have f:(m.take len).length=len:=by rw[Fj];omega
  have hw: ∀z∈m.take len, -9223372036854775808<=z/\z<9223372036854775808:=λz N=>by
   have:=Y z (List.mem_of_mem_take N);simp only[Lit.wf] at this;have R:IntKind.i64.min= -9223372036854775808:=by decide
   have B:IntKind.i64.max=9223372036854775807:=by decide
   simp [R,B] at this;omega
  have a0:(d:Int)<=2^63- 1:=by
   have B:IntKind.i64.max=9223372036854775807:=by decide
   have:=p.2.1;rw[B] at this;omega
  refine⟨[.cells true (ints (m.take len))], [(ab,A,c.size)],.sl os.length 0 len (.kn d),m.take len,I.push ⟨c,el,fr,b,rfl,by rw[fT,f];exact F,λi v y=>?_,λh=>by cases h⟩,⟨(ab,A,c.size),d,0,?_,?_,Q,λ_=>rfl,rfl,rfl⟩,?_,by rw[f];omega,hw⟩
  ·have hi:=(Ax.1 y).1
   rw[fT,f] at hi
   rw[MH (by rw[f];exact hi)] at y
   simp only[Option.some.injEq] at y
   subst y
   refine⟨rfl,_,j i om,?_⟩
   have:(m.take len).getD i 0=m.getD i 0:=by
    rw[WN,List.getElem?_take_of_lt hi,←WN]
   rw[this];rfl
  ·simp only[mOf]
   rw[I.len,Sj (fM _),Nat.sub_self];rfl
  ·rfl
  ·have:=SI.own (h:=Go.Ay.H.Dp (os++ [.cells true (ints (m.take len))])) (id:=os.length) (ro:=true) (l:=m.take len) (by rw[xU,jZ];simp) (by rw[wY,Sj (fM _),Nat.sub_self];rfl) (.kn d)
   rw[f] at this
   exact this
theorem amK {t:TypeId}{v:Value}{d:DataW Hh}{q:List MemPlace}(c:P.underlying t=some (.slice e))(j:P.underlying e=some (.int .i64))(k:P.cellsOf e=1)
  (a:Value.okWide P W r b0 t v) (b:DataW.Trod enc P W base (λ_=>true) held t v d q)   (I:Ins P W os ps):
  ∃os' ps' u l,Ins P W (os++os') (ps++ps')/\VR (mOf (ps++ps')) u v/\SI (Go.Ay.H.Dp (os++os')) u l/\(l.length:Int)<=2^63- 1/\(∀z∈l, -9223372036854775808<=z/\z<9223372036854775808):=by
 obtain⟨i,b⟩:=b
 have h:Cell.ok P W r b0 t v:=by
  simp only[Value.okWide,c] at a;simpa only[Cell.okWide,c] using a
 have f:v.cells.toList= [v]:=by
  have:Cell.ok P W r b0 t v:=h;simp only[Cell.ok,c] at this;cases v<;>first|rfl|exact this.elim
 rw[f] at b
 exact amW c j k h b I
theorem amZ {C:Checked}{T:Nat->Option Fn}{g:Nat}{f:Func}{vs:List V}{s:ChangeSpec}{args:Array Value}{ds y:List (DataW Hh)}{c:List MemPlace}{tb:TypeId}{a fresh b d:Bool}
  (A:C.prog.follows .mixedOrders=true) (B:POk C.prog T) (z:laidOutB C.prog=true)
  (q:Ev T g vs (Go.Ay.H.Dp os) (λv _=>v= .bool true)) (I:Ins C.prog W os ps) (n:gZ (mOf ps) vs args.toList)
  (k:s.vars= []) (l:f.params.toList.all (λt=>C.prog.readableRec t&&decide (t<C.prog.types.size))=true)
  (p:f.resultTypes= #[tb]) (m:C.prog.underlying tb=some .bool)
  (F:DataW.Whole enc C.prog f.params.toList s.vars a W args.toList ds y c)
  (h:(s.fn Hh (ds++y))={results:= [.lit (.bool true)],args:=ds}):
  Calls C.prog g args W λe W'=> ∃v,e= .returned v/\s.post enc C.prog f a fresh b d W args v W':=by
 obtain⟨N,O,Q,L,u,rfl⟩:=q
 obtain⟨K,j⟩:=WE (P:=C.prog) (w:=W) I.len I.ok
 refine (aiV A B u (xs:=args) n K j).mono λe W' ⟨x,m',u,n,hadv⟩=>?_
 have:x= .bool true:=n
 subst this
 refine⟨_,u,OL (tb:=tb) z k l p m F h (hadv.below (UH λo J=>?_))⟩
 obtain⟨i,hi⟩:=List.getElem?_of_mem J
 have G:=(Ax.1 hi).1
 exact (I.ok i o _ hi (dD (by have:=I.len;omega))).1
end
end
end Go.Ay
