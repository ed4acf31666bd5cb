/- What a law is given, as objects of the abstract machine. -/
import Derived.Test.YtcdbmkidaecdiaaGreatAy24
import Derived.Test.YtcdbmkidaecdiaaGreatAy26
import Derived.ChangeSlices
namespace Go.Ay
open Go Go.RowKit Go.WideShapes Go.ChangeShapes Go.ChangeAt
section
variable {os:List Ob} {ps:List (Nat×Nat×Nat)} {r:Reach} {b0:Nat} {e:TypeId}
section
variable {P:Program} {W:World}
def mOf (ps:List (Nat×Nat×Nat)):M:=λid=>ps[id]?
theorem Hp (ps a:List (Nat×Nat×Nat)):Ext (mOf ps) (mOf (ps++a)):=λid p h=>by
 simp only[mOf] at*;rw[Dt (vJ.1 h).1];exact h
structure Ins (P:Program)(W:World)(os:List Ob)(ps:List (Nat×Nat×Nat)):Prop where
 len:os.length=ps.length
 ok: ∀(i:Nat) (o:Ob) (p:Nat×Nat×Nat),os[i]? =some o->ps[i]? =some p->o.rw=false/\OR P (mOf ps) o p W
theorem Ins.nil:Ins P W [] []:=⟨rfl,λi o p h=>by simp at h⟩
theorem Ins.push (I:Ins P W os ps){vs:List V}{p:Nat×Nat×Nat}(h:OR P (mOf ps) (.cells true vs) p W):Ins P W (os++ [.cells true vs]) (ps++ [p]):=by
 refine⟨by rw[iV,iV,I.len];rfl,λi o q a b=>?_⟩
 by_cases hi:i<os.length
 ·rw[Dt hi] at a
  rw[Dt (by rw[←I.len];exact hi)] at b;obtain⟨d,f⟩:=I.ok i o q a b;exact⟨d,f.mono (Hp _ _) rfl⟩
 ·rw[Jg om] at a
  rw[Jg (by have:=I.len;omega)] at b
  have c:i-os.length=0:=by
   have:=(vJ.1 a).1;simp at this;omega
  rw[c] at a;rw[←I.len,c] at b;simp only[List.getElem?_cons_zero,Option.some.injEq] at a b;subst a;subst b;exact⟨rfl,h.mono (Hp _ _) rfl⟩
theorem Ins.fr (os b:List Ob):Fr (Go.Ay.H.yH os) (Go.Ay.H.yH (os++b)):=by
 refine⟨by rw[uT,uT,iV];omega,λid a=>?_⟩;rw[uT] at a;rw[tV,tV,Dt a]
theorem RO {a:TypeId->Bool}: ∀(d:Nat) (e:TypeId) (count off n:Nat),rowAt P a d e count off n=true->off<=count*P.cellsOf e
 |0,_,_,_,_,h=>by simp [rowAt] at h
 |d+1,e,count,off,n,h=>by
  simp only[rowAt] at h;split at h
  ·cases h
  ·rename_i f
   have b:=Nat.div_add_mod off (P.cellsOf e);rw[Bool.or_eq_true] at h;rcases h with h|h
   ·simp only[sE,beq_iff_eq,decide_eq_true_eq] at h
    obtain⟨⟨c,j⟩,_⟩:=h;have:off/P.cellsOf e*P.cellsOf e<=count*P.cellsOf e:=Nat.mul_le_mul_right _ om;rw[Nat.mul_comm] at b;omega
   ·rw[sE,decide_eq_true_eq] at h
    have c:=h.1;have i:off%P.cellsOf e<P.cellsOf e:=Nat.mod_lt _ om;have:(off/P.cellsOf e+1)*P.cellsOf e<=count*P.cellsOf e:=Nat.mul_le_mul_right _ om;rw[Nat.add_mul,Nat.one_mul,Nat.mul_comm (off/P.cellsOf e)] at this;omega
theorem Sr: ∀(d:Nat) (e:TypeId) (count off:Nat) (u:TypeId) (n:Nat),liesAt P d e count off u n=true->off<=count*P.cellsOf e
 |0,_,_,_,_,_,h=>by simp [liesAt] at h
 |d+1,e,count,off,u,n,h=>by
  simp only[liesAt,Bool.or_eq_true] at h;rcases h with h|h
  ·exact RO _ _ _ _ _ h
  ·split at h
   ·exact Sr d e count off _ _ h
   ·cases h
theorem LU {a:Addr}{n:Nat}(h:W.has P r b0 a e n):a.spot=none/\ ∃c el fr,W.heap[a.block]? =some (.cells c el fr)/\a.off<=c.size:=by
 obtain⟨_,d,row,cells,b,i⟩:=h;refine⟨d,?_⟩;unfold World.shape? at b;split at b
 ·rename_i c el fr f
  simp only[Option.some.injEq,Prod.mk.injEq] at b;obtain⟨rfl,rfl⟩:=b;refine⟨c,el,fr,f,?_⟩;exact mY (Sr _ _ _ _ _ _ i) (Nat.div_mul_le_self ..)
 ·cases b
variable {Hh:Type} {enc:TypeId×Value->Hh} {base:Nat} {held:Bool}
theorem adC {t:TypeId}{v:Value}{q:Nat}{x:DataW Hh×List MemPlace}(G:P.underlying t=some (.slice e))(L:P.underlying e=some (.int .i64))(Q:P.cellsOf e=1)
  (p:Cell.ok P W r b0 t v) (R:DataW.trod enc P W base (λ_=>true) held q t [v]=some x)   (I:Ins P W os ps):
  ∃os' ps' u l,Ins P W (os++os') (ps++ps')/\VR (mOf (ps++ps')) u v/\SI (Go.Ay.H.yH (os++os')) u l/\(l.length:Int)<=2^63- 1/\(∀z∈l, -9223372036854775808<=z/\z<9223372036854775808):=by
 rcases open_ints G L Q R with ⟨o,Z⟩|⟨a,len,d,m,o,Z,h3,h4,h5,h6,U,N⟩
 ·simp only[List.cons.injEq,and_true] at o
  subst o
  exact⟨[], [],.aD, [],by simpa using I,rfl,SI.aD _,by simp,by simp⟩
 ·simp only[List.cons.injEq,and_true] at o
  subst o
  simp only[if_true] at h5
  have w:len<=d/\(d:Int)<=IntKind.i64.max/\W.has P r b0 a e d:=by
   simpa only[Cell.ok,G] using p
  obtain⟨s,c,el,fr,b,n⟩:=LU w.2.2
  obtain⟨ab,y,a0⟩:=a
  simp only at s b n
  subst s
  have f: ∀i,i<m.length->c[y+i]? =some (.int .i64 (m.getD i 0)):=λi hi=>by
   have:=U i hi;unfold World.cell? at this;unfold Addr.add at this
   by_cases J:i=0
   ·subst J
    simp only[if_true,b,Option.isSome_none,Bool.false_eq_true,if_false] at this;exact this
   ·simp only[J,if_false,b,Option.isSome_none,Bool.false_eq_true] at this
    exact this
  have F:y+len<=c.size:=by
   cases len with
   |zero=>exact n
   |succ k=>
    have:=(HF.1 (f k om)).1;omega
  have j:(m.take len).length=len:=by rw[zO];omega
  have O: ∀z∈m.take len, -9223372036854775808<=z/\z<9223372036854775808:=λz Y=>by
   have:=N z (List.mem_of_mem_take Y);simp only[Lit.wf] at this;have e1:IntKind.i64.min= -9223372036854775808:=by decide
   have B:IntKind.i64.max=9223372036854775807:=by decide
   simp [e1,B] at this;omega
  have K:(d:Int)<=2^63- 1:=by
   have B:IntKind.i64.max=9223372036854775807:=by decide
   have:=w.2.1;rw[B] at this;omega
  refine⟨[.cells true (ints (m.take len))], [(ab,y,c.size)],.sl os.length 0 len (.kn d),m.take len,I.push ⟨c,el,fr,b,rfl,by rw[aP,j];exact F,λi v A=>?_,λh=>by cases h⟩,⟨(ab,y,c.size),d,0,?_,?_,h3,λ_=>rfl,rfl,rfl⟩,?_,by rw[j];omega,O⟩
  ·have hi:=(vJ.1 A).1
   rw[aP,j] at hi
   rw[Sg (by rw[j];exact hi)] at A
   simp only[Option.some.injEq] at A
   subst A
   refine⟨rfl,_,f i om,?_⟩
   have:(m.take len).getD i 0=m.getD i 0:=by
    rw[OU,List.getElem?_take_of_lt hi,←OU]
   rw[this];rfl
  ·simp only[mOf]
   rw[I.len,Jg (fN _),Nat.sub_self];rfl
  ·rfl
  ·have:=SI.own (h:=Go.Ay.H.yH (os++ [.cells true (ints (m.take len))])) (id:=os.length) (ro:=true) (l:=m.take len) (by rw[uT,iV];simp) (by rw[tV,Jg (fN _),Nat.sub_self];rfl) (.kn d)
   rw[j] at this
   exact this
theorem Pf {t:TypeId}{v:Value}{d:DataW Hh}{q:List MemPlace}(c:P.underlying t=some (.slice e))(j:P.underlying e=some (.int .i64))(k:P.cellsOf e=1)
  (a:Value.okWide P W r b0 t v) (b:DataW.Trod enc P W base (λ_=>true) held t v d q)   (I:Ins P W os ps):
  ∃os' ps' u l,Ins P W (os++os') (ps++ps')/\VR (mOf (ps++ps')) u v/\SI (Go.Ay.H.yH (os++os')) u l/\(l.length:Int)<=2^63- 1/\(∀z∈l, -9223372036854775808<=z/\z<9223372036854775808):=by
 obtain⟨h,b⟩:=b
 have i:Cell.ok P W r b0 t v:=by
  simp only[Value.okWide,c] at a;simpa only[Cell.okWide,c] using a
 have f:v.cells.toList= [v]:=by
  have:Cell.ok P W r b0 t v:=i;simp only[Cell.ok,c] at this;cases v<;>first|rfl|exact this.elim
 rw[f] at b
 exact adC c j k i b I
theorem MH {C:Checked}{T:Nat->Option Fn}{g:Nat}{f:Func}{vs:List V}{s:ChangeSpec}{args:Array Value}{ds y:List (DataW Hh)}{c:List MemPlace}{tb:TypeId}{b fresh a d:Bool}
  (F:C.prog.follows .mixedOrders=true) (B:POk C.prog T) (G:laidOutB C.prog=true)
  (n:Ev T g vs (Go.Ay.H.yH os) (λv _=>v= .bool true)) (I:Ins C.prog W os ps) (u:iR (mOf ps) vs args.toList)
  (l:s.vars= []) (k:f.params.toList.all (λt=>C.prog.readableRec t&&decide (t<C.prog.types.size))=true)
  (p:f.resultTypes= #[tb]) (q:C.prog.underlying tb=some .bool)
  (z:DataW.Whole enc C.prog f.params.toList s.vars b W args.toList ds y c)
  (h:(s.fn Hh (ds++y))={results:= [.lit (.bool true)],args:=ds}):
  Calls C.prog g args W λe W'=> ∃v,e= .returned v/\s.post enc C.prog f b fresh a d W args v W':=by
 obtain⟨N,O,L,j,rfl⟩:=n
 have j:=j N (fN N)
 obtain⟨K,m⟩:=SK (P:=C.prog) (w:=W) I.len I.ok
 refine (BG F B j (xs:=args) u K m).mono λe W' ⟨x,m',j,u,hadv⟩=>?_
 have:x= .bool true:=u
 subst this
 refine⟨_,j,XX (tb:=tb) G l k p q z h (hadv.below (VU λo A=>?_))⟩
 obtain⟨i,hi⟩:=List.getElem?_of_mem A
 have J:=(vJ.1 hi).1
 exact (I.ok i o _ hi (dD (by have:=I.len;omega))).1
end
end
end Go.Ay
