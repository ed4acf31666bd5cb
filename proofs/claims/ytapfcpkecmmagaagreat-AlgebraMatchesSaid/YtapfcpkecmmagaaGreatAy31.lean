/- What a law is given, as objects of the abstract machine. -/
import Derived.Test.YtapfcpkecmmagaaGreatAy24
import Derived.Test.YtapfcpkecmmagaaGreatAy26
import Derived.ChangeSlices
namespace Go.Ay
open Go Go.RowKit Go.WideShapes Go.ChangeShapes Go.ChangeAt
section
variable {os:List Ob} {ps:List (Nat×Nat×Nat)} {r:Reach} {b0:Nat} {e t:TypeId} {v:Value}
section
variable {P:Program} {W:World}
def Hr (ps:List (Nat×Nat×Nat)):M:=λid=>ps[id]?
theorem kU (ps a:List (Nat×Nat×Nat)):Ext (Hr ps) (Hr (ps++a)):=λid p h=>by
 simp only[Hr] at*;rw[wE (xI.1 h).1];exact h
structure Ins (P:Program)(W:World)(os:List Ob)(ps:List (Nat×Nat×Nat)):Prop where
 len:os.length=ps.length
 ok: ∀(i:Nat) (o:Ob) (p:Nat×Nat×Nat),os[i]? =some o->ps[i]? =some p->o.rw=false/\OR P (Hr ps) o p W
theorem Ins.nil:Ins P W [] []:=⟨rfl,λi o p h=>by simp at h⟩
theorem Ins.push (I:Ins P W os ps){vs:List V}{p:Nat×Nat×Nat}(h:OR P (Hr ps) (.cells true vs) p W):Ins P W (os++ [.cells true vs]) (ps++ [p]):=by
 refine⟨by rw[iZ,iZ,I.len];rfl,λi o q a b=>?_⟩
 by_cases hi:i<os.length
 ·rw[wE hi] at a
  rw[wE (by rw[←I.len];exact hi)] at b;obtain⟨c,d⟩:=I.ok i o q a b;exact⟨c,d.mono (kU _ _) rfl⟩
 ·rw[Cq om] at a
  rw[Cq (by have:=I.len;omega)] at b
  have c:i-os.length=0:=by
   have:=(xI.1 a).1;simp at this;omega
  rw[c] at a;rw[←I.len,c] at b;simp only[List.getElem?_cons_zero,Option.some.injEq] at a b;subst a;subst b;exact⟨rfl,h.mono (kU _ _) rfl⟩
theorem Ins.fr (os b:List Ob):Fr (Go.Ay.H.iT os) (Go.Ay.H.iT (os++b)):=by
 refine⟨by rw[kB,kB,iZ];omega,λid a=>?_⟩;rw[kB] at a;rw[kG,kG,wE a]
theorem Uy {a:TypeId->Bool}: ∀(d:Nat) (e:TypeId) (count off n:Nat),rowAt P a d e count off n=true->off<=count*P.cellsOf e
 |0,_,_,_,_,h=>by simp [rowAt] at h
 |d+1,e,count,off,n,h=>by
  simp only[rowAt] at h;split at h
  ·cases h
  ·rename_i i
   have b:=Nat.div_add_mod off (P.cellsOf e);rw[Bool.or_eq_true] at h;rcases h with h|h
   ·simp only[pF,beq_iff_eq,decide_eq_true_eq] at h
    obtain⟨⟨c,g⟩,_⟩:=h;have:off/P.cellsOf e*P.cellsOf e<=count*P.cellsOf e:=Nat.mul_le_mul_right _ om;rw[Nat.mul_comm] at b;omega
   ·rw[pF,decide_eq_true_eq] at h
    have c:=h.1;have f:off%P.cellsOf e<P.cellsOf e:=Nat.mod_lt _ om;have:(off/P.cellsOf e+1)*P.cellsOf e<=count*P.cellsOf e:=Nat.mul_le_mul_right _ om;rw[Nat.add_mul,Nat.one_mul,Nat.mul_comm (off/P.cellsOf e)] at this;omega
theorem Ex: ∀(d:Nat) (e:TypeId) (count off:Nat) (u:TypeId) (n:Nat),liesAt P d e count off u n=true->off<=count*P.cellsOf e
 |0,_,_,_,_,_,h=>by simp [liesAt] at h
 |d+1,e,count,off,u,n,h=>by
  simp only[liesAt,Bool.or_eq_true] at h;rcases h with h|h
  ·exact Uy _ _ _ _ _ h
  ·split at h
   ·exact Ex d e count off _ _ h
   ·cases h
theorem Qo {a:Addr}{n:Nat}(h:W.has P r b0 a e n):a.spot=none/\ ∃c el fr,W.heap[a.block]? =some (.cells c el fr)/\a.off<=c.size:=by
 obtain⟨_,g,row,cells,b,f⟩:=h;refine⟨g,?_⟩;unfold World.shape? at b;split at b
 ·rename_i c el fr d
  simp only[Option.some.injEq,Prod.mk.injEq] at b;obtain⟨rfl,rfl⟩:=b;refine⟨c,el,fr,d,?_⟩;exact jK (Ex _ _ _ _ _ _ f) (Nat.div_mul_le_self ..)
 ·cases b
variable {Hh:Type} {enc:TypeId×Value->Hh} {base:Nat} {held:Bool}
theorem BL {p:Nat}{x:DataW Hh×List MemPlace}(B:P.underlying t=some (.slice e))(R:P.underlying e=some (.int .i64))(L:P.cellsOf e=1)
  (o:Cell.ok P W r b0 t v) (J:DataW.trod enc P W base (λ_=>true) held p t [v]=some x)   (I:Ins P W os ps):
  ∃os' ps' u l,Ins P W (os++os') (ps++ps')/\VR (Hr (ps++ps')) u v/\SI (Go.Ay.H.iT (os++os')) u l/\(l.length:Int)<=2^63- 1/\(∀z∈l, -9223372036854775808<=z/\z<9223372036854775808):=by
 rcases open_ints B R L J with ⟨s,K⟩|⟨a,len,d,j,s,K,N,K,G,K,O,Q⟩
 ·simp only[List.cons.injEq,and_true] at s
  subst s
  exact⟨[], [],.aD, [],by simpa using I,rfl,SI.aD _,by simp,by simp⟩
 ·simp only[List.cons.injEq,and_true] at s
  subst s
  simp only[if_true] at G
  have n:len<=d/\(d:Int)<=IntKind.i64.max/\W.has P r b0 a e d:=by
   simpa only[Cell.ok,B] using o
  obtain⟨q,c,el,fr,b,m⟩:=Qo n.2.2
  obtain⟨ab,y,s⟩:=a
  simp only at q b m
  subst q
  have f: ∀i,i<j.length->c[y+i]? =some (.int .i64 (j.getD i 0)):=λi hi=>by
   have:=O i hi;unfold World.cell? at this;unfold Addr.add at this
   by_cases F:i=0
   ·subst F
    simp only[if_true,b,Option.isSome_none,Bool.false_eq_true,if_false] at this;exact this
   ·simp only[F,if_false,b,Option.isSome_none,Bool.false_eq_true] at this
    exact this
  have A:y+len<=c.size:=by
   cases len with
   |zero=>exact m
   |succ k=>
    have:=(Er.1 (f k om)).1;omega
  have g:(j.take len).length=len:=by rw[xF];omega
  have U: ∀z∈j.take len, -9223372036854775808<=z/\z<9223372036854775808:=λz a=>by
   have:=Q z (List.mem_of_mem_take a);simp only[Lit.wf] at this;have m:IntKind.i64.min= -9223372036854775808:=by decide
   have a:IntKind.i64.max=9223372036854775807:=by decide
   simp [m,a] at this;omega
  have m:(d:Int)<=2^63- 1:=by
   have a:IntKind.i64.max=9223372036854775807:=by decide
   have:=n.2.1;rw[a] at this;omega
  refine⟨[.cells true (ints (j.take len))], [(ab,y,c.size)],.sl os.length 0 len (.kn d),j.take len,I.push ⟨c,el,fr,b,rfl,by rw[aL,g];exact A,λi v w=>?_,λh=>by cases h⟩,⟨(ab,y,c.size),d,0,?_,?_,N,λ_=>rfl,rfl,rfl⟩,?_,by rw[g];omega,U⟩
  ·have hi:=(xI.1 w).1
   rw[aL,g] at hi
   rw[wH (by rw[g];exact hi)] at w
   simp only[Option.some.injEq] at w
   subst w
   refine⟨rfl,_,f i om,?_⟩
   have:(j.take len).getD i 0=j.getD i 0:=by
    rw[zB,List.getElem?_take_of_lt hi,←zB]
   rw[this];rfl
  ·simp only[Hr]
   rw[I.len,Cq (eS _),Nat.sub_self];rfl
  ·rfl
  ·have:=SI.own (h:=Go.Ay.H.iT (os++ [.cells true (ints (j.take len))])) (id:=os.length) (ro:=true) (l:=j.take len) (by rw[kB,iZ];simp) (by rw[kG,Cq (eS _),Nat.sub_self];rfl) (.kn d)
   rw[g] at this
   exact this
theorem Bq {d:DataW Hh}{q:List MemPlace}(c:P.underlying t=some (.slice e))(j:P.underlying e=some (.int .i64))(i:P.cellsOf e=1)
  (a:Value.okWide P W r b0 t v) (b:DataW.Trod enc P W base (λ_=>true) held t v d q)   (I:Ins P W os ps):
  ∃os' ps' u l,Ins P W (os++os') (ps++ps')/\VR (Hr (ps++ps')) u v/\SI (Go.Ay.H.iT (os++os')) u l/\(l.length:Int)<=2^63- 1/\(∀z∈l, -9223372036854775808<=z/\z<9223372036854775808):=by
 obtain⟨g,b⟩:=b
 have h:Cell.ok P W r b0 t v:=by
  simp only[Value.okWide,c] at a;simpa only[Cell.okWide,c] using a
 have f:v.cells.toList= [v]:=by
  have:Cell.ok P W r b0 t v:=h;simp only[Cell.ok,c] at this;cases v<;>first|rfl|exact this.elim
 rw[f] at b
 exact BL c j i h b I
theorem GD {d:DataW Hh}{q:List MemPlace}(g:P.underlying t=some (.int .i64))
  (a:Value.okWide P W r b0 t v) (f:DataW.Trod enc P W base (λ_=>true) held t v d q):
  ∃n,v= .int .i64 n/\(-9223372036854775808<=n/\n<9223372036854775808):=by
 obtain⟨n,c,_,_,b⟩:=open_int g a f
 refine⟨n,c,?_⟩
 simp only[Lit.wf] at b
 have h:IntKind.i64.min= -9223372036854775808:=by decide
 have c:IntKind.i64.max=9223372036854775807:=by decide
 simp [h,c] at b
 omega
theorem Rf {C:Checked}{T:Nat->Option Fn}{g:Nat}{f:Func}{vs:List V}{s:ChangeSpec}{args:Array Value}{ds gs:List (DataW Hh)}{c:List MemPlace}{tb:TypeId}{a fresh b h:Bool}
  (u:C.prog.follows .mixedOrders=true) (y:Xr C.prog T) (z:laidOutB C.prog=true)
  (l:Ev T g vs (Go.Ay.H.iT os) (λv _=>v= .bool true)) (I:Ins C.prog W os ps) (p:fP (Hr ps) vs args.toList)
  (j:s.vars= []) (k:f.params.toList.all (λt=>C.prog.readableRec t&&decide (t<C.prog.types.size))=true)
  (n:f.resultTypes= #[tb]) (m:C.prog.underlying tb=some .bool)
  (A:DataW.Whole enc C.prog f.params.toList s.vars a W args.toList ds gs c)
  (d:(s.fn Hh (ds++gs))={results:= [.lit (.bool true)],args:=ds}):
  Calls C.prog g args W λe W'=> ∃v,e= .returned v/\s.post enc C.prog f a fresh b h W args v W':=by
 obtain⟨N,i,i,i,o,rfl⟩:=l
 obtain⟨q,i⟩:=Ve (P:=C.prog) (w:=W) I.len I.ok
 refine (yP u y o (xs:=args) p q i).mono λe W' ⟨x,m',o,p,hadv⟩=>?_
 have:x= .bool true:=p
 subst this
 refine⟨_,o,Yr (tb:=tb) z j k n m A d (hadv.below (Uq λo q=>?_))⟩
 obtain⟨i,hi⟩:=List.getElem?_of_mem q
 have q:=(xI.1 hi).1
 exact (I.ok i o _ hi (eV (by have:=I.len;omega))).1
end
end
end Go.Ay
