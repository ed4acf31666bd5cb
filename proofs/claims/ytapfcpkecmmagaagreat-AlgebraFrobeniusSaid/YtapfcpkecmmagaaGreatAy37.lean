/- Rows of cells that a function gives; permutations on the heap. -/
import Derived.Test.YtapfcpkecmmagaaGreatAy26
import Derived.Test.YtapfcpkecmmagaaGreatDp1
namespace Go.Ay
open Go
section
variable {N i:Nat} {g:Nat->V}
section
variable (ρ:X->V) (h:H)
theorem Qp (n sz:Nat)(x i:X):cI ρ h (.ixd n sz x i)=(Ju n sz (ρ x) (ρ i)).map (·,h):=rfl
theorem Lp {n sz id off:Nat}{k:IntKind}{z:Int}(h0:0<=z)(h1:z<(n:Int)):Ju n sz (.ptr id off) (.int k z)=some (.ptr id (off+z.toNat*sz)):=by
 simp only[Ju];rw[if_pos ⟨h0,h1⟩]
theorem Tl (x:X):cI ρ h (.cvs x)=(Nl h (ρ x)).map (·,h):=rfl
theorem Sg (t:Nat)(x:X):cI ρ h (.mif t x)=some (.ifc t (ρ x),h):=rfl
theorem Uc (sh:oF)(r:Option X):cI ρ h (.mkw sh r)=if uQ (r.map ρ)=true then some (.mp h.next,h.new (.wmap sh [])) else none:=rfl
theorem Bo:uQ none=true:=rfl
theorem Gc (k:IntKind)(n:Int):uQ (some (.int k n))=true:=rfl
def Su (x i:V):Option V:=match x,i with
 | .str l,.int _ z=>if 0<=z then (l[z.toNat]?).map (λ(c:Nat)=>V.int .u8 ((c%256:Nat):Int)) else none
 |_,_=>none
theorem Ht (x i:X):cI ρ h (.six x i)=(Su (ρ x) (ρ i)).map (·,h):=by
 simp only[cI,Su];cases ρ x<;>cases ρ i<;>try rfl
 simp only;split
 ·simp only[Option.map_map];rfl
 ·rfl
theorem Kj (k:IntKind)(a b:Int):arith .and k a b=some (.int k (k.wrap (BitVec.ofInt k.bits a&&&BitVec.ofInt k.bits b).toNat)):=rfl
end
attribute [go_sem] Qp Lp Sg Uc Bo Gc Kv Gq
def rc (N:Nat)(g:Nat->V):List V:=(List.range N).map g
theorem cV (N:Nat)(g:Nat->V):(rc N g).length=N:=by simp [rc]
theorem jC (hi:i<N):(rc N g)[i]? =some (g i):=by
 unfold rc;rw[List.getElem?_map,List.getElem?_range hi];rfl
theorem eY (N:Nat)(g:Nat->V)(k:Nat)(x:V):(rc N g).set k x=rc N λj=>if j=k then x else g j:=by
 unfold rc;refine List.ext_getElem (by simp) λi _ _=>?_
 rw[List.getElem_set,List.getElem_map,List.getElem_map,List.getElem_range]
 by_cases e:k=i
 ·rw[if_pos e,if_pos e.symm]
 ·rw[if_neg e,if_neg (Ne.symm e)]
theorem bH {f:Nat->V}(h: ∀i,i<N->f i=g i):rc N f=rc N g:=List.map_congr_left λi hi=>h i (rH.1 hi)
theorem pW {h:H}{S:Nat}(hg:h.get S=some (.cells false (rc N g)))(hi:i<N):h.cell S i=some (g i):=by
 rw[H.aF hg,jC hi]
theorem xF {l:List V}(hl:l.length=N)(h: ∀i,i<N->l[i]? =some (g i)):rc N g=l:=by
 refine List.ext_getElem? λi=>?_
 by_cases hi:i<N
 ·rw[jC hi,h i hi]
 ·rw[List.getElem?_eq_none (by rw[cV];omega),List.getElem?_eq_none (by omega)]
def zi (l:List Nat):List Int:=l.map λ(k:Nat)=>(k:Int)
theorem aU (l:List Nat):(zi l).length=l.length:=by simp [zi]
theorem qZ {l:List Nat}(hi:i<l.length):(ints (zi l))[i]? =some (.int .i64 ((l.getD i 0:Nat):Int)):=by
 rw[Pm.cG hi];simp [ints,zi,hi]
theorem Da (l:List Nat):rc l.length (λi=> .int .i64 ((l.getD i 0:Nat):Int))=ints (zi l):=
 xF (by rw[aN,aU]) λ_ hi=>qZ hi
structure Gl (h h':H)(v:V)(l:List Nat):Prop where
 val:v= .sl h.next 0 l.length (.kn l.length)
 get:h'.get h.next=some (.cells false (ints (zi l)))
 next:h'.next=h.next+1
 fr:Fr h h'
end
end Go.Ay
