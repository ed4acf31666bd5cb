/- Rows of cells that a function gives; permutations on the heap. -/
import Derived.Test.YtddpkbicnolafaaGreatAy26
import Derived.Test.YtddpkbicnolafaaGreatDp1
namespace Go.Ay
open Go
section
variable {N i:Nat} {g:Nat->V}
section
variable (ρ:X->V) (h:H)
theorem TY (n sz:Nat)(x i:X):cX ρ h (.ixd n sz x i)=(DB n sz (ρ x) (ρ i)).map (·,h):=rfl
theorem JY {n sz id off:Nat}{k:IntKind}{z:Int}(h0:0<=z)(h1:z<(n:Int)):DB n sz (.ptr id off) (.int k z)=some (.ptr id (off+z.toNat*sz)):=by
 simp only[DB];rw[if_pos ⟨h0,h1⟩]
theorem QJ (x:X):cX ρ h (.cvs x)=(IG h (ρ x)).map (·,h):=rfl
theorem UN (t:Nat)(x:X):cX ρ h (.mif t x)=some (.ifc t (ρ x),h):=rfl
theorem TB (sh:Ak)(r:Option X):cX ρ h (.mkw sh r)=if Jf (r.map ρ)=true then some (.mp h.next,h.new (.wmap sh [])) else none:=rfl
theorem Tm:Jf none=true:=rfl
theorem Xx (k:IntKind)(n:Int):Jf (some (.int k n))=true:=rfl
def PZ (x i:V):Option V:=match x,i with
 | .str l,.int _ z=>if 0<=z then (l[z.toNat]?).map (λ(c:Nat)=>V.int .u8 ((c%256:Nat):Int)) else none
 |_,_=>none
theorem Zr (x i:X):cX ρ h (.six x i)=(PZ (ρ x) (ρ i)).map (·,h):=by
 simp only[cX,PZ];cases ρ x<;>cases ρ i<;>try rfl
 simp only;split
 ·simp only[Option.map_map];rfl
 ·rfl
theorem Mx (k:IntKind)(a b:Int):arith .and k a b=some (.int k (k.wrap (BitVec.ofInt k.bits a&&&BitVec.ofInt k.bits b).toNat)):=rfl
end
attribute [go_sem] TY JY UN TB Tm Xx FA Xz
def rc (N:Nat)(g:Nat->V):List V:=(List.range N).map g
theorem eU (N:Nat)(g:Nat->V):(rc N g).length=N:=by simp [rc]
theorem Fj (hi:i<N):(rc N g)[i]? =some (g i):=by
 unfold rc;rw[List.getElem?_map,List.getElem?_range hi];rfl
theorem iY (N:Nat)(g:Nat->V)(k:Nat)(x:V):(rc N g).set k x=rc N λj=>if j=k then x else g j:=by
 unfold rc;refine List.ext_getElem (by simp) λi _ _=>?_
 rw[List.getElem_set,List.getElem_map,List.getElem_map,List.getElem_range]
 by_cases e:k=i
 ·rw[if_pos e,if_pos e.symm]
 ·rw[if_neg e,if_neg (Ne.symm e)]
theorem bL {f:Nat->V}(h: ∀i,i<N->f i=g i):rc N f=rc N g:=List.map_congr_left λi hi=>h i (Ot.1 hi)
theorem iW {h:H}{S:Nat}(hg:h.get S=some (.cells false (rc N g)))(hi:i<N):h.cell S i=some (g i):=by
 rw[H.aF hg,Fj hi]
theorem Iz {l:List V}(hl:l.length=N)(h: ∀i,i<N->l[i]? =some (g i)):rc N g=l:=by
 refine List.ext_getElem? λi=>?_
 by_cases hi:i<N
 ·rw[Fj hi,h i hi]
 ·rw[List.getElem?_eq_none (by rw[eU];omega),List.getElem?_eq_none (by omega)]
def zi (l:List Nat):List Int:=l.map λ(k:Nat)=>(k:Int)
theorem aQ (l:List Nat):(zi l).length=l.length:=by simp [zi]
theorem El {l:List Nat}(hi:i<l.length):(ints (zi l))[i]? =some (.int .i64 ((l.getD i 0:Nat):Int)):=by
 rw[Pm.bJ hi];simp [ints,zi,hi]
theorem Jx (l:List Nat):rc l.length (λi=> .int .i64 ((l.getD i 0:Nat):Int))=ints (zi l):=
 Iz (by rw[aM,aQ]) λ_ hi=>El hi
structure Ub (h h':H)(v:V)(l:List Nat):Prop where
 val:v= .sl h.next 0 l.length (.kn l.length)
 get:h'.get h.next=some (.cells false (ints (zi l)))
 next:h'.next=h.next+1
 fr:Fr h h'
end
end Go.Ay
