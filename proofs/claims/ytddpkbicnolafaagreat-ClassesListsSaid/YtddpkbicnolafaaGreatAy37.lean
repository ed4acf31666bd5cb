/- Rows of cells that a function gives; permutations on the heap. -/
import Derived.Test.YtddpkbicnolafaaGreatAy26
import Derived.Test.YtddpkbicnolafaaGreatDp1
namespace Go.Ay
open Go
section
variable (ρ:X->V) (h:H)
theorem agS (n sz:Nat)(x i:X):dB ρ h (.ixd n sz x i)=(QT n sz (ρ x) (ρ i)).map (·,h):=rfl
theorem XG {n sz id off:Nat}{k:IntKind}{z:Int}(h0:0<=z)(h1:z<(n:Int)):QT n sz (.ptr id off) (.int k z)=some (.ptr id (off+z.toNat*sz)):=by
 simp only[QT];rw[if_pos ⟨h0,h1⟩]
theorem afA (x:X):dB ρ h (.cvs x)=(ZO h (ρ x)).map (·,h):=rfl
theorem aeS (t:Nat)(x:X):dB ρ h (.mif t x)=some (.ifc t (ρ x),h):=rfl
theorem adX (sh:Ig)(r:Option X):dB ρ h (.mkw sh r)=if Sw (r.map ρ)=true then some (.mp h.next,h.new (.wmap sh [])) else none:=rfl
theorem EE:Sw none=true:=rfl
theorem MN (k:IntKind)(n:Int):Sw (some (.int k n))=true:=rfl
def ahL (x i:V):Option V:=match x,i with
 | .str l,.int _ z=>if 0<=z then (l[z.toNat]?).map (λ(c:Nat)=>V.int .u8 ((c%256:Nat):Int)) else none
 |_,_=>none
theorem OU (x i:X):dB ρ h (.six x i)=(ahL (ρ x) (ρ i)).map (·,h):=by
 simp only[dB,ahL]
 cases ρ x<;>cases ρ i<;>try rfl
 simp only
 split
 ·simp only[Option.map_map];rfl
 ·rfl
theorem Yw (k:IntKind)(a b:Int):arith .and k a b=some (.int k (k.wrap (BitVec.ofInt k.bits a&&&BitVec.ofInt k.bits b).toNat)):=rfl
end
attribute [go_sem] agS XG aeS adX EE MN TN KH
def rc (N:Nat)(g:Nat->V):List V:=(List.range N).map g
theorem iQ (N:Nat)(g:Nat->V):(rc N g).length=N:=by simp [rc]
theorem Up {N:Nat}{g:Nat->V}{i:Nat}(hi:i<N):(rc N g)[i]? =some (g i):=by
 unfold rc;rw[List.getElem?_map,List.getElem?_range hi];rfl
theorem kZ (N:Nat)(g:Nat->V)(k:Nat)(x:V):(rc N g).set k x=rc N λj=>if j=k then x else g j:=by
 unfold rc
 refine List.ext_getElem (by simp) λi _ _=>?_
 rw[List.getElem_set,List.getElem_map,List.getElem_map,List.getElem_range]
 by_cases e:k=i
 ·rw[if_pos e,if_pos e.symm]
 ·rw[if_neg e,if_neg (Ne.symm e)]
theorem bW {N:Nat}{f g:Nat->V}(h: ∀i,i<N->f i=g i):rc N f=rc N g:=List.map_congr_left λi hi=>h i (GK.1 hi)
theorem iO {h:H}{S N:Nat}{g:Nat->V}(hg:h.get S=some (.cells false (rc N g))){i:Nat}(hi:i<N):h.cell S i=some (g i):=by
 rw[H.aG hg,Up hi]
theorem Qb {N:Nat}{g:Nat->V}{l:List V}(hl:l.length=N)(h: ∀i,i<N->l[i]? =some (g i)):rc N g=l:=by
 refine List.ext_getElem? λi=>?_
 by_cases hi:i<N
 ·rw[Up hi,h i hi]
 ·rw[List.getElem?_eq_none (by rw[iQ];omega),List.getElem?_eq_none (by omega)]
def zi (l:List Nat):List Int:=l.map λ(k:Nat)=>(k:Int)
theorem aT (l:List Nat):(zi l).length=l.length:=by simp [zi]
theorem Ju {l:List Nat}{i:Nat}(hi:i<l.length):(ints (zi l))[i]? =some (.int .i64 ((l.getD i 0:Nat):Int)):=by
 rw[Pm.bJ hi]
 simp [ints,zi,hi]
theorem Za (l:List Nat):rc l.length (λi=> .int .i64 ((l.getD i 0:Nat):Int))=ints (zi l):=
 Qb (by rw[aM,aT]) λ_ hi=>Ju hi
structure HP (h h':H)(v:V)(l:List Nat):Prop where
 val:v= .sl h.next 0 l.length (.kn l.length)
 get:h'.get h.next=some (.cells false (ints (zi l)))
 next:h'.next=h.next+1
 fr:Fr h h'
end Go.Ay
