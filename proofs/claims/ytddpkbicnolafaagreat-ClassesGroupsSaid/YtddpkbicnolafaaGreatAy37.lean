/- Rows of cells that a function gives; permutations on the heap. -/
import Derived.Test.YtddpkbicnolafaaGreatAy26
import Derived.Test.YtddpkbicnolafaaGreatDp1
namespace Go.Ay
open Go
variable {N i:Nat} {g:Nat->V}
section
variable (ρ:X->V) (h:H)
theorem TA (n sz:Nat)(x i:X):cV ρ h (.ixd n sz x i)=(GK n sz (ρ x) (ρ i)).map (·,h):=rfl
theorem HN {n sz id off:Nat}{k:IntKind}{z:Int}(h0:0<=z)(h1:z<(n:Int)):GK n sz (.ptr id off) (.int k z)=some (.ptr id (off+z.toNat*sz)):=by
 simp only[GK];rw[if_pos ⟨h0,h1⟩]
theorem QX (x:X):cV ρ h (.cvs x)=(PR h (ρ x)).map (·,h):=rfl
theorem VF (t:Nat)(x:X):cV ρ h (.mif t x)=some (.ifc t (ρ x),h):=rfl
theorem VH (sh:Bl)(r:Option X):cV ρ h (.mkw sh r)=if Lb (r.map ρ)=true then some (.mp h.next,h.new (.wmap sh [])) else none:=rfl
theorem Sv:Lb none=true:=rfl
theorem Ym (k:IntKind)(n:Int):Lb (some (.int k n))=true:=rfl
def SZ (x i:V):Option V:=match x,i with
 | .str l,.int _ z=>if 0<=z then (l[z.toNat]?).map (λ(c:Nat)=>V.int .u8 ((c%256:Nat):Int)) else none
 |_,_=>none
theorem AL (x i:X):cV ρ h (.six x i)=(SZ (ρ x) (ρ i)).map (·,h):=by
 simp only[cV,SZ];cases ρ x<;>cases ρ i<;>try rfl
 simp only;split
 ·simp only[Option.map_map];rfl
 ·rfl
theorem Nw (k:IntKind)(a b:Int):arith .and k a b=some (.int k (k.wrap (BitVec.ofInt k.bits a&&&BitVec.ofInt k.bits b).toNat)):=rfl
end
attribute [go_sem] TA HN VF VH Sv Ym DH Xl
def rc (N:Nat)(g:Nat->V):List V:=(List.range N).map g
theorem iE (N:Nat)(g:Nat->V):(rc N g).length=N:=by simp [rc]
theorem Kz (hi:i<N):(rc N g)[i]? =some (g i):=by
 unfold rc;rw[List.getElem?_map,List.getElem?_range hi];rfl
theorem jL (N:Nat)(g:Nat->V)(k:Nat)(x:V):(rc N g).set k x=rc N λj=>if j=k then x else g j:=by
 unfold rc;refine List.ext_getElem (by simp) λi _ _=>?_
 rw[List.getElem_set,List.getElem_map,List.getElem_map,List.getElem_range]
 by_cases e:k=i
 ·rw[if_pos e,if_pos e.symm]
 ·rw[if_neg e,if_neg (Ne.symm e)]
theorem bN {f:Nat->V}(h: ∀i,i<N->f i=g i):rc N f=rc N g:=List.map_congr_left λi hi=>h i (Mr.1 hi)
theorem gZ {h:H}{S:Nat}(hg:h.get S=some (.cells false (rc N g)))(hi:i<N):h.cell S i=some (g i):=by
 rw[H.aF hg,Kz hi]
theorem Lk {l:List V}(hl:l.length=N)(h: ∀i,i<N->l[i]? =some (g i)):rc N g=l:=by
 refine List.ext_getElem? λi=>?_
 by_cases hi:i<N
 ·rw[Kz hi,h i hi]
 ·rw[List.getElem?_eq_none (by rw[iE];omega),List.getElem?_eq_none (by omega)]
def zi (l:List Nat):List Int:=l.map λ(k:Nat)=>(k:Int)
theorem aP (l:List Nat):(zi l).length=l.length:=by simp [zi]
theorem Fy {l:List Nat}(hi:i<l.length):(ints (zi l))[i]? =some (.int .i64 ((l.getD i 0:Nat):Int)):=by
 rw[Pm.bG hi];simp [ints,zi,hi]
theorem Oe (l:List Nat):rc l.length (λi=> .int .i64 ((l.getD i 0:Nat):Int))=ints (zi l):=
 Lk (by rw[aQ,aP]) λ_ hi=>Fy hi
structure Uo (h h':H)(v:V)(l:List Nat):Prop where
 val:v= .sl h.next 0 l.length (.kn l.length)
 get:h'.get h.next=some (.cells false (ints (zi l)))
 next:h'.next=h.next+1
 fr:Fr h h'
end Go.Ay
