/- Rows of cells that a function gives; permutations on the heap. -/
import Derived.Test.YtapfcpkecmmagaaGreatAy26
import Derived.Test.YtapfcpkecmmagaaGreatDp1
namespace Go.Ay
open Go
section
variable {N i:Nat} {g:Nat->V}
section
variable (ρ:X->V) (h:H)
theorem Yh (n sz:Nat)(x i:X):cW ρ h (.ixd n sz x i)=(Rg n sz (ρ x) (ρ i)).map (·,h):=rfl
theorem To {n sz id off:Nat}{k:IntKind}{z:Int}(a:0<=z)(b:z<(n:Int)):Rg n sz (.ptr id off) (.int k z)=some (.ptr id (off+z.toNat*sz)):=by
 simp only[Rg];rw[aV ⟨a,b⟩]
theorem AX (x:X):cW ρ h (.cvs x)=(Vn h (ρ x)).map (·,h):=rfl
theorem BH (t:Nat)(x:X):cW ρ h (.mif t x)=some (.ifc t (ρ x),h):=rfl
theorem Yn (a:pW)(r:Option X):cW ρ h (.mkw a r)=if Bl (r.map ρ)=true then some (.mp h.next,h.new (.wmap a [])) else none:=rfl
theorem Iw:Bl none=true:=rfl
theorem Mm (k:IntKind)(n:Int):Bl (some (.int k n))=true:=rfl
def Yv (x i:V):Option V:=match x,i with
 | .str l,.int _ z=>if 0<=z then (l[z.toNat]?).map (λ(c:Nat)=>V.int .u8 ((c%256:Nat):Int)) else none
 |_,_=>none
theorem Ny (x i:X):cW ρ h (.six x i)=(Yv (ρ x) (ρ i)).map (·,h):=by
 simp only[cW,Yv];cases ρ x<;>cases ρ i<;>try rfl
 simp only;split
 ·simp only[Option.map_map];rfl
 ·rfl
theorem Sx (k:IntKind)(a b:Int):arith .and k a b=some (.int k (k.wrap (BitVec.ofInt k.bits a&&&BitVec.ofInt k.bits b).toNat)):=rfl
end
attribute [go_sem] Yh To BH Yn Iw Mm Sr Mj
def rc (N:Nat)(g:Nat->V):List V:=(List.range N).map g
theorem cK (N:Nat)(g:Nat->V):(rc N g).length=N:=by simp [rc]
theorem iP (hi:i<N):(rc N g)[i]? =some (g i):=by
 unfold rc;rw[Kt,List.getElem?_range hi];rfl
theorem eG (N:Nat)(g:Nat->V)(k:Nat)(x:V):(rc N g).set k x=rc N λj=>if j=k then x else g j:=by
 unfold rc;refine List.ext_getElem (by simp) λi _ _=>?_
 rw[List.getElem_set,List.getElem_map,List.getElem_map,List.getElem_range]
 by_cases e:k=i
 ·rw[aV e,aV e.symm]
 ·rw[aZ e,aZ (Ne.symm e)]
theorem aX {f:Nat->V}(h: ∀i,i<N->f i=g i):rc N f=rc N g:=zD λi hi=>h i (Ae.1 hi)
theorem gO {h:H}{S:Nat}(a:h.get S=some (.cells false (rc N g)))(hi:i<N):h.cell S i=some (g i):=by
 rw[H.aG a,iP hi]
theorem xT {l:List V}(a:l.length=N)(h: ∀i,i<N->l[i]? =some (g i)):rc N g=l:=by
 refine List.ext_getElem? λi=>?_
 by_cases hi:i<N
 ·rw[iP hi,h i hi]
 ·rw[List.getElem?_eq_none (by rw[cK];omega),List.getElem?_eq_none om]
def zi (l:List Nat):List Int:=l.map λ(k:Nat)=>(k:Int)
theorem aQ (l:List Nat):(zi l).length=l.length:=by simp [zi]
theorem tY {l:List Nat}(hi:i<l.length):(ints (zi l))[i]? =some (.int .i64 ((l.getD i 0:Nat):Int)):=by
 rw[Pm.bP hi];simp [ints,zi,hi]
theorem Du (l:List Nat):rc l.length (λi=> .int .i64 ((l.getD i 0:Nat):Int))=ints (zi l):=
 xT (by rw[aL,aQ]) λ_ hi=>tY hi
structure Jl (h h':H)(v:V)(l:List Nat):Prop where
 val:v= .sl h.next 0 l.length (.kn l.length)
 get:h'.get h.next=some (.cells false (ints (zi l)))
 next:h'.next=h.next+1
 fr:Fr h h'
end
end Go.Ay
