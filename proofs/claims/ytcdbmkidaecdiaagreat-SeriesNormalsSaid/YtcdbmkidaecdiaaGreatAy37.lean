/- Rows of cells that a function gives; permutations on the heap. -/
import Derived.Test.YtcdbmkidaecdiaaGreatAy26
import Derived.Test.YtcdbmkidaecdiaaGreatDp1
namespace Go.Ay
open Go
section
variable {N i:Nat} {g:Nat->V}
section
variable (ρ:X->V) (h:H)
theorem acS (n sz:Nat)(x i:X):fC ρ h (.ixd n sz x i)=(UO n sz (ρ x) (ρ i)).map (·,h):=rfl
theorem TN {n sz id off:Nat}{k:IntKind}{z:Int}(b:0<=z)(a:z<(n:Int)):UO n sz (.ptr id off) (.int k z)=some (.ptr id (off+z.toNat*sz)):=by
 simp only[UO];rw[bJ ⟨b,a⟩]
theorem HC (x:X):fC ρ h (.cvs x)=(LL h (ρ x)).map (·,h):=rfl
theorem abY (t:Nat)(x:X):fC ρ h (.mif t x)=some (.ifc t (ρ x),h):=rfl
theorem acQ (a:Gn)(r:Option X):fC ρ h (.mkw a r)=if Nl (r.map ρ)=true then some (.mp h.next,h.new (.wmap a [])) else none:=rfl
theorem AS:Nl none=true:=rfl
theorem ER (k:IntKind)(n:Int):Nl (some (.int k n))=true:=rfl
def ZG (x i:V):Option V:=match x,i with
 | .str l,.int _ z=>if 0<=z then (l[z.toNat]?).map (λ(c:Nat)=>V.int .u8 ((c%256:Nat):Int)) else none
 |_,_=>none
theorem IT (x i:X):fC ρ h (.six x i)=(ZG (ρ x) (ρ i)).map (·,h):=by
 simp only[fC,ZG];cases ρ x<;>cases ρ i<;>try rfl
 simp only;split
 ·simp only[Option.map_map];rfl
 ·rfl
theorem KQ (k:IntKind)(a b:Int):arith .and k a b=some (.int k (k.wrap (BitVec.ofInt k.bits a&&&BitVec.ofInt k.bits b).toNat)):=rfl
end
attribute [go_sem] acS TN abY acQ AS ER
def rc (N:Nat)(g:Nat->V):List V:=(List.range N).map g
theorem iQ (N:Nat)(g:Nat->V):(rc N g).length=N:=by simp [rc]
theorem Nk (hi:i<N):(rc N g)[i]? =some (g i):=by
 unfold rc;rw[Qy,List.getElem?_range hi];rfl
theorem lH (N:Nat)(g:Nat->V)(k:Nat)(x:V):(rc N g).set k x=rc N λj=>if j=k then x else g j:=by
 unfold rc;refine List.ext_getElem (by simp) λi _ _=>?_
 rw[List.getElem_set,List.getElem_map,List.getElem_map,List.getElem_range]
 by_cases e:k=i
 ·rw[bJ e,bJ e.symm]
 ·rw[bU e,bU (Ne.symm e)]
theorem dJ {f:Nat->V}(h: ∀i,i<N->f i=g i):rc N f=rc N g:=Xa λi hi=>h i (Dj.1 hi)
theorem tF {h:H}{S:Nat}(a:h.get S=some (.cells false (rc N g)))(hi:i<N):h.cell S i=some (g i):=by
 rw[H.cell_of a,Nk hi]
theorem Lq {l:List V}(a:l.length=N)(h: ∀i,i<N->l[i]? =some (g i)):rc N g=l:=by
 refine List.ext_getElem? λi=>?_
 by_cases hi:i<N
 ·rw[Nk hi,h i hi]
 ·rw[List.getElem?_eq_none (by rw[iQ];omega),List.getElem?_eq_none om]
def zi (l:List Nat):List Int:=l.map λ(k:Nat)=>(k:Int)
theorem aS (l:List Nat):(zi l).length=l.length:=by simp [zi]
theorem Ff {l:List Nat}(hi:i<l.length):(ints (zi l))[i]? =some (.int .i64 ((l.getD i 0:Nat):Int)):=by
 rw[Pm.cW hi];simp [ints,zi,hi]
theorem Sq (l:List Nat):rc l.length (λi=> .int .i64 ((l.getD i 0:Nat):Int))=ints (zi l):=
 Lq (by rw[aP,aS]) λ_ hi=>Ff hi
structure Yz (h h':H)(v:V)(l:List Nat):Prop where
 val:v= .sl h.next 0 l.length (.kn l.length)
 get:h'.get h.next=some (.cells false (ints (zi l)))
 next:h'.next=h.next+1
 fr:Fr h h'
end
end Go.Ay
