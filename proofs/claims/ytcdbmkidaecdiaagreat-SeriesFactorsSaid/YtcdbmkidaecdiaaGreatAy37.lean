/- Rows of cells that a function gives; permutations on the heap. -/
import Derived.Test.YtcdbmkidaecdiaaGreatAy26
import Derived.Test.YtcdbmkidaecdiaaGreatDp1
namespace Go.Ay
open Go
section
variable {N i:Nat} {g:Nat->V}
section
variable (ρ:X->V) (h:H)
theorem XU (n sz:Nat)(x i:X):cI ρ h (.ixd n sz x i)=(KZ n sz (ρ x) (ρ i)).map (·,h):=rfl
theorem RE {n sz id off:Nat}{k:IntKind}{z:Int}(b:0<=z)(a:z<(n:Int)):KZ n sz (.ptr id off) (.int k z)=some (.ptr id (off+z.toNat*sz)):=by
 simp only[KZ];rw[bF ⟨b,a⟩]
theorem GH (x:X):cI ρ h (.cvs x)=(JA h (ρ x)).map (·,h):=rfl
theorem abE (t:Nat)(x:X):cI ρ h (.mif t x)=some (.ifc t (ρ x),h):=rfl
theorem aaT (a:Cy)(r:Option X):cI ρ h (.mkw a r)=if Mb (r.map ρ)=true then some (.mp h.next,h.new (.wmap a [])) else none:=rfl
theorem Xg:Mb none=true:=rfl
theorem CU (k:IntKind)(n:Int):Mb (some (.int k n))=true:=rfl
def ZR (x i:V):Option V:=match x,i with
 | .str l,.int _ z=>if 0<=z then (l[z.toNat]?).map (λ(c:Nat)=>V.int .u8 ((c%256:Nat):Int)) else none
 |_,_=>none
theorem GZ (x i:X):cI ρ h (.six x i)=(ZR (ρ x) (ρ i)).map (·,h):=by
 simp only[cI,ZR];cases ρ x<;>cases ρ i<;>try rfl
 simp only;split
 ·simp only[Option.map_map];rfl
 ·rfl
theorem MW (k:IntKind)(a b:Int):arith .and k a b=some (.int k (k.wrap (BitVec.ofInt k.bits a&&&BitVec.ofInt k.bits b).toNat)):=rfl
end
attribute [go_sem] XU RE abE aaT Xg CU KA CT
def rc (N:Nat)(g:Nat->V):List V:=(List.range N).map g
theorem Df (N:Nat)(g:Nat->V):(rc N g).length=N:=by simp [rc]
theorem Mi (hi:i<N):(rc N g)[i]? =some (g i):=by
 unfold rc;rw[Ol,List.getElem?_range hi];rfl
theorem mS (N:Nat)(g:Nat->V)(k:Nat)(x:V):(rc N g).set k x=rc N λj=>if j=k then x else g j:=by
 unfold rc;refine List.ext_getElem (by simp) λi _ _=>?_
 rw[List.getElem_set,List.getElem_map,List.getElem_map,List.getElem_range]
 by_cases e:k=i
 ·rw[bF e,bF e.symm]
 ·rw[bI e,bI (Ne.symm e)]
theorem dB {f:Nat->V}(h: ∀i,i<N->f i=g i):rc N f=rc N g:=Vy λi hi=>h i (Gu.1 hi)
theorem Bw {h:H}{S:Nat}(a:h.get S=some (.cells false (rc N g)))(hi:i<N):h.cell S i=some (g i):=by
 rw[H.aF a,Mi hi]
theorem Kq {l:List V}(a:l.length=N)(h: ∀i,i<N->l[i]? =some (g i)):rc N g=l:=by
 refine List.ext_getElem? λi=>?_
 by_cases hi:i<N
 ·rw[Mi hi,h i hi]
 ·rw[List.getElem?_eq_none (by rw[Df];omega),List.getElem?_eq_none om]
def zi (l:List Nat):List Int:=l.map λ(k:Nat)=>(k:Int)
theorem aQ (l:List Nat):(zi l).length=l.length:=by simp [zi]
theorem Ip {l:List Nat}(hi:i<l.length):(ints (zi l))[i]? =some (.int .i64 ((l.getD i 0:Nat):Int)):=by
 rw[Pm.cJ hi];simp [ints,zi,hi]
theorem Zu (l:List Nat):rc l.length (λi=> .int .i64 ((l.getD i 0:Nat):Int))=ints (zi l):=
 Kq (by rw[fT,aQ]) λ_ hi=>Ip hi
structure AM (h h':H)(v:V)(l:List Nat):Prop where
 val:v= .sl h.next 0 l.length (.kn l.length)
 get:h'.get h.next=some (.cells false (ints (zi l)))
 next:h'.next=h.next+1
 fr:Fr h h'
end
end Go.Ay
