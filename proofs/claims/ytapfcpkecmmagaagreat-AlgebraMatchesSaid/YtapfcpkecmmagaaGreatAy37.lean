/- Rows of cells that a function gives; permutations on the heap. -/
import Derived.Test.YtapfcpkecmmagaaGreatAy26
import Derived.Test.YtapfcpkecmmagaaGreatDp1
namespace Go.Ay
open Go
section
variable {N i:Nat} {g:Nat->V}
section
variable (ρ:X->V) (h:H)
theorem AN (n sz:Nat)(x i:X):cZ ρ h (.ixd n sz x i)=(Rl n sz (ρ x) (ρ i)).map (·,h):=rfl
theorem Ty {n sz id off:Nat}{k:IntKind}{z:Int}(b:0<=z)(a:z<(n:Int)):Rl n sz (.ptr id off) (.int k z)=some (.ptr id (off+z.toNat*sz)):=by
 simp only[Rl];rw[aV ⟨b,a⟩]
theorem AF (x:X):cZ ρ h (.cvs x)=(Wh h (ρ x)).map (·,h):=rfl
theorem BI (t:Nat)(x:X):cZ ρ h (.mif t x)=some (.ifc t (ρ x),h):=rfl
theorem BV (a:qC)(r:Option X):cZ ρ h (.mkw a r)=if zT (r.map ρ)=true then some (.mp h.next,h.new (.wmap a [])) else none:=rfl
theorem Iz:zT none=true:=rfl
theorem Nq (k:IntKind)(n:Int):zT (some (.int k n))=true:=rfl
def Zr (x i:V):Option V:=match x,i with
 | .str l,.int _ z=>if 0<=z then (l[z.toNat]?).map (λ(c:Nat)=>V.int .u8 ((c%256:Nat):Int)) else none
 |_,_=>none
theorem Pg (x i:X):cZ ρ h (.six x i)=(Zr (ρ x) (ρ i)).map (·,h):=by
 simp only[cZ,Zr];cases ρ x<;>cases ρ i<;>try rfl
 simp only;split
 ·simp only[Option.map_map];rfl
 ·rfl
theorem Qp (k:IntKind)(a b:Int):arith .and k a b=some (.int k (k.wrap (BitVec.ofInt k.bits a&&&BitVec.ofInt k.bits b).toNat)):=rfl
end
attribute [go_sem] AN Ty BI BV Iz Nq Sb Mg
def rc (N:Nat)(g:Nat->V):List V:=(List.range N).map g
theorem cK (N:Nat)(g:Nat->V):(rc N g).length=N:=by simp [rc]
theorem kA (hi:i<N):(rc N g)[i]? =some (g i):=by
 unfold rc;rw[Lc,List.getElem?_range hi];rfl
theorem eJ (N:Nat)(g:Nat->V)(k:Nat)(x:V):(rc N g).set k x=rc N λj=>if j=k then x else g j:=by
 unfold rc;refine List.ext_getElem (by simp) λi _ _=>?_
 rw[List.getElem_set,List.getElem_map,List.getElem_map,List.getElem_range]
 by_cases e:k=i
 ·rw[aV e,aV e.symm]
 ·rw[aZ e,aZ (Ne.symm e)]
theorem aY {f:Nat->V}(h: ∀i,i<N->f i=g i):rc N f=rc N g:=yZ λi hi=>h i (Db.1 hi)
theorem gU {h:H}{S:Nat}(a:h.get S=some (.cells false (rc N g)))(hi:i<N):h.cell S i=some (g i):=by
 rw[H.aG a,kA hi]
theorem yS {l:List V}(a:l.length=N)(h: ∀i,i<N->l[i]? =some (g i)):rc N g=l:=by
 refine List.ext_getElem? λi=>?_
 by_cases hi:i<N
 ·rw[kA hi,h i hi]
 ·rw[List.getElem?_eq_none (by rw[cK];omega),List.getElem?_eq_none om]
def zi (l:List Nat):List Int:=l.map λ(k:Nat)=>(k:Int)
theorem aQ (l:List Nat):(zi l).length=l.length:=by simp [zi]
theorem tT {l:List Nat}(hi:i<l.length):(ints (zi l))[i]? =some (.int .i64 ((l.getD i 0:Nat):Int)):=by
 rw[Pm.bT hi];simp [ints,zi,hi]
theorem Kp (l:List Nat):rc l.length (λi=> .int .i64 ((l.getD i 0:Nat):Int))=ints (zi l):=
 yS (by rw[aL,aQ]) λ_ hi=>tT hi
structure Ku (h h':H)(v:V)(l:List Nat):Prop where
 val:v= .sl h.next 0 l.length (.kn l.length)
 get:h'.get h.next=some (.cells false (ints (zi l)))
 next:h'.next=h.next+1
 fr:Fr h h'
end
end Go.Ay
