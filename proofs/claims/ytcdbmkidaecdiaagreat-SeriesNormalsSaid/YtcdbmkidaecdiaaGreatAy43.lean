/- The library's sort of ints, by the shelf's contract. -/
import Derived.Test.YtcdbmkidaecdiaaGreatAy21
import Derived.Shelf.SortM.Plain
import Derived.Shelf.SortM.SortNone
namespace Go.Ay
open Go Go.Sort Go.Proofs Go.Shelf
section
variable {w:World} {P:Program} {ρ:Ren}
theorem Ry {a:Array Obj}{b:Nat}(c:b<w.heap.size):(grow w a).heap[b]? =w.heap[b]? :=Array.getElem?_append_left c
theorem jR.grow {P:Program}{m:M}{h:H}{w:World}(c:HR P m h w)(f:Array Obj):jR P m h w m h (grow w f):=by
 refine⟨Ext.refl m,⟨λid e a=>?_,c.inj⟩,λ_ _ h=> .inl h,⟨rfl,rfl,rfl,by simp [Sort.grow],λb i _=>Ry i⟩,λ_ h=> .inl h,dT _,λ_ h=> .inl h,λ_ _ h=>h⟩;obtain⟨q,g,d⟩:=c.live id e a;exact⟨q,g,OR.mono (Ext.refl m) (Ry d.lt) d⟩
theorem SZ {vs:List V}(h:vs.all isI=true){i:Nat}{v:V}(hi:vs[i]? =some v):v= .int .i64 (YX v):=by
 have:=zP.1 h v (Xu hi)
 cases v with
 |int k n=>cases k<;>simp [isI] at this;rfl
 |_=>simp [isI] at this
theorem AA (L:SlLaysM.n5 P ρ){args:List V}{h h':H}{v:V}(a:Mm args h=some (v,h')){m:M}{xs:Array Value}(B:iR m args xs.toList)(F:HR P m h w)(hl:Vz m h.next):
  Calls P (ρ.f 5) xs w (Lu P m h w v h'):=by
 unfold Mm at a
 split at a
 ·rename_i Q id len a0
  match hq:xs.toList,B with
  | [x],B=>
  obtain⟨⟨p,c,o',R,rfl,hc,ho,_⟩,_⟩:=B
  obtain rfl:xs= #[.slice (some ⟨p.1,p.2.1+o',none⟩) len c]:=by apply Array.toList_inj.1;rw[hq]
  split at a
  ·rename_i W
   cases a
   subst W
   refine (AnyM.slices_Sort_int_none L _ c w).mono λe w' ⟨l,g⟩=>?_
   subst l g
   exact⟨_,m,rfl,⟨_,rfl,trivial⟩,jR.refl F hl.fresh⟩
  ·rename_i W
   obtain rfl:=ho om
   split at a
   ·rename_i d hg
    split at a
    ·rename_i hk
     obtain⟨t,s,r⟩:=hk
     cases a
     obtain⟨q,o,U,el,fr,k,K,J,hv,N⟩:=F.live id _ hg
     rw[R] at o;cases o
     obtain rfl:=N rfl
     have G:=(HF.1 k).1
     have cell: ∀i,i<d.length->U[p.2.1+i]? =some (.int .i64 ((d.map YX).getD i 0)):=λi hi=>by
      obtain⟨_,x,l,g⟩:=hv i _ (dD hi);have e:=SZ s (dD hi);rw[e] at g;rw[l,show x=_ from g];simp [hi]
     have Q:Holds (Value.int .i64) w p.1 (p.2.1+0) (d.map YX).toArray:=λj u=>by
      have u:j<d.length:=by simpa using u
      have e1:=cell j u;refine⟨?_,?_⟩
      ·simp only[World.cell?,k,Nat.add_zero,e1]
       simp [u]
      ·simp [World.frozen?,k]
     have Z:(d.map YX).length=len:=by simpa using t
     have Y:=AnyM.slices_Sort_int L p.1 (p.2.1+0) c (d.map YX) w Q G (by rw[Z];exact r)
     rw[Z] at Y
     refine Y.mono λe w' ⟨l,n,os,g⟩=>?_
     subst l
     obtain⟨S,A⟩: ∃S,(d.map YX).mergeSort (λx y=>decide (x<=y))=S:=⟨_,rfl⟩
     rw[A] at g
     have lS:S.length=d.length:=by rw[←A];simp
     have hw:(putRow (Value.int .i64) (Sort.ahead w n) p.1 (p.2.1+0) S.toArray).heap[p.1]? =some (.cells (putCells (Value.int .i64) (p.2.1+0) S.toArray U) el (0,0)):=by
      show (w.heap.modify p.1 _)[p.1]? =_;rw[Array.getElem?_modify,bJ rfl,k];rfl
     have NA:=jR.put (w':=putRow (Value.int .i64) (Sort.ahead w n) p.1 (p.2.1+0) S.toArray) F hl.fresh hg rfl (o':= .cells false (S.map (.int .i64))) rfl R
      ⟨_,el,(0,0),hw,by simp [putCells,K],by rw[iA,lS];exact J,λi v hi=>by
       rw[Qy] at hi;obtain⟨z,hz,rfl⟩:=oU.1 hi;have O:=(vJ.1 hz).1;refine⟨rfl,.int .i64 z,?_,rfl⟩;unfold putCells;rw[Array.getElem?_mapIdx,cell i om];simp only[Option.map_some,Nat.add_zero];rw[bJ ⟨om,by simp;omega⟩];rw[show p.2.1+i-p.2.1=i by omega];have:=(vJ.1 hz).2
       simp [O,this],λ_=>rfl⟩
      rfl rfl rfl (by show (w.heap.modify p.1 _).size=_;simp) (λb k=>by show (w.heap.modify p.1 _)[b]? =_;rw[Array.getElem?_modify,bU (Ne.symm k)])
     subst g
     rw[A]
     exact⟨_,m,rfl,⟨_,rfl,trivial⟩,NA.trans (jR.grow NA.rel os)⟩
    ·cases a
   ·cases a
 ·cases a
theorem Rb (L:SlLaysM.n5 P ρ):enters P (ρ.f 5)=true:=by
 obtain⟨c,a,b⟩:=L.f5;unfold enters;rw[b];simp only[Option.any_some,bne,a]
 rfl
theorem aaG (L:SlLaysM.n5 P ρ):LU P (ρ.f 5):=λ_ _ _ _ a=>⟨Rb L,λ_ _ _ d b c=>callsIn_wide.2 (AA L a d b c)⟩
end
end Go.Ay
