/- make, literals, copy, maps. -/
import Derived.Test.YtcdbmkidaecdiaaGreatAy6
import Derived.Laws.MakeOwn
import Derived.Great.BuildSlice
namespace Go.Ay
open Go
section
variable {e t:TypeId} {sz:Nat} {zu:V}
section
variable {P:Program} {m:M} {h:H} {w:World}
theorem M.pJ (m:M)(id:Nat)(p:Nat×Nat×Nat):(m.set id p) id=some p:=by simp [M.set]
theorem foldl_set (off:Nat): ∀(xs:List Value) (k:Nat) (cells:Array Value),off+k+xs.length<=cells.size->
  ((xs.zipIdx k).foldl (λcs (p:Value×Nat)=>cs.setIfInBounds (off+p.2) p.1) cells).toList=cells.toList.take (off+k)++xs++cells.toList.drop (off+k+xs.length)
 | [],k,cells,_=>by simp
 |x::xs,k,cells,h=>by
  simp only[List.zipIdx_cons,List.foldl_cons,List.length_cons] at h ⊢;rw[foldl_set off xs (k+1) _ (by simp;omega)];have:=list_seg_step cells.toList (off+k) x xs (by simp;omega);simp only[Array.toList_setIfInBounds];rw[show off+(k+1)=off+k+1 from om];rw[this]
theorem zE {place:Nat->Option (Nat×Nat)}: ∀(ps:List (Nat×Nat×V)) (qs:List (Nat×Value)) (cs us:List V) (xs:Array Value),iR m cs xs.toList->
  ps.length=qs.length->(∀(i:Nat) (a:Nat×Nat×V) (q:Nat×Value),ps[i]? =some a->qs[i]? =some q->place q.1=some (a.1,a.2.1)/\VR m a.2.2 q.2)->iK cs ps=some us->
  ∃ys,Instr.fill place xs qs=some ys/\iR m us ys.toList
 | [], [],cs,us,xs,hx,_,_,he=>by simp only[iK] at he;cases he;exact⟨xs,rfl,hx⟩
 |a::ps,q::qs,cs,us,xs,hx,hl,hp,he=>by
  obtain⟨b,n,v⟩:=a;obtain⟨i,y⟩:=q;obtain⟨l,r⟩:=hp 0 _ _ rfl rfl;simp only at l r;simp only[iK] at he;split at he
  ·rename_i o
   obtain⟨o,c⟩:=o
   cases hput:putAt cs b v.cells with
   |none=>simp [hput] at he
   |some cs'=>
    simp only[hput] at he;have s:=VR.cells r c;have f:=iR.length s;have d:=iR.length hx;obtain⟨rfl,A⟩:=Hb hput;simp only[Array.length_toList] at f d;have u:=foldl_set b y.cells.toList 0 xs (by simp;omega);simp only[Nat.add_zero] at u
    have k:iR m (cs.take b++v.cells++cs.drop (b+v.cells.length)) (((y.cells.toList.zipIdx 0).foldl (λcs (p:Value×Nat)=>cs.setIfInBounds (b+p.2) p.1) xs).toList):=by
     rw[u];have:b+v.cells.length=b+y.cells.toList.length:=by simp;omega
     rw[this];exact ((hx.take _).append s).append (hx.drop _)
    obtain⟨ys,F,x⟩:=zE ps qs _ us _ k (by simpa using hl) (λj a q z B=>hp (j+1) a q (by simpa using z) (by simpa using B)) he;refine⟨ys,?_,x⟩;simp only[Instr.fill,l];rw[bU]
    ·rw[←F]
     congr 1;rw[←Array.foldl_toList,Array.toList_zipIdx]
    ·simp;omega
  ·cases he
 | [],_::_,_,_,_,_,hl,_,_=>by simp at hl
 |_::_, [],_,_,_,_,hl,_,_=>by simp at hl
theorem qY (m:M){u:V}{i:TypeInfo}{z:Value}(h:sY P e=some u)(hi:P.info? e=some i)(d:i.zero=some z):iR m u.cells z.cells.toList/\(∀c∈u.cells,c.one=true)/\VR m u z:=by
 unfold sY at h;simp only[hi,Option.bind_some,d,Option.filter_eq_some_iff] at h;have b:=Li m h.1;have a:=Mg h.1 (λe=>by rw[e] at h;simp [aeM] at h);exact⟨b.cells (zP.2 a),a,b⟩
theorem Bt {zero:List V}{z:Array Value}(q:iR m zero z.toList)(d:0<zero.length)(n:Nat):
  iR m (dP zero n) ((Array.range n).map (z[· %z.size]!)).toList:=by
 have k:=iR.length q
 simp only[Array.length_toList] at k
 refine iR.lI (by simp [dP]) (λi v s=>?_)
 simp only[dP,Qy,oU] at s
 obtain⟨j,u,rfl⟩:=s
 have l:i<n/\j=i:=by
  obtain⟨o,r⟩:=vJ.1 u;simp at o r;exact⟨o,r.symm⟩
 obtain⟨hi,rfl⟩:=l
 have a:j%zero.length<zero.length:=Nat.mod_lt _ d
 obtain⟨x,p,f⟩:=q.get (i:=j%zero.length) (dD a)
 refine⟨z[j%z.size]!,by simp [hi],?_⟩
 have:zero.getD (j%zero.length) V.undef=zero[j%zero.length]:=by simp [List.getD,a]
 rw[this]
 have b:j%z.size<z.size:=by rw[←k];exact a
 have:z[j%z.size]! =x:=by
  rw[getElem!_pos z _ b];have c:z[j%z.size]? =some x:=by rw[k] at p;simpa using p
  rw[HF] at c;exact c.2
 rw[this];exact f
theorem Qp {zero:List V}(h: ∀c∈zero,c.one=true)(a:0<zero.length)(n:Nat): ∀c∈dP zero n,c.one=true:=by
 intro c d;simp only[dP,pH] at d;obtain⟨i,_,rfl⟩:=d;have b:i%zero.length<zero.length:=Nat.mod_lt _ a;have:zero.getD (i%zero.length) V.undef=zero[i%zero.length]:=by simp [List.getD,b]
 rw[this];exact h _ (xG b)
theorem MU (Q:HR P m h w)(F:iY m h.next){bytes:Nat}(K:P.underlying t=some (.slice e))(O:jL P e=some sz)(J:Jy P e=some bytes)
  (N:sY P e=some zu) (o:BL P e sz=true) (U:sz≠0) {l c r:V} {x y:Value} {h':H} (L:VR m l x) (R:VR m c y) (d:Jz h sz bytes zu.cells l c=some (r,h')):
  bD P m h w (Instr.makeSlice t x y) r h':=by
 obtain⟨i,hi,p,q⟩:=BK O J
 obtain⟨Y,z,f,n,s⟩:=Jd o
 rw[hi] at f;cases f
 subst p
 subst q
 obtain⟨k,u,_⟩:=qY m N hi n
 have G:zu.cells.length=i.size:=by rw[iR.length k];simpa using s
 cases l<;>simp only[Jz] at d<;>try cases d
 cases c<;>simp only at d<;>try cases d
 rename_i v l A c
 split at d
 ·rename_i B
  cases d
  obtain rfl:x= .int v l:=L
  obtain rfl:y= .int A c:=R
  have a:(i.bytes:Int)*c<=281474976710656:=by rw[Int.mul_comm];omega
  have j:=run_make w t e i z K hi n v A l c B.1 B.2.1 a om
  have W:=Bt k om (c.toNat*i.size)
  have b:=xU Q F [] W (Qp u om _) e
  simp only[tZ,Array.toArray_toList] at b
  refine⟨_,_,_,j,⟨_,_,0,M.pJ ..,rfl,om,λ_=>rfl,rfl,rfl⟩,b⟩
 ·cases d
theorem KV (W:HR P m h w)(L:iY m h.next){n:Nat}(G:P.underlying t=some (.slice e))(x:jL P e=some sz)
  (U:sY P e=some zu) (r:BL P e sz=true) (Z:sz≠0) (b: ¬n*sz>2^24) {ps:List (Nat×Nat×V)} {k:Array (Nat×Value)} {us:List V} (R:ps.length=k.size)
  (Q: ∀(j:Nat) (a:Nat×Nat×V) (q:Nat×Value),ps[j]? =some a->k.toList[j]? =some q->some (q.1*sz,sz)=some (a.1,a.2.1)/\VR m a.2.2 q.2)
  (K:iK (dP zu.cells (n*sz)) ps=some us) (J: ∀v∈us,v.one=true):
  bD P m h w (Instr.buildSlice t n k) (.sl h.next 0 n (.kn n)) (h.new (.cells false us)):=by
 obtain⟨F,z,d,p,y⟩:=Jd r
 have c:F.size=sz:=by unfold jL at x;rw[d] at x;simpa using x
 obtain⟨o,Y,_⟩:=qY m U d p
 have N:zu.cells.length=sz:=by rw[iR.length o];simpa using y
 have hv:=Bt o om (n*sz)
 obtain⟨B,A,O⟩:=zE (place:=λi=>some (i*sz,sz)) ps k.toList _ us _ hv (by simpa using R) Q K
 have f:=xU W L [] O J e
 simp only[tZ,Array.toArray_toList] at f
 have l:(Instr.buildSlice t n k).run P w= .ok (.slice (some ⟨w.heap.size,0,none⟩) n n) (w.alloc (.cells B e)):=by
  by_cases s:n*sz=0
  ·rw[s,show ((Array.range 0).map (z.cells[· %z.cells.size]!))=(#[]:Array Value) from by simp] at A
   have u:(Array.range 0).map (λ(_:Nat)=>(default:Value))= #[]:=by simp
   simp [Instr.buildSlice,run_underlying G,sizeOf,typeInfo,d,c,s,newRow,u,A]
  ·exact run_buildSlice w t e n k B F z G d p (by rw[c];exact b) (by rw[c];exact s) (by rw[c];exact A)
 exact⟨_,_,_,l,⟨_,_,0,M.pJ ..,rfl,fN _,λ_=>rfl,rfl,rfl⟩,f⟩
theorem Xv {a:Array Field}{ps:List (Nat×Nat)}(h:Bm P a=some ps):a.toList.mapM (λf=>(P.info? f.type).map λi=>(f.offset,i.size))=some ps:=h
theorem KK (hr:HR P m h w)(Z:iY m h.next)(J:sY P t=some zu){c:List (Nat×X)}{ps:List (Nat×Nat×X)}(d:DB P t c=some ps)
  {ρ:X->V} {f:Array (Nat×Value)} (hl:c.length=f.size) (hq: ∀(j:Nat) (a:Nat×X) (q:Nat×Value),c[j]? =some a->f.toList[j]? =some q->q.1=a.1/\VR m (ρ a.2) q.2)
  {us:List V} (W:iK zu.cells (ps.map λp=>(p.1,p.2.1,ρ p.2.2))=some us):
  bD P m h w (Instr.build t f) (.agg us) h:=by
 unfold DB at d
 have u: ∃i z,P.info? t=some i/\i.zero=some z:=by
  unfold sY at J
  cases hi:P.info? t with
  |none=>simp [hi] at J
  |some i=>
   cases hzz:i.zero with
   |none=>simp [hi,hzz] at J
   |some z=>exact⟨i,z,rfl,hzz⟩
 obtain⟨i,z,hi,v⟩:=u
 obtain⟨A,_,_⟩:=qY m J hi v
 split at d
 ·rename_i fs l
  cases hfp:Bm P fs with
  |none=>simp [hfp] at d
  |some pls=>
   simp only[hfp] at d;obtain⟨a1,a2⟩:=jC d
   obtain⟨o,R,U⟩:=zE (place:=(pls.toArray[·]?)) (ps.map λp=>(p.1,p.2.1,ρ p.2.2)) f.toList zu.cells us z.cells A (by simp [a1];omega) (λj a q B k=>by
    simp only[Qy,oU] at B;obtain⟨p,F,rfl⟩:=B;have Y:j<c.length:=by have:=(vJ.1 F).1;omega
    obtain⟨b,x,y⟩:=a2 j c[j] (dD Y);rw[F] at x;cases x;obtain⟨N,O⟩:=hq j _ q (dD Y) k;simp only[oU] at y;obtain⟨r,L,rfl⟩:=y
    exact⟨by simp only[List.getElem?_toArray,N];rw[L],O⟩) W
   have x:P.built t f.toList=some o:=by
    unfold Program.built;simp only[hi,l,v,Xv hfp];exact R
   exact bD.still hr Z (run_build w t f o x) ⟨o,rfl,U⟩
 ·rename_i n e l
  simp only[oU] at d
  obtain⟨s,Q,rfl⟩:=d
  unfold jL at Q
  simp only[oU] at Q
  obtain⟨G,K,rfl⟩:=Q
  obtain⟨o,R,U⟩:=zE (place:=λj=>some (j*G.size,G.size)) ((c.map λp=>(p.1*G.size,G.size,p.2)).map λp=>(p.1,p.2.1,ρ p.2.2)) f.toList zu.cells us z.cells A (by simp;omega) (λj a q B k=>by
   simp only[List.map_map,Qy,oU] at B;obtain⟨p,F,rfl⟩:=B;obtain⟨N,O⟩:=hq j _ q F k
   exact⟨by simp [N],O⟩) W
  have x:P.built t f.toList=some o:=by
   unfold Program.built;simp only[hi,l,v,K];exact R
  exact bD.still hr Z (run_build w t f o x) ⟨o,rfl,U⟩
 ·cases d
theorem NX (W:HR P m h w)(hf:iY m h.next){u:TypeId}(B:P.underlying t=some (.slice e))(hs:jL P e=some sz)
  {Y v2 r:V} {x y:Value} {h':H} (hx:VR m Y x) (hy:VR m v2 y) (f:KH h sz Y v2=some (r,h')) (ty:TypeId):
  bD P m h w (Builtin.copy_ #[t,u] ty #[x,y]) r h':=by
 have l:=iO (w:=w) hs
 unfold KH at f
 split at f
 ·rename_i n k R N
  have o: ∀a b:Nat,Nat.min a b=min a b:=λ_ _=>rfl
  simp only at f
  split at f
  ·rename_i id A l1 c1 O v l2 c2
   simp only[wZ] at R N
   cases R;cases N
   obtain⟨p,c,o1,hp,rfl,_,z,_⟩:=hx
   obtain⟨p',c',o2,K,rfl,_,G,_⟩:=hy
   cases hrow:h.row O v (min k n*sz) with
   |none=>simp [hrow] at f
   |some ys=>
    simp only[hrow] at f
    cases hput:h.put id A ys with
    |none=>simp [hput] at f
    |some h2=>
     simp only[hput] at f;cases f;obtain⟨q,cc,Z,fr,hq,hb,_,J,U,h1⟩:=Cv W hrow;rw[K] at hq;cases hq;obtain⟨F,jI,j⟩:=Dq W hf hput U h1 hp;have hl:=lU (P:=P) hb J
     by_cases a0:0<min k n
     ·obtain rfl:=z om
      obtain rfl:=G om;refine⟨_,F,m,?_,(rfl:VR m (.int .i64 ((min k n:Nat):Int)) _),j⟩;simp [Builtin.copy_,run_underlying B,Builtin.lenOf,l,Builtin.firstCells,o,hl,jI,goInt]
     ·have i:min k n=0:=om
      have s:Nat.min k n=0:=i
      have hw:F=w:=by
       rw[i] at jI;simp [storeCells] at jI;exact jI.symm
      subst hw;refine⟨_,F,m,?_,(rfl:VR m (.int .i64 ((min k n:Nat):Int)) _),j⟩;rw[i];simp [Builtin.copy_,run_underlying B,Builtin.lenOf,l,s,Builtin.firstCells,loadCells,loadCellsFrom,storeCells,goInt]
  ·split at f
   ·rename_i Q
    cases f
    obtain⟨a,c,rfl⟩:=uX hx R
    obtain⟨b,d,rfl⟩:=uX hy N
    refine bD.still W hf (x:=goInt 0) ?_ rfl
    have i:Nat.min k n=0:=Q
    have L:(Builtin.firstCells sz 0 (.slice b k d)).run P w= .ok #[] w:=by
     cases b<;>simp [Builtin.firstCells,loadCells,loadCellsFrom]
    cases a<;>simp [Builtin.copy_,run_underlying B,Builtin.lenOf,l,i,L,storeCells]
   ·cases f
 ·cases f
end
end
end Go.Ay
