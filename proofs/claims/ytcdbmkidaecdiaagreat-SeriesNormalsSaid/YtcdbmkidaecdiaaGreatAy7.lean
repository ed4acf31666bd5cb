/- make, literals, copy, maps. -/
import Derived.Test.YtcdbmkidaecdiaaGreatAy6
import Derived.Laws.MakeOwn
import Derived.Great.BuildSlice
namespace Go.Ay
open Go
section
variable {e t:TypeId} {sz:Nat} {zu:V}
section
variable {P:Program} {m:M} {h:H} {w:World}
theorem M.pJ (m:M)(id:Nat)(p:Nat×Nat×Nat):(m.set id p) id=some p:=by simp [M.set]
theorem foldl_set (off:Nat): ∀(xs:List Value) (k:Nat) (cells:Array Value),off+k+xs.length<=cells.size->
  ((xs.zipIdx k).foldl (λcs (p:Value×Nat)=>cs.setIfInBounds (off+p.2) p.1) cells).toList=cells.toList.take (off+k)++xs++cells.toList.drop (off+k+xs.length)
 | [],k,cells,_=>by simp
 |x::xs,k,cells,h=>by
  simp only[List.zipIdx_cons,List.foldl_cons,List.length_cons] at h ⊢;rw[foldl_set off xs (k+1) _ (by simp;omega)];have:=list_seg_step cells.toList (off+k) x xs (by simp;omega);simp only[Array.toList_setIfInBounds];rw[show off+(k+1)=off+k+1 from om];rw[this]
theorem zE {place:Nat->Option (Nat×Nat)}: ∀(ps:List (Nat×Nat×V)) (qs:List (Nat×Value)) (cs us:List V) (xs:Array Value),iR m cs xs.toList->
  ps.length=qs.length->(∀(i:Nat) (a:Nat×Nat×V) (q:Nat×Value),ps[i]? =some a->qs[i]? =some q->place q.1=some (a.1,a.2.1)/\VR m a.2.2 q.2)->iK cs ps=some us->
  ∃ys,Instr.fill place xs qs=some ys/\iR m us ys.toList
 | [], [],cs,us,xs,hx,_,_,he=>by simp only[iK] at he;cases he;exact⟨xs,rfl,hx⟩
 |a::ps,q::qs,cs,us,xs,hx,hl,hp,he=>by
  obtain⟨b,n,v⟩:=a;obtain⟨i,y⟩:=q;obtain⟨k,l⟩:=hp 0 _ _ rfl rfl;simp only at k l;simp only[iK] at he;split at he
  ·rename_i r
   obtain⟨r,c⟩:=r
   cases hput:putAt cs b v.cells with
   |none=>simp [hput] at he
   |some cs'=>
    simp only[hput] at he;have s:=VR.cells l c;have g:=iR.length s;have f:=iR.length hx;obtain⟨rfl,u⟩:=Hb hput;simp only[Array.length_toList] at g f;have o:=foldl_set b y.cells.toList 0 xs (by simp;omega);simp only[Nat.add_zero] at o
    have d:iR m (cs.take b++v.cells++cs.drop (b+v.cells.length)) (((y.cells.toList.zipIdx 0).foldl (λcs (p:Value×Nat)=>cs.setIfInBounds (b+p.2) p.1) xs).toList):=by
     rw[o];have:b+v.cells.length=b+y.cells.toList.length:=by simp;omega
     rw[this];exact ((hx.take _).append s).append (hx.drop _)
    obtain⟨ys,B,x⟩:=zE ps qs _ us _ d (by simpa using hl) (λj a q z A=>hp (j+1) a q (by simpa using z) (by simpa using A)) he;refine⟨ys,?_,x⟩;simp only[Instr.fill,k];rw[bU]
    ·rw[←B]
     congr 1;rw[←Array.foldl_toList,Array.toList_zipIdx]
    ·simp;omega
  ·cases he
 | [],_::_,_,_,_,_,hl,_,_=>by simp at hl
 |_::_, [],_,_,_,_,hl,_,_=>by simp at hl
theorem qY (m:M){u:V}{i:TypeInfo}{z:Value}(h:sY P e=some u)(hi:P.info? e=some i)(d:i.zero=some z):iR m u.cells z.cells.toList/\(∀c∈u.cells,c.one=true)/\VR m u z:=by
 unfold sY at h;simp only[hi,Option.bind_some,d,Option.filter_eq_some_iff] at h;have b:=Li m h.1;have a:=Mg h.1 (λe=>by rw[e] at h;simp [aeM] at h);exact⟨b.cells (zP.2 a),a,b⟩
theorem Bt {zero:List V}{z:Array Value}(r:iR m zero z.toList)(d:0<zero.length)(n:Nat):
  iR m (dP zero n) ((Array.range n).map (z[· %z.size]!)).toList:=by
 have k:=iR.length r
 simp only[Array.length_toList] at k
 refine iR.eM (by simp [dP]) (λi v q=>?_)
 simp only[dP,Qy,oU] at q
 obtain⟨j,s,rfl⟩:=q
 have g:i<n/\j=i:=by
  obtain⟨l,o⟩:=vJ.1 s;simp at l o;exact⟨l,o.symm⟩
 obtain⟨hi,rfl⟩:=g
 have a:j%zero.length<zero.length:=Nat.mod_lt _ d
 obtain⟨x,p,f⟩:=r.get (i:=j%zero.length) (dD a)
 refine⟨z[j%z.size]!,by simp [hi],?_⟩
 have:zero.getD (j%zero.length) V.undef=zero[j%zero.length]:=by simp [List.getD,a]
 rw[this]
 have c:j%z.size<z.size:=by rw[←k];exact a
 have:z[j%z.size]! =x:=by
  rw[getElem!_pos z _ c];have b:z[j%z.size]? =some x:=by rw[k] at p;simpa using p
  rw[HF] at b;exact b.2
 rw[this];exact f
theorem Qp {zero:List V}(h: ∀c∈zero,c.one=true)(b:0<zero.length)(n:Nat): ∀c∈dP zero n,c.one=true:=by
 intro c d;simp only[dP,pH] at d;obtain⟨i,_,rfl⟩:=d;have a:i%zero.length<zero.length:=Nat.mod_lt _ b;have:zero.getD (i%zero.length) V.undef=zero[i%zero.length]:=by simp [List.getD,a]
 rw[this];exact h _ (xG a)
theorem MU (N:HR P m h w)(G:iY m h.next){bytes:Nat}(K:P.underlying t=some (.slice e))(B:jL P e=some sz)(Q:Ba P e=some bytes)
  (U:sY P e=some zu) (s:BL P e sz=true) (F:sz≠0) {l c r:V} {x y:Value} {h':H} (L:VR m l x) (R:VR m c y) (d:Jz h sz bytes zu.cells l c=some (r,h')):
  bD P m h w (Instr.makeSlice t x y) r h':=by
 obtain⟨i,hi,o,q⟩:=BK B Q
 obtain⟨W,z,g,k,p⟩:=Jd s
 rw[hi] at g;cases g
 subst o
 subst q
 obtain⟨j,n,_⟩:=qY m U hi k
 have J:zu.cells.length=i.size:=by rw[iR.length j];simpa using p
 cases l<;>simp only[Jz] at d<;>try cases d
 cases c<;>simp only at d<;>try cases d
 rename_i v l u c
 split at d
 ·rename_i A
  cases d
  obtain rfl:x= .int v l:=L
  obtain rfl:y= .int u c:=R
  have a:(i.bytes:Int)*c<=281474976710656:=by rw[Int.mul_comm];omega
  have f:=run_make w t e i z K hi k v u l c A.1 A.2.1 a om
  have O:=Bt j om (c.toNat*i.size)
  have b:=xU N G [] O (Qp n om _) e
  simp only[tZ,Array.toArray_toList] at b
  refine⟨_,_,_,f,⟨_,_,0,M.pJ ..,rfl,om,λ_=>rfl,rfl,rfl⟩,b⟩
 ·cases d
theorem KV (U:HR P m h w)(L:iY m h.next){n:Nat}(B:P.underlying t=some (.slice e))(r:jL P e=some sz)
  (Z:sY P e=some zu) (y:BL P e sz=true) (K:sz≠0) (c: ¬n*sz>2^24) {ps:List (Nat×Nat×V)} {g:Array (Nat×Value)} {us:List V} (Y:ps.length=g.size)
  (J: ∀(j:Nat) (a:Nat×Nat×V) (q:Nat×Value),ps[j]? =some a->g.toList[j]? =some q->some (q.1*sz,sz)=some (a.1,a.2.1)/\VR m a.2.2 q.2)
  (R:iK (dP zu.cells (n*sz)) ps=some us) (G: ∀v∈us,v.one=true):
  bD P m h w (Instr.buildSlice t n g) (.sl h.next 0 n (.kn n)) (h.new (.cells false us)):=by
 obtain⟨A,z,b,o,x⟩:=Jd y
 have d:A.size=sz:=by unfold jL at r;rw[b] at r;simpa using r
 obtain⟨l,O,_⟩:=qY m Z b o
 have N:zu.cells.length=sz:=by rw[iR.length l];simpa using x
 have W:=Bt l om (n*sz)
 obtain⟨F,u,Q⟩:=zE (place:=λi=>some (i*sz,sz)) ps g.toList _ us _ W (by simpa using Y) J R
 have f:=xU U L [] Q G e
 simp only[tZ,Array.toArray_toList] at f
 have k:(Instr.buildSlice t n g).run P w= .ok (.slice (some ⟨w.heap.size,0,none⟩) n n) (w.alloc (.cells F e)):=by
  by_cases s:n*sz=0
  ·rw[s,show ((Array.range 0).map (z.cells[· %z.cells.size]!))=(#[]:Array Value) from by simp] at u
   have p:(Array.range 0).map (λ(_:Nat)=>(default:Value))= #[]:=by simp
   simp [Instr.buildSlice,run_underlying B,sizeOf,typeInfo,b,d,s,newRow,p,u]
  ·exact run_buildSlice w t e n g F A z B b o (by rw[d];exact c) (by rw[d];exact s) (by rw[d];exact u)
 exact⟨_,_,_,k,⟨_,_,0,M.pJ ..,rfl,dT _,λ_=>rfl,rfl,rfl⟩,f⟩
theorem Xv {a:Array Field}{ps:List (Nat×Nat)}(h:Bm P a=some ps):a.toList.mapM (λf=>(P.info? f.type).map λi=>(f.offset,i.size))=some ps:=h
theorem KK (Z:HR P m h w)(W:iY m h.next)(G:sY P t=some zu){c:List (Nat×X)}{ps:List (Nat×Nat×X)}(d:DB P t c=some ps)
  {ρ:X->V} {f:Array (Nat×Value)} (hl:c.length=f.size) (hq: ∀(j:Nat) (a:Nat×X) (q:Nat×Value),c[j]? =some a->f.toList[j]? =some q->q.1=a.1/\VR m (ρ a.2) q.2)
  {us:List V} (Y:iK zu.cells (ps.map λp=>(p.1,p.2.1,ρ p.2.2))=some us):
  bD P m h w (Instr.build t f) (.agg us) h:=by
 unfold DB at d
 have g: ∃i z,P.info? t=some i/\i.zero=some z:=by
  unfold sY at G
  cases hi:P.info? t with
  |none=>simp [hi] at G
  |some i=>
   cases hzz:i.zero with
   |none=>simp [hi,hzz] at G
   |some z=>exact⟨i,z,rfl,hzz⟩
 obtain⟨i,z,hi,u⟩:=g
 obtain⟨y,_,_⟩:=qY m G hi u
 split at d
 ·rename_i fs o
  cases hfp:Bm P fs with
  |none=>simp [hfp] at d
  |some pls=>
   simp only[hfp] at d;obtain⟨a1,a2⟩:=jC d
   obtain⟨k,K,O⟩:=zE (place:=(pls.toArray[·]?)) (ps.map λp=>(p.1,p.2.1,ρ p.2.2)) f.toList zu.cells us z.cells y (by simp [a1];omega) (λj a q x l=>by
    simp only[Qy,oU] at x;obtain⟨p,B,rfl⟩:=x;have U:j<c.length:=by have:=(vJ.1 B).1;omega
    obtain⟨b,v,A⟩:=a2 j c[j] (dD U);rw[B] at v;cases v;obtain⟨R,N⟩:=hq j _ q (dD U) l;simp only[oU] at A;obtain⟨r,Q,rfl⟩:=A
    exact⟨by simp only[List.getElem?_toArray,R];rw[Q],N⟩) Y
   have v:P.built t f.toList=some k:=by
    unfold Program.built;simp only[hi,o,u,Xv hfp];exact K
   exact bD.still Z W (run_build w t f k v) ⟨k,rfl,O⟩
 ·rename_i n e o
  simp only[oU] at d
  obtain⟨s,J,rfl⟩:=d
  unfold jL at J
  simp only[oU] at J
  obtain⟨F,L,rfl⟩:=J
  obtain⟨k,K,O⟩:=zE (place:=λj=>some (j*F.size,F.size)) ((c.map λp=>(p.1*F.size,F.size,p.2)).map λp=>(p.1,p.2.1,ρ p.2.2)) f.toList zu.cells us z.cells y (by simp;omega) (λj a q x l=>by
   simp only[List.map_map,Qy,oU] at x;obtain⟨p,B,rfl⟩:=x;obtain⟨R,N⟩:=hq j _ q B l
   exact⟨by simp [R],N⟩) Y
  have v:P.built t f.toList=some k:=by
   unfold Program.built;simp only[hi,o,u,L];exact K
  exact bD.still Z W (run_build w t f k v) ⟨k,rfl,O⟩
 ·cases d
theorem NX (K:HR P m h w)(W:iY m h.next){u:TypeId}(R:P.underlying t=some (.slice e))(hs:jL P e=some sz)
  {v1 Z r:V} {x y:Value} {h':H} (Y:VR m v1 x) (hy:VR m Z y) (f:KH h sz v1 Z=some (r,h')) (ty:TypeId):
  bD P m h w (Builtin.copy_ #[t,u] ty #[x,y]) r h':=by
 have j:=iO (w:=w) hs
 unfold KH at f
 split at f
 ·rename_i n k J O
  have o: ∀a b:Nat,Nat.min a b=min a b:=λ_ _=>rfl
  simp only at f
  split at f
  ·rename_i id N l1 c1 v l l2 c2
   simp only[wZ] at J O
   cases J;cases O
   obtain⟨p,c,o1,hp,rfl,_,G,_⟩:=Y
   obtain⟨p',c',o2,U,rfl,_,z,_⟩:=hy
   cases hrow:h.row v l (min k n*sz) with
   |none=>simp [hrow] at f
   |some ys=>
    simp only[hrow] at f
    cases hput:h.put id N ys with
    |none=>simp [hput] at f
    |some h2=>
     simp only[hput] at f;cases f;obtain⟨q,cc,a0,fr,hq,hb,_,Q,A,h1⟩:=Cv K hrow;rw[U] at hq;cases hq;obtain⟨L,jI,i⟩:=Dq K W hput A h1 hp;have hl:=lU (P:=P) hb Q
     by_cases a1:0<min k n
     ·obtain rfl:=G om
      obtain rfl:=z om;refine⟨_,L,m,?_,(rfl:VR m (.int .i64 ((min k n:Nat):Int)) _),i⟩;simp [Builtin.copy_,run_underlying R,Builtin.lenOf,j,Builtin.firstCells,o,hl,jI,goInt]
     ·have g:min k n=0:=om
      have s:Nat.min k n=0:=g
      have hw:L=w:=by
       rw[g] at jI;simp [storeCells] at jI;exact jI.symm
      subst hw;refine⟨_,L,m,?_,(rfl:VR m (.int .i64 ((min k n:Nat):Int)) _),i⟩;rw[g];simp [Builtin.copy_,run_underlying R,Builtin.lenOf,j,s,Builtin.firstCells,loadCells,loadCellsFrom,storeCells,goInt]
  ·split at f
   ·rename_i F
    cases f
    obtain⟨a,c,rfl⟩:=uX Y J
    obtain⟨b,d,rfl⟩:=uX hy O
    refine bD.still K W (x:=goInt 0) ?_ rfl
    have g:Nat.min k n=0:=F
    have B:(Builtin.firstCells sz 0 (.slice b k d)).run P w= .ok #[] w:=by
     cases b<;>simp [Builtin.firstCells,loadCells,loadCellsFrom]
    cases a<;>simp [Builtin.copy_,run_underlying R,Builtin.lenOf,j,g,B,storeCells]
   ·cases f
 ·cases f
end
end
end Go.Ay
