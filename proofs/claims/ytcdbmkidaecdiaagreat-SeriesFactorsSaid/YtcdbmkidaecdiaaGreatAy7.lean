/- make, literals, copy, maps. -/
import Derived.Test.YtcdbmkidaecdiaaGreatAy6
import Derived.Laws.MakeOwn
import Derived.Great.BuildSlice
namespace Go.Ay
open Go
section
variable {e t kt:TypeId} {sz:Nat} {zu:V} {x y:Value} {es:List (V×V)} {kk j:IntKind} {n:Int}
section
variable {P:Program} {m:M} {h:H} {w:World}
theorem M.jR (m:M)(id:Nat)(p:Nat×Nat×Nat):(m.set id p) id=some p:=by simp [M.set]
theorem foldl_set (off:Nat): ∀(xs:List Value) (k:Nat) (cells:Array Value),off+k+xs.length<=cells.size->
  ((xs.zipIdx k).foldl (λcs (p:Value×Nat)=>cs.setIfInBounds (off+p.2) p.1) cells).toList=cells.toList.take (off+k)++xs++cells.toList.drop (off+k+xs.length)
 | [],k,cells,_=>by simp
 |x::xs,k,cells,h=>by
  simp only[List.zipIdx_cons,List.foldl_cons,List.length_cons] at h ⊢;rw[foldl_set off xs (k+1) _ (by simp;omega)];have:=list_seg_step cells.toList (off+k) x xs (by simp;omega);simp only[Array.toList_setIfInBounds];rw[show off+(k+1)=off+k+1 from om];rw[this]
theorem yA {place:Nat->Option (Nat×Nat)}: ∀(ps:List (Nat×Nat×V)) (qs:List (Nat×Value)) (cs us:List V) (xs:Array Value),gZ m cs xs.toList->
  ps.length=qs.length->(∀(i:Nat) (a:Nat×Nat×V) (q:Nat×Value),ps[i]? =some a->qs[i]? =some q->place q.1=some (a.1,a.2.1)/\VR m a.2.2 q.2)->iS cs ps=some us->
  ∃ys,Instr.fill place xs qs=some ys/\gZ m us ys.toList
 | [], [],cs,us,xs,hx,_,_,he=>by simp only[iS] at he;cases he;exact⟨xs,rfl,hx⟩
 |a::ps,q::qs,cs,us,xs,hx,hl,hp,he=>by
  obtain⟨b,n,v⟩:=a;obtain⟨i,y⟩:=q;obtain⟨s,l⟩:=hp 0 _ _ rfl rfl;simp only at s l;simp only[iS] at he;split at he
  ·rename_i o
   obtain⟨o,c⟩:=o
   cases hput:putAt cs b v.cells with
   |none=>simp [hput] at he
   |some cs'=>
    simp only[hput] at he;have u:=VR.cells l c;have d:=gZ.length u;have k:=gZ.length hx;obtain⟨rfl,A⟩:=Fy hput;simp only[Array.length_toList] at d k;have r:=foldl_set b y.cells.toList 0 xs (by simp;omega);simp only[Nat.add_zero] at r
    have f:gZ m (cs.take b++v.cells++cs.drop (b+v.cells.length)) (((y.cells.toList.zipIdx 0).foldl (λcs (p:Value×Nat)=>cs.setIfInBounds (b+p.2) p.1) xs).toList):=by
     rw[r];have:b+v.cells.length=b+y.cells.toList.length:=by simp;omega
     rw[this];exact ((hx.take _).append u).append (hx.drop _)
    obtain⟨ys,G,z⟩:=yA ps qs _ us _ f (by simpa using hl) (λj a q F B=>hp (j+1) a q (by simpa using F) (by simpa using B)) he;refine⟨ys,?_,z⟩;simp only[Instr.fill,s];rw[bI]
    ·rw[←G]
     congr 1;rw[←Array.foldl_toList,Array.toList_zipIdx]
    ·simp;omega
  ·cases he
 | [],_::_,_,_,_,_,hl,_,_=>by simp at hl
 |_::_, [],_,_,_,_,hl,_,_=>by simp at hl
theorem kC (m:M){u:V}{i:TypeInfo}{z:Value}(h:lV P e=some u)(hi:P.info? e=some i)(d:i.zero=some z):gZ m u.cells z.cells.toList/\(∀c∈u.cells,c.one=true)/\VR m u z:=by
 unfold lV at h;simp only[hi,Option.bind_some,d,Option.filter_eq_some_iff] at h;have a:=Ju m h.1;have b:=Ks h.1 (λe=>by rw[e] at h;simp [acT] at h);exact⟨a.cells (Kv.2 b),b,a⟩
theorem uZ {zero:List V}{z:Array Value}(q:gZ m zero z.toList)(d:0<zero.length)(n:Nat):
  gZ m (cX zero n) ((Array.range n).map (z[· %z.size]!)).toList:=by
 have l:=gZ.length q
 simp only[Array.length_toList] at l
 refine gZ.mQ (by simp [cX]) (λi v p=>?_)
 simp only[cX,Ol,mJ] at p
 obtain⟨j,u,rfl⟩:=p
 have k:i<n/\j=i:=by
  obtain⟨s,o⟩:=Ax.1 u;simp at s o;exact⟨s,o.symm⟩
 obtain⟨hi,rfl⟩:=k
 have a:j%zero.length<zero.length:=Nat.mod_lt _ d
 obtain⟨x,r,f⟩:=q.get (i:=j%zero.length) (dD a)
 refine⟨z[j%z.size]!,by simp [hi],?_⟩
 have:zero.getD (j%zero.length) V.undef=zero[j%zero.length]:=by simp [List.getD,a]
 rw[this]
 have b:j%z.size<z.size:=by rw[←l];exact a
 have:z[j%z.size]! =x:=by
  rw[getElem!_pos z _ b];have c:z[j%z.size]? =some x:=by rw[l] at r;simpa using r
  rw[AS] at c;exact c.2
 rw[this];exact f
theorem Ed {zero:List V}(h: ∀c∈zero,c.one=true)(b:0<zero.length)(n:Nat): ∀c∈cX zero n,c.one=true:=by
 intro c d;simp only[cX,uF] at d;obtain⟨i,_,rfl⟩:=d;have a:i%zero.length<zero.length:=Nat.mod_lt _ b;have:zero.getD (i%zero.length) V.undef=zero[i%zero.length]:=by simp [List.getD,a]
 rw[this];exact h _ (zG a)
theorem MS (Y:HR P m h w)(Z:Al m h.next){bytes:Nat}(O:P.underlying t=some (.slice e))(R:iV P e=some sz)(K:zW P e=some bytes)
  (N:lV P e=some zu) (u:mC P e sz=true) (W:sz≠0) {l c r:V}  {h':H} (U:VR m l x) (Q:VR m c y) (d:Jo h sz bytes zu.cells l c=some (r,h')):
  aT P m h w (Instr.makeSlice t x y) r h':=by
 obtain⟨i,hi,A,v⟩:=Zz R K
 obtain⟨i',z,p,k,s⟩:=Gn u
 rw[hi] at p;cases p
 subst A
 subst v
 obtain⟨f,q,_⟩:=kC m N hi k
 have L:zu.cells.length=i.size:=by rw[gZ.length f];simpa using s
 cases l<;>simp only[Jo] at d<;>try cases d
 cases c<;>simp only at d<;>try cases d
 rename_i B l F c
 split at d
 ·rename_i G
  cases d
  obtain rfl:x= .int B l:=U
  obtain rfl:y= .int F c:=Q
  have a:(i.bytes:Int)*c<=281474976710656:=by rw[Int.mul_comm];omega
  have o:=run_make w t e i z O hi k B F l c G.1 G.2.1 a om
  have J:=uZ f om (c.toNat*i.size)
  have b:=wQ Y Z [] J (Ed q om _) e
  simp only[vF,Array.toArray_toList] at b
  refine⟨_,_,_,o,⟨_,_,0,M.jR ..,rfl,om,λ_=>rfl,rfl,rfl⟩,b⟩
 ·cases d
theorem KP (hr:HR P m h w)(hf:Al m h.next){n:Nat}(G:P.underlying t=some (.slice e))(u:iV P e=some sz)
  (R:lV P e=some zu) (F:mC P e sz=true) (Y:sz≠0) (b: ¬n*sz>2^24) {ps:List (Nat×Nat×V)} {k:Array (Nat×Value)} {us:List V} (hl:ps.length=k.size)
  (U: ∀(j:Nat) (a:Nat×Nat×V) (q:Nat×Value),ps[j]? =some a->k.toList[j]? =some q->some (q.1*sz,sz)=some (a.1,a.2.1)/\VR m a.2.2 q.2)
  (Z:iS (cX zu.cells (n*sz)) ps=some us) (W: ∀v∈us,v.one=true):
  aT P m h w (Instr.buildSlice t n k) (.sl h.next 0 n (.kn n)) (h.new (.cells false us)):=by
 obtain⟨K,z,d,l,s⟩:=Gn F
 have c:K.size=sz:=by unfold iV at u;rw[d] at u;simpa using u
 obtain⟨p,O,_⟩:=kC m R d l
 have Q:zu.cells.length=sz:=by rw[gZ.length p];simpa using s
 have L:=uZ p om (n*sz)
 obtain⟨J,A,N⟩:=yA (place:=λi=>some (i*sz,sz)) ps k.toList _ us _ L (by simpa using hl) U Z
 have f:=wQ hr hf [] N W e
 simp only[vF,Array.toArray_toList] at f
 have o:(Instr.buildSlice t n k).run P w= .ok (.slice (some ⟨w.heap.size,0,none⟩) n n) (w.alloc (.cells J e)):=by
  by_cases r:n*sz=0
  ·rw[r,show ((Array.range 0).map (z.cells[· %z.cells.size]!))=(#[]:Array Value) from by simp] at A
   have B:(Array.range 0).map (λ(_:Nat)=>(default:Value))= #[]:=by simp
   simp [Instr.buildSlice,run_underlying G,sizeOf,typeInfo,d,c,r,newRow,B,A]
  ·exact run_buildSlice w t e n k J K z G d l (by rw[c];exact b) (by rw[c];exact r) (by rw[c];exact A)
 exact⟨_,_,_,o,⟨_,_,0,M.jR ..,rfl,fM _,λ_=>rfl,rfl,rfl⟩,f⟩
theorem Zx {a:Array Field}{ps:List (Nat×Nat)}(h:Az P a=some ps):a.toList.mapM (λf=>(P.info? f.type).map λi=>(f.offset,i.size))=some ps:=h
theorem JG (hr:HR P m h w)(hf:Al m h.next)(J:lV P t=some zu){c:List (Nat×X)}{ps:List (Nat×Nat×X)}(d:CB P t c=some ps)
  {ρ:X->V} {f:Array (Nat×Value)} (hl:c.length=f.size) (Z: ∀(j:Nat) (a:Nat×X) (q:Nat×Value),c[j]? =some a->f.toList[j]? =some q->q.1=a.1/\VR m (ρ a.2) q.2)
  {us:List V} (he:iS zu.cells (ps.map λp=>(p.1,p.2.1,ρ p.2.2))=some us):
  aT P m h w (Instr.build t f) (.agg us) h:=by
 unfold CB at d
 have o: ∃i z,P.info? t=some i/\i.zero=some z:=by
  unfold lV at J
  cases hi:P.info? t with
  |none=>simp [hi] at J
  |some i=>
   cases hzz:i.zero with
   |none=>simp [hi,hzz] at J
   |some z=>exact⟨i,z,rfl,hzz⟩
 obtain⟨i,z,hi,k⟩:=o
 obtain⟨G,_,_⟩:=kC m J hi k
 split at d
 ·rename_i fs v
  cases hfp:Az P fs with
  |none=>simp [hfp] at d
  |some pls=>
   simp only[hfp] at d;obtain⟨a1,a2⟩:=jD d
   obtain⟨u,Q,R⟩:=yA (place:=(pls.toArray[·]?)) (ps.map λp=>(p.1,p.2.1,ρ p.2.2)) f.toList zu.cells us z.cells G (by simp [a1];omega) (λj a q B l=>by
    simp only[Ol,mJ] at B;obtain⟨p,L,rfl⟩:=B;have hj:j<c.length:=by have:=(Ax.1 L).1;omega
    obtain⟨b,A,F⟩:=a2 j c[j] (dD hj);rw[L] at A;cases A;obtain⟨U,N⟩:=Z j _ q (dD hj) l;simp only[mJ] at F;obtain⟨r,O,rfl⟩:=F
    exact⟨by simp only[List.getElem?_toArray,U];rw[O],N⟩) he
   have A:P.built t f.toList=some u:=by
    unfold Program.built;simp only[hi,v,k,Zx hfp];exact Q
   exact aT.still hr hf (run_build w t f u A) ⟨u,rfl,R⟩
 ·rename_i n e v
  simp only[mJ] at d
  obtain⟨s,Y,rfl⟩:=d
  unfold iV at Y
  simp only[mJ] at Y
  obtain⟨K,W,rfl⟩:=Y
  obtain⟨u,Q,R⟩:=yA (place:=λj=>some (j*K.size,K.size)) ((c.map λp=>(p.1*K.size,K.size,p.2)).map λp=>(p.1,p.2.1,ρ p.2.2)) f.toList zu.cells us z.cells G (by simp;omega) (λj a q B l=>by
   simp only[List.map_map,Ol,mJ] at B;obtain⟨p,L,rfl⟩:=B;obtain⟨U,N⟩:=Z j _ q L l
   exact⟨by simp [U],N⟩) he
  have A:P.built t f.toList=some u:=by
   unfold Program.built;simp only[hi,v,k,W];exact Q
  exact aT.still hr hf (run_build w t f u A) ⟨u,rfl,R⟩
 ·cases d
theorem JP (W:HR P m h w)(hf:Al m h.next){u:TypeId}(N:P.underlying t=some (.slice e))(hs:iV P e=some sz)
  {v1 Z r:V}  {h':H} (hx:VR m v1 x) (hy:VR m Z y) (f:ZO h sz v1 Z=some (r,h')) (ty:TypeId):
  aT P m h w (Builtin.copy_ #[t,u] ty #[x,y]) r h':=by
 have o:=uP (w:=w) hs
 unfold ZO at f
 split at f
 ·rename_i n k J B
  have z: ∀a b:Nat,Nat.min a b=min a b:=λ_ _=>rfl
  simp only at f
  split at f
  ·rename_i id Q l1 c1 A s l2 c2
   simp only[sW] at J B
   cases J;cases B
   obtain⟨p,c,o1,hp,rfl,_,O,_⟩:=hx
   obtain⟨p',c',o2,U,rfl,_,F,_⟩:=hy
   cases hrow:h.row A s (min k n*sz) with
   |none=>simp [hrow] at f
   |some ys=>
    simp only[hrow] at f
    cases hput:h.put id Q ys with
    |none=>simp [hput] at f
    |some h2=>
     simp only[hput] at f;cases f;obtain⟨q,cc,a0,fr,hq,hb,_,R,Y,h1⟩:=Cn W hrow;rw[U] at hq;cases hq;obtain⟨L,iP,l⟩:=Bx W hf hput Y h1 hp;have hl:=lE (P:=P) hb R
     by_cases a1:0<min k n
     ·obtain rfl:=O om
      obtain rfl:=F om;refine⟨_,L,m,?_,(rfl:VR m (.int .i64 ((min k n:Nat):Int)) _),l⟩;simp [Builtin.copy_,run_underlying N,Builtin.lenOf,o,Builtin.firstCells,z,hl,iP,goInt]
     ·have i:min k n=0:=om
      have v:Nat.min k n=0:=i
      have hw:L=w:=by
       rw[i] at iP;simp [storeCells] at iP;exact iP.symm
      subst hw;refine⟨_,L,m,?_,(rfl:VR m (.int .i64 ((min k n:Nat):Int)) _),l⟩;rw[i];simp [Builtin.copy_,run_underlying N,Builtin.lenOf,o,v,Builtin.firstCells,loadCells,loadCellsFrom,storeCells,goInt]
  ·split at f
   ·rename_i G
    cases f
    obtain⟨a,c,rfl⟩:=tW hx J
    obtain⟨b,d,rfl⟩:=tW hy B
    refine aT.still W hf (x:=goInt 0) ?_ rfl
    have i:Nat.min k n=0:=G
    have K:(Builtin.firstCells sz 0 (.slice b k d)).run P w= .ok #[] w:=by
     cases b<;>simp [Builtin.firstCells,loadCells,loadCellsFrom]
    cases a<;>simp [Builtin.copy_,run_underlying N,Builtin.lenOf,o,i,K,storeCells]
   ·cases f
 ·cases f
def Mv (m:M)(es:List (V×V))(es':List MapEntry):Prop:=
 es.length=es'.length/\ ∀(i:Nat) (k v:V),es[i]? =some (k,v)-> ∃e:MapEntry,es'[i]? =some e/\VR m k e.key/\VR m v e.val
theorem ajX {k v:V}{e:MapEntry}{a:List MapEntry}(h:Mv m ((k,v)::es) (e::a)):VR m k e.key/\VR m v e.val/\Mv m es a:=by
 obtain⟨l,c⟩:=h;obtain⟨o,b,d,f⟩:=c 0 k v rfl;simp at b;subst b;exact⟨d,f,by simpa using l,λi k v hi=>by simpa using c (i+1) k v (by simpa using hi)⟩
theorem Mt {kk:IntKind}{n:Int}: ∀{es:List (V×V)} {es':List MapEntry} (i:Nat),Mv m es es'->tQ kk es=true-> ∀j,
  (match zQ kk n es with
   |some v=> ∃l x,Instr.findNow (.int j) (.int kk n) es' i=some (some (i+l,x))/\VR m v x/\l<es.length
   |none=>Instr.findNow (.int j) (.int kk n) es' i=some none)
 | [],es',i,h,_,j=>by
  obtain⟨p,_⟩:=h
  cases es' with
  |nil=>simp [zQ,Instr.findNow]
  |cons _ _=>simp at p
 |(k,v)::es,es',i,h,c,j=>by
  cases es' with
  |nil=>simp [Mv] at h
  |cons e es'=>
   obtain⟨d,r,b⟩:=ajX h
   cases k with
   |int k' n'=>
    simp only[tQ,vN,beq_iff_eq] at c;obtain⟨rfl,c⟩:=c;have a:e.key= .int k' n':=d;simp only[zQ,if_true]
    by_cases o:n=n'
    ·subst o
     rw[bF rfl];exact⟨0,e.val,by simp [Instr.findNow,Instr.sameNow,a],r,by simp⟩
    ·rw[bI o]
     have f:=Mt (n:=n) (i+1) b c j
     have s:Instr.findNow (.int j) (.int k' n) (e::es') i=Instr.findNow (.int j) (.int k' n) es' (i+1):=by
      simp [Instr.findNow,Instr.sameNow,a,show (n==n')=false from by simpa using o]
     rw[s]
     cases hf:zQ k' n es with
     |none=>simpa [hf] using f
     |some u=>
      simp only[hf] at f ⊢;obtain⟨l,x,p,q,z⟩:=f;exact⟨l+1,x,by rw[p];congr 3;omega,q,by simp;omega⟩
   |_=>simp [tQ] at c
theorem Gr (a:P.underlying kt=some (.int j))(b:Bool)(n:Nat)(x:Value):(Instr.checkKey b (n+1) kt x).run P w= .ok () w:=by
 simp [Instr.checkKey,run_underlying a]
theorem JE (G:HR P m h w)(N:Al m h.next){K:TypeId}(L:P.underlying t=some (.map kt K))(s:P.underlying kt=some (.int j))(J:lV P K=some zu)
  {id:Nat}     (hx:VR m (.mp id) x) (U:VR m (.int kk n) y) (Z:h.get id=some (.map es)) (d:tQ kk es=true) (ok:Bool):
  aT P m h w (Instr.lookup t x y ok) (match zQ kk n es with|some v=>(if ok then .tup [v,.bool true] else v)|none=>(if ok then .tup [zu,.bool false] else zu)) h:=by
 obtain⟨p,Y,rfl⟩:=hx
 obtain rfl:y= .int kk n:=U
 obtain⟨p',F,f,o,W,u,Q⟩:=G.live id _ Z
 rw[Y] at F;cases F
 have A:Mv m es f.toList:=⟨by simpa using u,λi k v hi=>by simpa using Q i k v hi⟩
 have a:=Mt (n:=n) 0 A d j
 have b:(getObj p.1).run P w= .ok (.map f o) w:=by simp [getObj,Sem.run,W]
 have c:=Gr (w:=w) s f.isEmpty 9999 (.int kk n)
 have r: ∃i z,P.info? K=some i/\i.zero=some z:=by
  unfold lV at J
  cases hi:P.info? K with
  |none=>simp [hi] at J
  |some i=>
   cases hzz:i.zero with
   |none=>simp [hi,hzz] at J
   |some z=>exact⟨i,z,rfl,hzz⟩
 obtain⟨i,z,hi,q⟩:=r
 obtain⟨_,_,B⟩:=kC m J hi q
 cases hf2:zQ kk n es with
 |some v=>
  simp only[hf2] at a;obtain⟨l,x,O,R,_⟩:=a;simp only[Nat.zero_add] at O
  cases ok with
  |true=>
   refine aT.still G N (x:= .tuple #[x,.bool true]) ?_ ⟨_,rfl,R,rfl,trivial⟩;simp [Instr.lookup,run_underlying L,b,c,Instr.findKey,run_underlying s,O]
  |false=>
   refine aT.still G N (x:=x) ?_ R;simp [Instr.lookup,run_underlying L,b,c,Instr.findKey,run_underlying s,O]
 |none=>
  simp only[hf2] at a
  cases ok with
  |true=>
   refine aT.still G N (x:= .tuple #[z,.bool false]) ?_ ⟨_,rfl,B,rfl,trivial⟩;simp [Instr.lookup,run_underlying L,b,c,Instr.findKey,run_underlying s,a,zeroValue,typeInfo,hi,q]
  |false=>
   refine aT.still G N (x:=z) ?_ B;simp [Instr.lookup,run_underlying L,b,c,Instr.findKey,run_underlying s,a,zeroValue,typeInfo,hi,q]
theorem Tc {kk:IntKind}{n:Int}{y:V}{s:Value}(r:VR m y s): ∀{es:List (V×V)} {es':List MapEntry} (i:Nat),Mv m es es'->tQ kk es=true-> ∀(j:IntKind) (born:Nat),
  (∃l x,Instr.findNow (.int j) (.int kk n) es' i=some (some (i+l,x))/\(∃e,es'[l]? =some e/\e.key= .int kk n)/\Mv m (Ih kk n y es) (es'.modify l λe=>{e with key:= .int kk n,val:=s}))∨
  (Instr.findNow (.int j) (.int kk n) es' i=some none/\Mv m (Ih kk n y es) (es'++ [{key:= .int kk n,val:=s,born:=born}]))
 | [],es',i,h,_,j,born=>by
  obtain⟨p,_⟩:=h
  cases es' with
  |nil=>
   refine .inr ⟨by simp [Instr.findNow],by simp [Ih],λq k v b=>?_⟩
   cases q with
   |zero=>simp [Ih] at b;obtain⟨rfl,rfl⟩:=b;exact⟨_,rfl,rfl,r⟩
   |succ q=>simp [Ih] at b
  |cons _ _=>simp at p
 |(k,v)::es,es',i,h,o,j,born=>by
  cases es' with
  |nil=>simp [Mv] at h
  |cons e es'=>
   obtain⟨d,z,a⟩:=ajX h
   cases k with
   |int k' n'=>
    simp only[tQ,vN,beq_iff_eq] at o;obtain⟨rfl,o⟩:=o;have c:e.key= .int k' n':=d;simp only[Ih]
    by_cases u:n=n'
    ·subst u
     rw[bF rfl];refine .inl ⟨0,e.val,by simp [Instr.findNow,Instr.sameNow,c],⟨e,rfl,c⟩,by simp [a.1],λq k v b=>?_⟩
     cases q with
     |zero=>simp at b;obtain⟨rfl,rfl⟩:=b;exact⟨_,rfl,rfl,r⟩
     |succ q=>simpa using a.2 q k v (by simpa using b)
    ·rw[bI u]
     have F:Instr.findNow (.int j) (.int k' n) (e::es') i=Instr.findNow (.int j) (.int k' n) es' (i+1):=by
      simp [Instr.findNow,Instr.sameNow,c,show (n==n')=false from by simpa using u]
     rw[F];rcases Tc (n:=n) r (i+1) a o j born with ⟨l,x,p,⟨B,A,G⟩,f⟩|⟨p,f⟩
     ·refine .inl ⟨l+1,x,by rw[p];congr 3;omega,⟨B,by simpa using A,G⟩,by simpa using f.1,λq k v b=>?_⟩
      cases q with
      |zero=>simp at b;obtain⟨rfl,rfl⟩:=b;exact⟨e,rfl,d,z⟩
      |succ q=>simpa using f.2 q k v (by simpa using b)
     ·refine .inr ⟨p,by simpa using f.1,λq k v b=>?_⟩
      cases q with
      |zero=>simp at b;obtain⟨rfl,rfl⟩:=b;exact⟨e,rfl,d,z⟩
      |succ q=>simpa using f.2 q k v (by simpa using b)
   |_=>simp [tQ] at o
theorem BS (hr:HR P m h w)(hf:Al m h.next){et:TypeId}(Z:P.underlying t=some (.map kt et))(O:P.underlying kt=some (.int j))
  {id:Nat}    {v:V} {z:Value} (hx:VR m (.mp id) x) (hy:VR m (.int kk n) y) (hz:VR m v z) (hg:h.get id=some (.map es)) (s:tQ kk es=true):
  ∃w',(Instr.mapUpdate t x y z).run P w= .ok () w'/\iO P m h w m (h.set id (some (.map (Ih kk n v es)))) w':=by
 obtain⟨p,Y,rfl⟩:=hx
 obtain rfl:y= .int kk n:=hy
 obtain⟨p',K,d,a,B,u,W⟩:=hr.live id _ hg
 rw[Y] at K;cases K
 have A:Mv m es d.toList:=⟨by simpa using u,λi k v hi=>by simpa using W i k v hi⟩
 have r:(getObj p.1).run P w= .ok (.map d a) w:=by simp [getObj,Sem.run,B]
 have L:=Gr (w:=w) O false 9999 (.int kk n)
 have q: ∀o,(setObj p.1 o).run P w= .ok () (w.putObj p.1 o):=λo=>by simp [setObj,Sem.run,B,World.putObj]
 have R:p.1<w.heap.size:=(AS.1 B).1
 have G: ∀f c,Mv m (Ih kk n v es) (Array.toList f)->iO P m h w m (h.set id (some (.map (Ih kk n v es)))) (w.putObj p.1 (.map f c)):=λf c F=>
  iO.put hr hf hg rfl rfl Y ⟨f,c,World.putObj_heap_same R,by simpa using F.1,λi k v hi=>by simpa using F.2 i k v hi⟩ rfl rfl rfl (by simp) (λb B=>World.putObj_heap_other B)
 rcases Tc (n:=n) hz 0 A s j a with ⟨l,x,N,⟨e,h2,h3⟩,U⟩|⟨N,U⟩
 ·simp only[Nat.zero_add] at N
  refine⟨_,?_,G (d.modify l λe=>{e with key:= .int kk n,val:=z}) a (by simpa using U)⟩
  have Q:d[l]? =some e:=by simpa using h2
  have J:(Option.map MapEntry.key d[l]?).getD (.int kk n)= .int kk n:=by rw[Q];exact h3
  have iP:(Instr.keyThatStays (.int kk n) (.int kk n)).run P w= .ok (.int kk n) w:=by
   simp [Instr.keyThatStays,Instr.sameBits]
  simp only[Instr.mapUpdate,Sem.run_bind,run_underlying Z,Result.andThen_ok,r,L,Instr.findKey,run_underlying O,N,Sem.run_pure,J,iP,q]
 ·refine⟨_,?_,G (d.push {key:= .int kk n,val:=z,born:=a}) (a+1) (by simpa using U)⟩
  simp only[Instr.mapUpdate,Sem.run_bind,run_underlying Z,Result.andThen_ok,r,L,Instr.findKey,run_underlying O,N,Sem.run_pure,q]
end
end
end Go.Ay
