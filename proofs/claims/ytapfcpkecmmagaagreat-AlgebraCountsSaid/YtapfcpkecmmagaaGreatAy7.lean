/- make, literals, copy, maps. -/
import Derived.Test.YtapfcpkecmmagaaGreatAy6
import Derived.Laws.MakeOwn
import Derived.Great.BuildSlice
namespace Go.Ay
open Go
section
variable {e t kt:TypeId} {sz:Nat} {zu:V} {x y:Value} {es:List (V×V)} {kk j:IntKind} {n:Int}
section
variable {P:Program} {m:M} {h:H} {w:World}
theorem M.iI (m:M)(id:Nat)(p:Nat×Nat×Nat):(m.set id p) id=some p:=by simp [M.set]
theorem foldl_set (off:Nat): ∀(xs:List Value) (k:Nat) (cells:Array Value),off+k+xs.length<=cells.size->
  ((xs.zipIdx k).foldl (λcs (p:Value×Nat)=>cs.setIfInBounds (off+p.2) p.1) cells).toList=cells.toList.take (off+k)++xs++cells.toList.drop (off+k+xs.length)
 | [],k,cells,_=>by simp
 |x::xs,k,cells,h=>by
  simp only[List.zipIdx_cons,List.foldl_cons,List.length_cons] at h ⊢;rw[foldl_set off xs (k+1) _ (by simp;omega)];have:=list_seg_step cells.toList (off+k) x xs (by simp;omega);simp only[Array.toList_setIfInBounds];rw[show off+(k+1)=off+k+1 from om];rw[this]
theorem pV {place:Nat->Option (Nat×Nat)}: ∀(ps:List (Nat×Nat×V)) (qs:List (Nat×Value)) (cs us:List V) (xs:Array Value),fL m cs xs.toList->
  ps.length=qs.length->(∀(i:Nat) (a:Nat×Nat×V) (q:Nat×Value),ps[i]? =some a->qs[i]? =some q->place q.1=some (a.1,a.2.1)/\VR m a.2.2 q.2)->gG cs ps=some us->
  ∃ys,Instr.fill place xs qs=some ys/\fL m us ys.toList
 | [], [],cs,us,xs,hx,_,_,he=>by simp only[gG] at he;cases he;exact⟨xs,rfl,hx⟩
 |a::ps,q::qs,cs,us,xs,hx,hl,hp,he=>by
  obtain⟨b,n,v⟩:=a;obtain⟨i,y⟩:=q;obtain⟨k,l⟩:=hp 0 _ _ rfl rfl;simp only at k l;simp only[gG] at he;split at he
  ·rename_i o
   obtain⟨o,c⟩:=o
   cases hput:putAt cs b v.cells with
   |none=>simp [hput] at he
   |some cs'=>
    simp only[hput] at he;have s:=VR.cells l c;have g:=fL.length s;have f:=fL.length hx;obtain⟨rfl,u⟩:=uG hput;simp only[Array.length_toList] at g f;have r:=foldl_set b y.cells.toList 0 xs (by simp;omega);simp only[Nat.add_zero] at r
    have d:fL m (cs.take b++v.cells++cs.drop (b+v.cells.length)) (((y.cells.toList.zipIdx 0).foldl (λcs (p:Value×Nat)=>cs.setIfInBounds (b+p.2) p.1) xs).toList):=by
     rw[r];have:b+v.cells.length=b+y.cells.toList.length:=by simp;omega
     rw[this];exact ((hx.take _).append s).append (hx.drop _)
    obtain⟨ys,B,z⟩:=pV ps qs _ us _ d (by simpa using hl) (λj a q A F=>hp (j+1) a q (by simpa using A) (by simpa using F)) he;refine⟨ys,?_,z⟩;simp only[Instr.fill,k];rw[aZ]
    ·rw[←B]
     congr 1;rw[←Array.foldl_toList,Array.toList_zipIdx]
    ·simp;omega
  ·cases he
 | [],_::_,_,_,_,_,hl,_,_=>by simp at hl
 |_::_, [],_,_,_,_,hl,_,_=>by simp at hl
theorem iM (m:M){u:V}{i:TypeInfo}{z:Value}(h:jE P e=some u)(hi:P.info? e=some i)(d:i.zero=some z):fL m u.cells z.cells.toList/\(∀c∈u.cells,c.one=true)/\VR m u z:=by
 unfold jE at h;simp only[hi,Option.bind_some,d,Option.filter_eq_some_iff] at h;have b:=yG m h.1;have a:=yP h.1 (λe=>by rw[e] at h;simp [CA] at h);exact⟨b.cells (yQ.2 a),a,b⟩
theorem oG {zero:List V}{z:Array Value}(g:fL m zero z.toList)(c:0<zero.length)(n:Nat):
  fL m (dN zero n) ((Array.range n).map (z[· %z.size]!)).toList:=by
 have d:=fL.length g
 simp only[Array.length_toList] at d
 refine fL.iC (by simp [dN]) (λi v b=>?_)
 simp only[dN,Kt,jB] at b
 obtain⟨j,k,rfl⟩:=b
 have a:i<n/\j=i:=by
  obtain⟨b,f⟩:=xQ.1 k;simp at b f;exact⟨b,f.symm⟩
 obtain⟨hi,rfl⟩:=a
 have a:j%zero.length<zero.length:=Nat.mod_lt _ c
 obtain⟨x,k,f⟩:=g.get (i:=j%zero.length) (eX a)
 refine⟨z[j%z.size]!,by simp [hi],?_⟩
 have:zero.getD (j%zero.length) V.undef=zero[j%zero.length]:=by simp [List.getD,a]
 rw[this]
 have b:j%z.size<z.size:=by rw[←d];exact a
 have:z[j%z.size]! =x:=by
  rw[getElem!_pos z _ b];have a:z[j%z.size]? =some x:=by rw[d] at k;simpa using k
  rw[Gu] at a;exact a.2
 rw[this];exact f
theorem uC {zero:List V}(h: ∀c∈zero,c.one=true)(b:0<zero.length)(n:Nat): ∀c∈dN zero n,c.one=true:=by
 intro c a;simp only[dN,pU] at a;obtain⟨i,_,rfl⟩:=a;have a:i%zero.length<zero.length:=Nat.mod_lt _ b;have:zero.getD (i%zero.length) V.undef=zero[i%zero.length]:=by simp [List.getD,a]
 rw[this];exact h _ (wT a)
theorem Rt (O:HR P m h w)(R:fK m h.next){bytes:Nat}(J:P.underlying t=some (.slice e))(L:fX P e=some sz)(K:rR P e=some bytes)
  (G:jE P e=some zu) (u:Kv P e sz=true) (Y:sz≠0) {l c r:V}  {h':H} (W:VR m l x) (U:VR m c y) (d:uJ h sz bytes zu.cells l c=some (r,h')):
  aU P m h w (Instr.makeSlice t x y) r h':=by
 obtain⟨i,hi,v,p⟩:=Jw L K
 obtain⟨Z,z,k,o,q⟩:=vI u
 rw[hi] at k;cases k
 subst v
 subst p
 obtain⟨f,s,_⟩:=iM m G hi o
 have N:zu.cells.length=i.size:=by rw[fL.length f];simpa using q
 cases l<;>simp only[uJ] at d<;>try cases d
 cases c<;>simp only at d<;>try cases d
 rename_i A l F c
 split at d
 ·rename_i B
  cases d
  obtain rfl:x= .int A l:=W
  obtain rfl:y= .int F c:=U
  have a:(i.bytes:Int)*c<=281474976710656:=by rw[Int.mul_comm];omega
  have g:=run_make w t e i z J hi o A F l c B.1 B.2.1 a om
  have Q:=oG f om (c.toNat*i.size)
  have b:=oZ O R [] Q (uC s om _) e
  simp only[pN,Array.toArray_toList] at b
  refine⟨_,_,_,g,⟨_,_,0,M.iI ..,rfl,om,λ_=>rfl,rfl,rfl⟩,b⟩
 ·cases d
theorem Rd (N:HR P m h w)(Q:fK m h.next){n:Nat}(A:P.underlying t=some (.slice e))(o:fX P e=some sz)
  (G:jE P e=some zu) (u:Kv P e sz=true) (R:sz≠0) (d: ¬n*sz>2^24) {l:List (Nat×Nat×V)} {g:Array (Nat×Value)} {us:List V} (L:l.length=g.size)
  (O: ∀(j:Nat) (a:Nat×Nat×V) (q:Nat×Value),l[j]? =some a->g.toList[j]? =some q->some (q.1*sz,sz)=some (a.1,a.2.1)/\VR m a.2.2 q.2)
  (K:gG (dN zu.cells (n*sz)) l=some us) (J: ∀v∈us,v.one=true):
  aU P m h w (Instr.buildSlice t n g) (.sl h.next 0 n (.kn n)) (h.new (.cells false us)):=by
 obtain⟨F,z,b,k,p⟩:=vI u
 have c:F.size=sz:=by unfold fX at o;rw[b] at o;simpa using o
 obtain⟨i,r,_⟩:=iM m G b k
 have r:zu.cells.length=sz:=by rw[fL.length i];simpa using p
 have r:=oG i om (n*sz)
 obtain⟨B,s,p⟩:=pV (place:=λi=>some (i*sz,sz)) l g.toList _ us _ r (by simpa using L) O K
 have f:=oZ N Q [] p J e
 simp only[pN,Array.toArray_toList] at f
 have i:(Instr.buildSlice t n g).run P w= .ok (.slice (some ⟨w.heap.size,0,none⟩) n n) (w.alloc (.cells B e)):=by
  by_cases p:n*sz=0
  ·rw[p,show ((Array.range 0).map (z.cells[· %z.cells.size]!))=(#[]:Array Value) from by simp] at s
   have r:(Array.range 0).map (λ(_:Nat)=>(default:Value))= #[]:=by simp
   simp [Instr.buildSlice,run_underlying A,sizeOf,typeInfo,b,c,p,newRow,r,s]
  ·exact run_buildSlice w t e n g B F z A b k (by rw[c];exact d) (by rw[c];exact p) (by rw[c];exact s)
 exact⟨_,_,_,i,⟨_,_,0,M.iI ..,rfl,fH _,λ_=>rfl,rfl,rfl⟩,f⟩
theorem Jf {b:Array Field}{a:List (Nat×Nat)}(h:rG P b=some a):b.toList.mapM (λf=>(P.info? f.type).map λi=>(f.offset,i.size))=some a:=h
theorem Qi (Z:HR P m h w)(hf:fK m h.next)(K:jE P t=some zu){c:List (Nat×X)}{Y:List (Nat×Nat×X)}(d:Nf P t c=some Y)
  {ρ:X->V} {f:Array (Nat×Value)} (hl:c.length=f.size) (hq: ∀(j:Nat) (a:Nat×X) (q:Nat×Value),c[j]? =some a->f.toList[j]? =some q->q.1=a.1/\VR m (ρ a.2) q.2)
  {us:List V} (he:gG zu.cells (Y.map λp=>(p.1,p.2.1,ρ p.2.2))=some us):
  aU P m h w (Instr.build t f) (.agg us) h:=by
 unfold Nf at d
 have k: ∃i z,P.info? t=some i/\i.zero=some z:=by
  unfold jE at K
  cases hi:P.info? t with
  |none=>simp [hi] at K
  |some i=>
   cases hzz:i.zero with
   |none=>simp [hi,hzz] at K
   |some z=>exact⟨i,z,rfl,hzz⟩
 obtain⟨i,z,hi,o⟩:=k
 obtain⟨A,_,_⟩:=iM m K hi o
 split at d
 ·rename_i fs l
  cases hfp:rG P fs with
  |none=>simp [hfp] at d
  |some pls=>
   simp only[hfp] at d;obtain⟨a1,a2⟩:=gW d
   obtain⟨u,R,U⟩:=pV (place:=(pls.toArray[·]?)) (Y.map λp=>(p.1,p.2.1,ρ p.2.2)) f.toList zu.cells us z.cells A (by simp [a1];omega) (λj a q F g=>by
    simp only[Kt,jB] at F;obtain⟨p,J,rfl⟩:=F;have hj:j<c.length:=by have:=(xQ.1 J).1;omega
    obtain⟨b,v,B⟩:=a2 j c[j] (eX hj);rw[J] at v;cases v;obtain⟨O,Q⟩:=hq j _ q (eX hj) g;simp only[jB] at B;obtain⟨r,N,rfl⟩:=B
    exact⟨by simp only[List.getElem?_toArray,O];rw[N],Q⟩) he
   have v:P.built t f.toList=some u:=by
    unfold Program.built;simp only[hi,l,o,Jf hfp];exact R
   exact aU.still Z hf (run_build w t f u v) ⟨u,rfl,U⟩
 ·rename_i n e l
  simp only[jB] at d
  obtain⟨s,L,rfl⟩:=d
  unfold fX at L
  simp only[jB] at L
  obtain⟨G,W,rfl⟩:=L
  obtain⟨u,R,U⟩:=pV (place:=λj=>some (j*G.size,G.size)) ((c.map λp=>(p.1*G.size,G.size,p.2)).map λp=>(p.1,p.2.1,ρ p.2.2)) f.toList zu.cells us z.cells A (by simp;omega) (λj a q F g=>by
   simp only[List.map_map,Kt,jB] at F;obtain⟨p,J,rfl⟩:=F;obtain⟨O,Q⟩:=hq j _ q J g
   exact⟨by simp [O],Q⟩) he
  have v:P.built t f.toList=some u:=by
   unfold Program.built;simp only[hi,l,o,W];exact R
  exact aU.still Z hf (run_build w t f u v) ⟨u,rfl,U⟩
 ·cases d
theorem Pv (B:HR P m h w)(Z:fK m h.next){u:TypeId}(K:P.underlying t=some (.slice e))(hs:fX P e=some sz)
  {v1 Y r:V}  {h':H} (hx:VR m v1 x) (hy:VR m Y y) (f:Re h sz v1 Y=some (r,h')) (ty:TypeId):
  aU P m h w (Builtin.copy_ #[t,u] ty #[x,y]) r h':=by
 have l:=eS (w:=w) hs
 unfold Re at f
 split at f
 ·rename_i n k F W
  have o: ∀a b:Nat,Nat.min a b=min a b:=λ_ _=>rfl
  simp only at f
  split at f
  ·rename_i id R l1 c1 O s l2 c2
   simp only[mH] at F W
   cases F;cases W
   obtain⟨p,c,o1,hp,rfl,_,Q,_⟩:=hx
   obtain⟨p',c',o2,z,rfl,_,G,_⟩:=hy
   cases hrow:h.row O s (min k n*sz) with
   |none=>simp [hrow] at f
   |some ys=>
    simp only[hrow] at f
    cases hput:h.put id R ys with
    |none=>simp [hput] at f
    |some h2=>
     simp only[hput] at f;cases f;obtain⟨q,cc,a0,fr,hq,hb,_,L,J,h1⟩:=sF B hrow;rw[z] at hq;cases hq;obtain⟨N,gY,i⟩:=sK B Z hput J h1 hp;have hl:=iX (P:=P) hb L
     by_cases a1:0<min k n
     ·obtain rfl:=Q om
      obtain rfl:=G om;refine⟨_,N,m,?_,(rfl:VR m (.int .i64 ((min k n:Nat):Int)) _),i⟩;simp [Builtin.copy_,run_underlying K,Builtin.lenOf,l,Builtin.firstCells,o,hl,gY,goInt]
     ·have g:min k n=0:=om
      have v:Nat.min k n=0:=g
      have hw:N=w:=by
       rw[g] at gY;simp [storeCells] at gY;exact gY.symm
      subst hw;refine⟨_,N,m,?_,(rfl:VR m (.int .i64 ((min k n:Nat):Int)) _),i⟩;rw[g];simp [Builtin.copy_,run_underlying K,Builtin.lenOf,l,v,Builtin.firstCells,loadCells,loadCellsFrom,storeCells,goInt]
  ·split at f
   ·rename_i A
    cases f
    obtain⟨a,c,rfl⟩:=mY hx F
    obtain⟨b,d,rfl⟩:=mY hy W
    refine aU.still B Z (x:=goInt 0) ?_ rfl
    have g:Nat.min k n=0:=A
    have U:(Builtin.firstCells sz 0 (.slice b k d)).run P w= .ok #[] w:=by
     cases b<;>simp [Builtin.firstCells,loadCells,loadCellsFrom]
    cases a<;>simp [Builtin.copy_,run_underlying K,Builtin.lenOf,l,g,U,storeCells]
   ·cases f
 ·cases f
def zV (m:M)(es:List (V×V))(es':List MapEntry):Prop:=
 es.length=es'.length/\ ∀(i:Nat) (k v:V),es[i]? =some (k,v)-> ∃e:MapEntry,es'[i]? =some e/\VR m k e.key/\VR m v e.val
theorem Ej {k v:V}{e:MapEntry}{a:List MapEntry}(h:zV m ((k,v)::es) (e::a)):VR m k e.key/\VR m v e.val/\zV m es a:=by
 obtain⟨d,c⟩:=h;obtain⟨i,b,g,f⟩:=c 0 k v rfl;simp at b;subst b;exact⟨g,f,by simpa using d,λi k v hi=>by simpa using c (i+1) k v (by simpa using hi)⟩
theorem Ao {kk:IntKind}{n:Int}: ∀{es:List (V×V)} {es':List MapEntry} (i:Nat),zV m es es'->mW kk es=true-> ∀j,
  (match rH kk n es with
   |some v=> ∃l x,Instr.findNow (.int j) (.int kk n) es' i=some (some (i+l,x))/\VR m v x/\l<es.length
   |none=>Instr.findNow (.int j) (.int kk n) es' i=some none)
 | [],es',i,h,_,j=>by
  obtain⟨f,_⟩:=h
  cases es' with
  |nil=>simp [rH,Instr.findNow]
  |cons _ _=>simp at f
 |(k,v)::es,es',i,h,c,j=>by
  cases es' with
  |nil=>simp [zV] at h
  |cons e es'=>
   obtain⟨d,q,b⟩:=Ej h
   cases k with
   |int k' n'=>
    simp only[mW,pQ,beq_iff_eq] at c;obtain⟨rfl,c⟩:=c;have a:e.key= .int k' n':=d;simp only[rH,if_true]
    by_cases o:n=n'
    ·subst o
     rw[aV rfl];exact⟨0,e.val,by simp [Instr.findNow,Instr.sameNow,a],q,by simp⟩
    ·rw[aZ o]
     have g:=Ao (n:=n) (i+1) b c j
     have p:Instr.findNow (.int j) (.int k' n) (e::es') i=Instr.findNow (.int j) (.int k' n) es' (i+1):=by
      simp [Instr.findNow,Instr.sameNow,a,show (n==n')=false from by simpa using o]
     rw[p]
     cases hf:rH k' n es with
     |none=>simpa [hf] using g
     |some u=>
      simp only[hf] at g ⊢;obtain⟨l,x,f,r,s⟩:=g;exact⟨l+1,x,by rw[f];congr 3;omega,r,by simp;omega⟩
   |_=>simp [mW] at c
theorem uU (a:P.underlying kt=some (.int j))(b:Bool)(n:Nat)(x:Value):(Instr.checkKey b (n+1) kt x).run P w= .ok () w:=by
 simp [Instr.checkKey,run_underlying a]
theorem Ri (q:HR P m h w)(G:fK m h.next){F:TypeId}(K:P.underlying t=some (.map kt F))(B:P.underlying kt=some (.int j))(J:jE P F=some zu)
  {id:Nat}     (W:VR m (.mp id) x) (U:VR m (.int kk n) y) (R:h.get id=some (.map es)) (o:mW kk es=true) (u:Bool):
  aU P m h w (Instr.lookup t x y u) (match rH kk n es with|some v=>(if u then .tup [v,.bool true] else v)|none=>(if u then .tup [zu,.bool false] else zu)) h:=by
 obtain⟨p,A,rfl⟩:=W
 obtain rfl:y= .int kk n:=U
 obtain⟨Y,k,g,l,Q,s,N⟩:=q.live id _ R
 rw[A] at k;cases k
 have A:zV m es g.toList:=⟨by simpa using s,λi k v hi=>by simpa using N i k v hi⟩
 have a:=Ao (n:=n) 0 A o j
 have b:(getObj p.1).run P w= .ok (.map g l) w:=by simp [getObj,Sem.run,Q]
 have c:=uU (w:=w) B g.isEmpty 9999 (.int kk n)
 have d: ∃i z,P.info? F=some i/\i.zero=some z:=by
  unfold jE at J
  cases hi:P.info? F with
  |none=>simp [hi] at J
  |some i=>
   cases hzz:i.zero with
   |none=>simp [hi,hzz] at J
   |some z=>exact⟨i,z,rfl,hzz⟩
 obtain⟨i,z,hi,f⟩:=d
 obtain⟨_,_,r⟩:=iM m J hi f
 cases hf2:rH kk n es with
 |some v=>
  simp only[hf2] at a;obtain⟨l,x,L,O,_⟩:=a;simp only[Nat.zero_add] at L
  cases u with
  |true=>
   refine aU.still q G (x:= .tuple #[x,.bool true]) ?_ ⟨_,rfl,O,rfl,trivial⟩;simp [Instr.lookup,run_underlying K,b,c,Instr.findKey,run_underlying B,L]
  |false=>
   refine aU.still q G (x:=x) ?_ O;simp [Instr.lookup,run_underlying K,b,c,Instr.findKey,run_underlying B,L]
 |none=>
  simp only[hf2] at a
  cases u with
  |true=>
   refine aU.still q G (x:= .tuple #[z,.bool false]) ?_ ⟨_,rfl,r,rfl,trivial⟩;simp [Instr.lookup,run_underlying K,b,c,Instr.findKey,run_underlying B,a,zeroValue,typeInfo,hi,f]
  |false=>
   refine aU.still q G (x:=z) ?_ r;simp [Instr.lookup,run_underlying K,b,c,Instr.findKey,run_underlying B,a,zeroValue,typeInfo,hi,f]
theorem Ei {kk:IntKind}{n:Int}{y:V}{p:Value}(s:VR m y p): ∀{es:List (V×V)} {es':List MapEntry} (i:Nat),zV m es es'->mW kk es=true-> ∀(j:IntKind) (born:Nat),
  (∃l x,Instr.findNow (.int j) (.int kk n) es' i=some (some (i+l,x))/\(∃e,es'[l]? =some e/\e.key= .int kk n)/\zV m (xP kk n y es) (es'.modify l λe=>{e with key:= .int kk n,val:=p}))∨
  (Instr.findNow (.int j) (.int kk n) es' i=some none/\zV m (xP kk n y es) (es'++ [{key:= .int kk n,val:=p,born:=born}]))
 | [],es',i,h,_,j,born=>by
  obtain⟨f,_⟩:=h
  cases es' with
  |nil=>
   refine .inr ⟨by simp [Instr.findNow],by simp [xP],λq k v b=>?_⟩
   cases q with
   |zero=>simp [xP] at b;obtain⟨rfl,rfl⟩:=b;exact⟨_,rfl,rfl,s⟩
   |succ q=>simp [xP] at b
  |cons _ _=>simp at f
 |(k,v)::es,es',i,h,o,j,born=>by
  cases es' with
  |nil=>simp [zV] at h
  |cons e es'=>
   obtain⟨d,u,a⟩:=Ej h
   cases k with
   |int k' n'=>
    simp only[mW,pQ,beq_iff_eq] at o;obtain⟨rfl,o⟩:=o;have c:e.key= .int k' n':=d;simp only[xP]
    by_cases r:n=n'
    ·subst r
     rw[aV rfl];refine .inl ⟨0,e.val,by simp [Instr.findNow,Instr.sameNow,c],⟨e,rfl,c⟩,by simp [a.1],λq k v b=>?_⟩
     cases q with
     |zero=>simp at b;obtain⟨rfl,rfl⟩:=b;exact⟨_,rfl,rfl,s⟩
     |succ q=>simpa using a.2 q k v (by simpa using b)
    ·rw[aZ r]
     have z:Instr.findNow (.int j) (.int k' n) (e::es') i=Instr.findNow (.int j) (.int k' n) es' (i+1):=by
      simp [Instr.findNow,Instr.sameNow,c,show (n==n')=false from by simpa using r]
     rw[z];rcases Ei (n:=n) s (i+1) a o j born with ⟨l,x,f,⟨B,A,F⟩,g⟩|⟨f,g⟩
     ·refine .inl ⟨l+1,x,by rw[f];congr 3;omega,⟨B,by simpa using A,F⟩,by simpa using g.1,λq k v b=>?_⟩
      cases q with
      |zero=>simp at b;obtain⟨rfl,rfl⟩:=b;exact⟨e,rfl,d,u⟩
      |succ q=>simpa using g.2 q k v (by simpa using b)
     ·refine .inr ⟨f,by simpa using g.1,λq k v b=>?_⟩
      cases q with
      |zero=>simp at b;obtain⟨rfl,rfl⟩:=b;exact⟨e,rfl,d,u⟩
      |succ q=>simpa using g.2 q k v (by simpa using b)
   |_=>simp [mW] at o
theorem Mr (K:HR P m h w)(R:fK m h.next){Q:TypeId}(N:P.underlying t=some (.map kt Q))(J:P.underlying kt=some (.int j))
  {id:Nat}    {v:V} {z:Value} (Y:VR m (.mp id) x) (W:VR m (.int kk n) y) (U:VR m v z) (O:h.get id=some (.map es)) (q:mW kk es=true):
  ∃w',(Instr.mapUpdate t x y z).run P w= .ok () w'/\fU P m h w m (h.set id (some (.map (xP kk n v es)))) w':=by
 obtain⟨p,L,rfl⟩:=Y
 obtain rfl:y= .int kk n:=W
 obtain⟨Z,o,c,a,l,A,F⟩:=K.live id _ O
 rw[L] at o;cases o
 have B:zV m es c.toList:=⟨by simpa using A,λi k v hi=>by simpa using F i k v hi⟩
 have f:(getObj p.1).run P w= .ok (.map c a) w:=by simp [getObj,Sem.run,l]
 have u:=uU (w:=w) J false 9999 (.int kk n)
 have g: ∀o,(setObj p.1 o).run P w= .ok () (w.putObj p.1 o):=λo=>by simp [setObj,Sem.run,l,World.putObj]
 have G:p.1<w.heap.size:=(Gu.1 l).1
 have r: ∀d b,zV m (xP kk n v es) (Array.toList d)->fU P m h w m (h.set id (some (.map (xP kk n v es)))) (w.putObj p.1 (.map d b)):=λd b s=>
  fU.put K R O rfl rfl L ⟨d,b,World.putObj_heap_same G,by simpa using s.1,λi k v hi=>by simpa using s.2 i k v hi⟩ rfl rfl rfl (by simp) (λb l=>World.putObj_heap_other l)
 rcases Ei (n:=n) U 0 B q j a with ⟨l,x,d,⟨e,b,o⟩,i⟩|⟨d,i⟩
 ·simp only[Nat.zero_add] at d
  refine⟨_,?_,r (c.modify l λe=>{e with key:= .int kk n,val:=z}) a (by simpa using i)⟩
  have k:c[l]? =some e:=by simpa using b
  have b:(Option.map MapEntry.key c[l]?).getD (.int kk n)= .int kk n:=by rw[k];exact o
  have gY:(Instr.keyThatStays (.int kk n) (.int kk n)).run P w= .ok (.int kk n) w:=by
   simp [Instr.keyThatStays,Instr.sameBits]
  simp only[Instr.mapUpdate,Sem.run_bind,run_underlying N,Result.andThen_ok,f,u,Instr.findKey,run_underlying J,d,Sem.run_pure,b,gY,g]
 ·refine⟨_,?_,r (c.push {key:= .int kk n,val:=z,born:=a}) (a+1) (by simpa using i)⟩
  simp only[Instr.mapUpdate,Sem.run_bind,run_underlying N,Result.andThen_ok,f,u,Instr.findKey,run_underlying J,d,Sem.run_pure,g]
end
end
end Go.Ay
