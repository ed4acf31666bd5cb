/- make, literals, copy, maps. -/
import Derived.Test.YtcdbmkidaecdiaaGreatAy6
import Derived.Laws.MakeOwn
import Derived.Great.BuildSlice
namespace Go.Ay
open Go
section
variable {e t kt:TypeId} {sz:Nat} {zu:V} {x y:Value} {es:List (V×V)} {kk j:IntKind} {n:Int}
section
variable {P:Program} {m:M} {h:H} {w:World}
theorem M.jR (m:M)(id:Nat)(p:Nat×Nat×Nat):(m.set id p) id=some p:=by simp [M.set]
theorem foldl_set (off:Nat): ∀(xs:List Value) (k:Nat) (cells:Array Value),off+k+xs.length<=cells.size->
  ((xs.zipIdx k).foldl (λcs (p:Value×Nat)=>cs.setIfInBounds (off+p.2) p.1) cells).toList=cells.toList.take (off+k)++xs++cells.toList.drop (off+k+xs.length)
 | [],k,cells,_=>by simp
 |x::xs,k,cells,h=>by
  simp only[List.zipIdx_cons,List.foldl_cons,List.length_cons] at h ⊢;rw[foldl_set off xs (k+1) _ (by simp;omega)];have:=list_seg_step cells.toList (off+k) x xs (by simp;omega);simp only[Array.toList_setIfInBounds];rw[show off+(k+1)=off+k+1 from om];rw[this]
theorem yA {place:Nat->Option (Nat×Nat)}: ∀(ps:List (Nat×Nat×V)) (qs:List (Nat×Value)) (cs us:List V) (xs:Array Value),gZ m cs xs.toList->
  ps.length=qs.length->(∀(i:Nat) (a:Nat×Nat×V) (q:Nat×Value),ps[i]? =some a->qs[i]? =some q->place q.1=some (a.1,a.2.1)/\VR m a.2.2 q.2)->iS cs ps=some us->
  ∃ys,Instr.fill place xs qs=some ys/\gZ m us ys.toList
 | [], [],cs,us,xs,hx,_,_,he=>by simp only[iS] at he;cases he;exact⟨xs,rfl,hx⟩
 |a::ps,q::qs,cs,us,xs,hx,hl,hp,he=>by
  obtain⟨b,n,v⟩:=a;obtain⟨i,y⟩:=q;obtain⟨l,r⟩:=hp 0 _ _ rfl rfl;simp only at l r;simp only[iS] at he;split at he
  ·rename_i s
   obtain⟨s,c⟩:=s
   cases hput:putAt cs b v.cells with
   |none=>simp [hput] at he
   |some cs'=>
    simp only[hput] at he;have o:=VR.cells r c;have k:=gZ.length o;have f:=gZ.length hx;obtain⟨rfl,G⟩:=Fy hput;simp only[Array.length_toList] at k f;have u:=foldl_set b y.cells.toList 0 xs (by simp;omega);simp only[Nat.add_zero] at u
    have d:gZ m (cs.take b++v.cells++cs.drop (b+v.cells.length)) (((y.cells.toList.zipIdx 0).foldl (λcs (p:Value×Nat)=>cs.setIfInBounds (b+p.2) p.1) xs).toList):=by
     rw[u];have:b+v.cells.length=b+y.cells.toList.length:=by simp;omega
     rw[this];exact ((hx.take _).append o).append (hx.drop _)
    obtain⟨ys,A,B⟩:=yA ps qs _ us _ d (by simpa using hl) (λj a q z F=>hp (j+1) a q (by simpa using z) (by simpa using F)) he;refine⟨ys,?_,B⟩;simp only[Instr.fill,l];rw[bI]
    ·rw[←A]
     congr 1;rw[←Array.foldl_toList,Array.toList_zipIdx]
    ·simp;omega
  ·cases he
 | [],_::_,_,_,_,_,hl,_,_=>by simp at hl
 |_::_, [],_,_,_,_,hl,_,_=>by simp at hl
theorem kC (m:M){u:V}{i:TypeInfo}{z:Value}(h:lV P e=some u)(hi:P.info? e=some i)(hz:i.zero=some z):gZ m u.cells z.cells.toList/\(∀c∈u.cells,c.one=true)/\VR m u z:=by
 unfold lV at h;simp only[hi,Option.bind_some,hz,Option.filter_eq_some_iff] at h;have b:=Ju m h.1;have a:=Ks h.1 (λe=>by rw[e] at h;simp [acT] at h);exact⟨b.cells (Kv.2 a),a,b⟩
theorem uZ {zero:List V}{z:Array Value}(hz:gZ m zero z.toList)(b:0<zero.length)(n:Nat):
  gZ m (cX zero n) ((Array.range n).map (z[· %z.size]!)).toList:=by
 have l:=gZ.length hz
 simp only[Array.length_toList] at l
 refine gZ.mQ (by simp [cX]) (λi v r=>?_)
 simp only[cX,Ol,mJ] at r
 obtain⟨j,s,rfl⟩:=r
 have k:i<n/\j=i:=by
  obtain⟨o,q⟩:=Ax.1 s;simp at o q;exact⟨o,q.symm⟩
 obtain⟨hi,rfl⟩:=k
 have a:j%zero.length<zero.length:=Nat.mod_lt _ b
 obtain⟨x,p,f⟩:=hz.get (i:=j%zero.length) (dD a)
 refine⟨z[j%z.size]!,by simp [hi],?_⟩
 have:zero.getD (j%zero.length) V.undef=zero[j%zero.length]:=by simp [List.getD,a]
 rw[this]
 have c:j%z.size<z.size:=by rw[←l];exact a
 have:z[j%z.size]! =x:=by
  rw[getElem!_pos z _ c];have d:z[j%z.size]? =some x:=by rw[l] at p;simpa using p
  rw[AS] at d;exact d.2
 rw[this];exact f
theorem Ed {zero:List V}(h: ∀c∈zero,c.one=true)(b:0<zero.length)(n:Nat): ∀c∈cX zero n,c.one=true:=by
 intro c d;simp only[cX,uF] at d;obtain⟨i,_,rfl⟩:=d;have a:i%zero.length<zero.length:=Nat.mod_lt _ b;have:zero.getD (i%zero.length) V.undef=zero[i%zero.length]:=by simp [List.getD,a]
 rw[this];exact h _ (zG a)
theorem MS (K:HR P m h w)(Q:gK m h.next){bytes:Nat}(R:P.underlying t=some (.slice e))(J:iV P e=some sz)(Y:zW P e=some bytes)
  (hz:lV P e=some zu) (A:zsz P e sz=true) (N:sz≠0) {l c r:V}  {h':H} (W:VR m l x) (L:VR m c y) (d:Jo h sz bytes zu.cells l c=some (r,h')):
  aT P m h w (Instr.makeSlice t x y) r h':=by
 obtain⟨i,hi,v,s⟩:=Zz J Y
 obtain⟨Z,z,f,o,q⟩:=Gn A
 rw[hi] at f;cases f
 subst v
 subst s
 obtain⟨k,u,_⟩:=kC m hz hi o
 have U:zu.cells.length=i.size:=by rw[gZ.length k];simpa using q
 cases l<;>simp only[Jo] at d<;>try cases d
 cases c<;>simp only at d<;>try cases d
 rename_i F l G c
 split at d
 ·rename_i B
  cases d
  obtain rfl:x= .int F l:=W
  obtain rfl:y= .int G c:=L
  have a:(i.bytes:Int)*c<=281474976710656:=by rw[Int.mul_comm];omega
  have p:=run_make w t e i z R hi o F G l c B.1 B.2.1 a om
  have O:=uZ k om (c.toNat*i.size)
  have b:=wQ K Q [] O (Ed u om _) e
  simp only[vF,Array.toArray_toList] at b
  refine⟨_,_,_,p,⟨_,_,0,M.jR ..,rfl,om,λ_=>rfl,rfl,rfl⟩,b⟩
 ·cases d
theorem KP (Q:HR P m h w)(Z:gK m h.next){n:Nat}(K:P.underlying t=some (.slice e))(r:iV P e=some sz)
  (hz:lV P e=some zu) (F:zsz P e sz=true) (U:sz≠0) (d: ¬n*sz>2^24) {ps:List (Nat×Nat×V)} {k:Array (Nat×Value)} {us:List V} (L:ps.length=k.size)
  (O: ∀(j:Nat) (a:Nat×Nat×V) (q:Nat×Value),ps[j]? =some a->k.toList[j]? =some q->some (q.1*sz,sz)=some (a.1,a.2.1)/\VR m a.2.2 q.2)
  (he:iS (cX zu.cells (n*sz)) ps=some us) (N: ∀v∈us,v.one=true):
  aT P m h w (Instr.buildSlice t n k) (.sl h.next 0 n (.kn n)) (h.new (.cells false us)):=by
 obtain⟨G,z,b,o,A⟩:=Gn F
 have c:G.size=sz:=by unfold iV at r;rw[b] at r;simpa using r
 obtain⟨l,W,_⟩:=kC m hz b o
 have a0:zu.cells.length=sz:=by rw[gZ.length l];simpa using A
 have Y:=uZ l om (n*sz)
 obtain⟨J,u,R⟩:=yA (place:=λi=>some (i*sz,sz)) ps k.toList _ us _ Y (by simpa using L) O he
 have f:=wQ Q Z [] R N e
 simp only[vF,Array.toArray_toList] at f
 have p:(Instr.buildSlice t n k).run P w= .ok (.slice (some ⟨w.heap.size,0,none⟩) n n) (w.alloc (.cells J e)):=by
  by_cases B:n*sz=0
  ·rw[B,show ((Array.range 0).map (z.cells[· %z.cells.size]!))=(#[]:Array Value) from by simp] at u
   have s:(Array.range 0).map (λ(_:Nat)=>(default:Value))= #[]:=by simp
   simp [Instr.buildSlice,run_underlying K,sizeOf,typeInfo,b,c,B,newRow,s,u]
  ·exact run_buildSlice w t e n k J G z K b o (by rw[c];exact d) (by rw[c];exact B) (by rw[c];exact u)
 exact⟨_,_,_,p,⟨_,_,0,M.jR ..,rfl,fM _,λ_=>rfl,rfl,rfl⟩,f⟩
theorem Zx {a:Array Field}{ps:List (Nat×Nat)}(h:Az P a=some ps):a.toList.mapM (λf=>(P.info? f.type).map λi=>(f.offset,i.size))=some ps:=h
theorem JG (Y:HR P m h w)(hf:gK m h.next)(hz:lV P t=some zu){c:List (Nat×X)}{ps:List (Nat×Nat×X)}(d:CB P t c=some ps)
  {ρ:X->V} {f:Array (Nat×Value)} (hl:c.length=f.size) (hq: ∀(j:Nat) (a:Nat×X) (q:Nat×Value),c[j]? =some a->f.toList[j]? =some q->q.1=a.1/\VR m (ρ a.2) q.2)
  {us:List V} (he:iS zu.cells (ps.map λp=>(p.1,p.2.1,ρ p.2.2))=some us):
  aT P m h w (Instr.build t f) (.agg us) h:=by
 unfold CB at d
 have u: ∃i z,P.info? t=some i/\i.zero=some z:=by
  unfold lV at hz
  cases hi:P.info? t with
  |none=>simp [hi] at hz
  |some i=>
   cases hzz:i.zero with
   |none=>simp [hi,hzz] at hz
   |some z=>exact⟨i,z,rfl,hzz⟩
 obtain⟨i,z,hi,l⟩:=u
 obtain⟨G,_,_⟩:=kC m hz hi l
 split at d
 ·rename_i fs k
  cases hfp:Az P fs with
  |none=>simp [hfp] at d
  |some pls=>
   simp only[hfp] at d;obtain⟨a1,a2⟩:=jD d
   obtain⟨o,R,U⟩:=yA (place:=(pls.toArray[·]?)) (ps.map λp=>(p.1,p.2.1,ρ p.2.2)) f.toList zu.cells us z.cells G (by simp [a1];omega) (λj a q B v=>by
    simp only[Ol,mJ] at B;obtain⟨p,J,rfl⟩:=B;have Z:j<c.length:=by have:=(Ax.1 J).1;omega
    obtain⟨b,A,F⟩:=a2 j c[j] (dD Z);rw[J] at A;cases A;obtain⟨W,L⟩:=hq j _ q (dD Z) v;simp only[mJ] at F;obtain⟨r,O,rfl⟩:=F
    exact⟨by simp only[List.getElem?_toArray,W];rw[O],L⟩) he
   have A:P.built t f.toList=some o:=by
    unfold Program.built;simp only[hi,k,l,Zx hfp];exact R
   exact aT.still Y hf (run_build w t f o A) ⟨o,rfl,U⟩
 ·rename_i n e k
  simp only[mJ] at d
  obtain⟨s,Q,rfl⟩:=d
  unfold iV at Q
  simp only[mJ] at Q
  obtain⟨K,N,rfl⟩:=Q
  obtain⟨o,R,U⟩:=yA (place:=λj=>some (j*K.size,K.size)) ((c.map λp=>(p.1*K.size,K.size,p.2)).map λp=>(p.1,p.2.1,ρ p.2.2)) f.toList zu.cells us z.cells G (by simp;omega) (λj a q B v=>by
   simp only[List.map_map,Ol,mJ] at B;obtain⟨p,J,rfl⟩:=B;obtain⟨W,L⟩:=hq j _ q J v
   exact⟨by simp [W],L⟩) he
  have A:P.built t f.toList=some o:=by
   unfold Program.built;simp only[hi,k,l,N];exact R
  exact aT.still Y hf (run_build w t f o A) ⟨o,rfl,U⟩
 ·cases d
theorem JP (F:HR P m h w)(hf:gK m h.next){u:TypeId}(Y:P.underlying t=some (.slice e))(hs:iV P e=some sz)
  {v1 Z r:V}  {h':H} (hx:VR m v1 x) (hy:VR m Z y) (f:ZO h sz v1 Z=some (r,h')) (ty:TypeId):
  aT P m h w (Builtin.copy_ #[t,u] ty #[x,y]) r h':=by
 have o:=uP (w:=w) hs
 unfold ZO at f
 split at f
 ·rename_i n k J U
  have v: ∀a b:Nat,Nat.min a b=min a b:=λ_ _=>rfl
  simp only at f
  split at f
  ·rename_i id B l1 c1 K s l2 c2
   simp only[sW] at J U
   cases J;cases U
   obtain⟨p,c,o1,hp,rfl,_,Q,_⟩:=hx
   obtain⟨p',c',o2,O,rfl,_,R,_⟩:=hy
   cases hrow:h.row K s (min k n*sz) with
   |none=>simp [hrow] at f
   |some ys=>
    simp only[hrow] at f
    cases hput:h.put id B ys with
    |none=>simp [hput] at f
    |some h2=>
     simp only[hput] at f;cases f;obtain⟨q,cc,a0,fr,hq,hb,_,N,L,h1⟩:=Cn F hrow;rw[O] at hq;cases hq;obtain⟨W,iP,l⟩:=Bx F hf hput L h1 hp;have hl:=lE (P:=P) hb N
     by_cases a1:0<min k n
     ·obtain rfl:=Q om
      obtain rfl:=R om;refine⟨_,W,m,?_,(rfl:VR m (.int .i64 ((min k n:Nat):Int)) _),l⟩;simp [Builtin.copy_,run_underlying Y,Builtin.lenOf,o,Builtin.firstCells,v,hl,iP,goInt]
     ·have i:min k n=0:=om
      have z:Nat.min k n=0:=i
      have hw:W=w:=by
       rw[i] at iP;simp [storeCells] at iP;exact iP.symm
      subst hw;refine⟨_,W,m,?_,(rfl:VR m (.int .i64 ((min k n:Nat):Int)) _),l⟩;rw[i];simp [Builtin.copy_,run_underlying Y,Builtin.lenOf,o,z,Builtin.firstCells,loadCells,loadCellsFrom,storeCells,goInt]
  ·split at f
   ·rename_i G
    cases f
    obtain⟨a,c,rfl⟩:=tW hx J
    obtain⟨b,d,rfl⟩:=tW hy U
    refine aT.still F hf (x:=goInt 0) ?_ rfl
    have i:Nat.min k n=0:=G
    have A:(Builtin.firstCells sz 0 (.slice b k d)).run P w= .ok #[] w:=by
     cases b<;>simp [Builtin.firstCells,loadCells,loadCellsFrom]
    cases a<;>simp [Builtin.copy_,run_underlying Y,Builtin.lenOf,o,i,A,storeCells]
   ·cases f
 ·cases f
def Mv (m:M)(es:List (V×V))(es':List MapEntry):Prop:=
 es.length=es'.length/\ ∀(i:Nat) (k v:V),es[i]? =some (k,v)-> ∃e:MapEntry,es'[i]? =some e/\VR m k e.key/\VR m v e.val
theorem ajX {k v:V}{e:MapEntry}{a:List MapEntry}(h:Mv m ((k,v)::es) (e::a)):VR m k e.key/\VR m v e.val/\Mv m es a:=by
 obtain⟨d,c⟩:=h;obtain⟨o,b,l,f⟩:=c 0 k v rfl;simp at b;subst b;exact⟨l,f,by simpa using d,λi k v hi=>by simpa using c (i+1) k v (by simpa using hi)⟩
theorem Mt {kk:IntKind}{n:Int}: ∀{es:List (V×V)} {es':List MapEntry} (i:Nat),Mv m es es'->tQ kk es=true-> ∀j,
  (match zQ kk n es with
   |some v=> ∃l x,Instr.findNow (.int j) (.int kk n) es' i=some (some (i+l,x))/\VR m v x/\l<es.length
   |none=>Instr.findNow (.int j) (.int kk n) es' i=some none)
 | [],es',i,h,_,j=>by
  obtain⟨f,_⟩:=h
  cases es' with
  |nil=>simp [zQ,Instr.findNow]
  |cons _ _=>simp at f
 |(k,v)::es,es',i,h,c,j=>by
  cases es' with
  |nil=>simp [Mv] at h
  |cons e es'=>
   obtain⟨o,r,b⟩:=ajX h
   cases k with
   |int k' n'=>
    simp only[tQ,vN,beq_iff_eq] at c;obtain⟨rfl,c⟩:=c;have a:e.key= .int k' n':=o;simp only[zQ,if_true]
    by_cases d:n=n'
    ·subst d
     rw[bF rfl];exact⟨0,e.val,by simp [Instr.findNow,Instr.sameNow,a],r,by simp⟩
    ·rw[bI d]
     have p:=Mt (n:=n) (i+1) b c j
     have q:Instr.findNow (.int j) (.int k' n) (e::es') i=Instr.findNow (.int j) (.int k' n) es' (i+1):=by
      simp [Instr.findNow,Instr.sameNow,a,show (n==n')=false from by simpa using d]
     rw[q]
     cases hf:zQ k' n es with
     |none=>simpa [hf] using p
     |some u=>
      simp only[hf] at p ⊢;obtain⟨l,x,f,s,z⟩:=p;exact⟨l+1,x,by rw[f];congr 3;omega,s,by simp;omega⟩
   |_=>simp [tQ] at c
theorem Gr (a:P.underlying kt=some (.int j))(b:Bool)(n:Nat)(x:Value):(Instr.checkKey b (n+1) kt x).run P w= .ok () w:=by
 simp [Instr.checkKey,run_underlying a]
theorem JE (s:HR P m h w)(J:gK m h.next){L:TypeId}(K:P.underlying t=some (.map kt L))(u:P.underlying kt=some (.int j))(hz:lV P L=some zu)
  {id:Nat}     (U:VR m (.mp id) x) (Y:VR m (.int kk n) y) (W:h.get id=some (.map es)) (f:tQ kk es=true) (ok:Bool):
  aT P m h w (Instr.lookup t x y ok) (match zQ kk n es with|some v=>(if ok then .tup [v,.bool true] else v)|none=>(if ok then .tup [zu,.bool false] else zu)) h:=by
 obtain⟨p,R,rfl⟩:=U
 obtain rfl:y= .int kk n:=Y
 obtain⟨p',G,o,r,Z,B,O⟩:=s.live id _ W
 rw[R] at G;cases G
 have F:Mv m es o.toList:=⟨by simpa using B,λi k v hi=>by simpa using O i k v hi⟩
 have a:=Mt (n:=n) 0 F f j
 have b:(getObj p.1).run P w= .ok (.map o r) w:=by simp [getObj,Sem.run,Z]
 have c:=Gr (w:=w) u o.isEmpty 9999 (.int kk n)
 have d: ∃i z,P.info? L=some i/\i.zero=some z:=by
  unfold lV at hz
  cases hi:P.info? L with
  |none=>simp [hi] at hz
  |some i=>
   cases hzz:i.zero with
   |none=>simp [hi,hzz] at hz
   |some z=>exact⟨i,z,rfl,hzz⟩
 obtain⟨i,z,hi,q⟩:=d
 obtain⟨_,_,A⟩:=kC m hz hi q
 cases hf2:zQ kk n es with
 |some v=>
  simp only[hf2] at a;obtain⟨l,x,N,Q,_⟩:=a;simp only[Nat.zero_add] at N
  cases ok with
  |true=>
   refine aT.still s J (x:= .tuple #[x,.bool true]) ?_ ⟨_,rfl,Q,rfl,trivial⟩;simp [Instr.lookup,run_underlying K,b,c,Instr.findKey,run_underlying u,N]
  |false=>
   refine aT.still s J (x:=x) ?_ Q;simp [Instr.lookup,run_underlying K,b,c,Instr.findKey,run_underlying u,N]
 |none=>
  simp only[hf2] at a
  cases ok with
  |true=>
   refine aT.still s J (x:= .tuple #[z,.bool false]) ?_ ⟨_,rfl,A,rfl,trivial⟩;simp [Instr.lookup,run_underlying K,b,c,Instr.findKey,run_underlying u,a,zeroValue,typeInfo,hi,q]
  |false=>
   refine aT.still s J (x:=z) ?_ A;simp [Instr.lookup,run_underlying K,b,c,Instr.findKey,run_underlying u,a,zeroValue,typeInfo,hi,q]
theorem Tc {kk:IntKind}{n:Int}{y:V}{u:Value}(r:VR m y u): ∀{es:List (V×V)} {es':List MapEntry} (i:Nat),Mv m es es'->tQ kk es=true-> ∀(j:IntKind) (born:Nat),
  (∃l x,Instr.findNow (.int j) (.int kk n) es' i=some (some (i+l,x))/\(∃e,es'[l]? =some e/\e.key= .int kk n)/\Mv m (Ih kk n y es) (es'.modify l λe=>{e with key:= .int kk n,val:=u}))∨
  (Instr.findNow (.int j) (.int kk n) es' i=some none/\Mv m (Ih kk n y es) (es'++ [{key:= .int kk n,val:=u,born:=born}]))
 | [],es',i,h,_,j,born=>by
  obtain⟨f,_⟩:=h
  cases es' with
  |nil=>
   refine .inr ⟨by simp [Instr.findNow],by simp [Ih],λq k v b=>?_⟩
   cases q with
   |zero=>simp [Ih] at b;obtain⟨rfl,rfl⟩:=b;exact⟨_,rfl,rfl,r⟩
   |succ q=>simp [Ih] at b
  |cons _ _=>simp at f
 |(k,v)::es,es',i,h,o,j,born=>by
  cases es' with
  |nil=>simp [Mv] at h
  |cons e es'=>
   obtain⟨d,z,a⟩:=ajX h
   cases k with
   |int k' n'=>
    simp only[tQ,vN,beq_iff_eq] at o;obtain⟨rfl,o⟩:=o;have c:e.key= .int k' n':=d;simp only[Ih]
    by_cases s:n=n'
    ·subst s
     rw[bF rfl];refine .inl ⟨0,e.val,by simp [Instr.findNow,Instr.sameNow,c],⟨e,rfl,c⟩,by simp [a.1],λq k v b=>?_⟩
     cases q with
     |zero=>simp at b;obtain⟨rfl,rfl⟩:=b;exact⟨_,rfl,rfl,r⟩
     |succ q=>simpa using a.2 q k v (by simpa using b)
    ·rw[bI s]
     have A:Instr.findNow (.int j) (.int k' n) (e::es') i=Instr.findNow (.int j) (.int k' n) es' (i+1):=by
      simp [Instr.findNow,Instr.sameNow,c,show (n==n')=false from by simpa using s]
     rw[A];rcases Tc (n:=n) r (i+1) a o j born with ⟨l,x,f,⟨G,F,B⟩,p⟩|⟨f,p⟩
     ·refine .inl ⟨l+1,x,by rw[f];congr 3;omega,⟨G,by simpa using F,B⟩,by simpa using p.1,λq k v b=>?_⟩
      cases q with
      |zero=>simp at b;obtain⟨rfl,rfl⟩:=b;exact⟨e,rfl,d,z⟩
      |succ q=>simpa using p.2 q k v (by simpa using b)
     ·refine .inr ⟨f,by simpa using p.1,λq k v b=>?_⟩
      cases q with
      |zero=>simp at b;obtain⟨rfl,rfl⟩:=b;exact⟨e,rfl,d,z⟩
      |succ q=>simpa using p.2 q k v (by simpa using b)
   |_=>simp [tQ] at o
theorem BS (Z:HR P m h w)(hf:gK m h.next){et:TypeId}(ht:P.underlying t=some (.map kt et))(R:P.underlying kt=some (.int j))
  {id:Nat}    {v:V} {z:Value} (hx:VR m (.mp id) x) (hy:VR m (.int kk n) y) (hz:VR m v z) (hg:h.get id=some (.map es)) (s:tQ kk es=true):
  ∃w',(Instr.mapUpdate t x y z).run P w= .ok () w'/\iO P m h w m (h.set id (some (.map (Ih kk n v es)))) w':=by
 obtain⟨p,Y,rfl⟩:=hx
 obtain rfl:y= .int kk n:=hy
 obtain⟨p',F,d,a,B,J,Q⟩:=Z.live id _ hg
 rw[Y] at F;cases F
 have A:Mv m es d.toList:=⟨by simpa using J,λi k v hi=>by simpa using Q i k v hi⟩
 have r:(getObj p.1).run P w= .ok (.map d a) w:=by simp [getObj,Sem.run,B]
 have u:=Gr (w:=w) R false 9999 (.int kk n)
 have q: ∀o,(setObj p.1 o).run P w= .ok () (w.putObj p.1 o):=λo=>by simp [setObj,Sem.run,B,World.putObj]
 have O:p.1<w.heap.size:=(AS.1 B).1
 have G: ∀f c,Mv m (Ih kk n v es) (Array.toList f)->iO P m h w m (h.set id (some (.map (Ih kk n v es)))) (w.putObj p.1 (.map f c)):=λf c L=>
  iO.put Z hf hg rfl rfl Y ⟨f,c,World.putObj_heap_same O,by simpa using L.1,λi k v hi=>by simpa using L.2 i k v hi⟩ rfl rfl rfl (by simp) (λb B=>World.putObj_heap_other B)
 rcases Tc (n:=n) hz 0 A s j a with ⟨l,x,N,⟨e,h2,h3⟩,U⟩|⟨N,U⟩
 ·simp only[Nat.zero_add] at N
  refine⟨_,?_,G (d.modify l λe=>{e with key:= .int kk n,val:=z}) a (by simpa using U)⟩
  have W:d[l]? =some e:=by simpa using h2
  have K:(Option.map MapEntry.key d[l]?).getD (.int kk n)= .int kk n:=by rw[W];exact h3
  have iP:(Instr.keyThatStays (.int kk n) (.int kk n)).run P w= .ok (.int kk n) w:=by
   simp [Instr.keyThatStays,Instr.sameBits]
  simp only[Instr.mapUpdate,Sem.run_bind,run_underlying ht,Result.andThen_ok,r,u,Instr.findKey,run_underlying R,N,Sem.run_pure,K,iP,q]
 ·refine⟨_,?_,G (d.push {key:= .int kk n,val:=z,born:=a}) (a+1) (by simpa using U)⟩
  simp only[Instr.mapUpdate,Sem.run_bind,run_underlying ht,Result.andThen_ok,r,u,Instr.findKey,run_underlying R,N,Sem.run_pure,q]
end
end
end Go.Ay
