/- make, literals, copy, maps. -/
import Derived.Test.YtapfcpkecmmagaaGreatAy6
import Derived.Laws.MakeOwn
import Derived.Great.BuildSlice
namespace Go.Ay
open Go
section
variable {e t kt:TypeId} {sz:Nat} {zu:V} {x y:Value} {es:List (V×V)} {kk j:IntKind} {n:Int}
section
variable {P:Program} {m:M} {h:H} {w:World}
theorem M.iM (m:M)(id:Nat)(p:Nat×Nat×Nat):(m.set id p) id=some p:=by simp [M.set]
theorem foldl_set (off:Nat): ∀(xs:List Value) (k:Nat) (cells:Array Value),off+k+xs.length<=cells.size->
  ((xs.zipIdx k).foldl (λcs (p:Value×Nat)=>cs.setIfInBounds (off+p.2) p.1) cells).toList=cells.toList.take (off+k)++xs++cells.toList.drop (off+k+xs.length)
 | [],k,cells,_=>by simp
 |x::xs,k,cells,h=>by
  simp only[List.zipIdx_cons,List.foldl_cons,List.length_cons] at h ⊢;rw[foldl_set off xs (k+1) _ (by simp;omega)];have:=list_seg_step cells.toList (off+k) x xs (by simp;omega);simp only[Array.toList_setIfInBounds];rw[show off+(k+1)=off+k+1 from om];rw[this]
theorem qG {place:Nat->Option (Nat×Nat)}: ∀(ps:List (Nat×Nat×V)) (qs:List (Nat×Value)) (cs us:List V) (xs:Array Value),fP m cs xs.toList->
  ps.length=qs.length->(∀(i:Nat) (a:Nat×Nat×V) (q:Nat×Value),ps[i]? =some a->qs[i]? =some q->place q.1=some (a.1,a.2.1)/\VR m a.2.2 q.2)->gI cs ps=some us->
  ∃ys,Instr.fill place xs qs=some ys/\fP m us ys.toList
 | [], [],cs,us,xs,hx,_,_,he=>by simp only[gI] at he;cases he;exact⟨xs,rfl,hx⟩
 |a::ps,q::qs,cs,us,xs,hx,hl,hp,he=>by
  obtain⟨b,n,v⟩:=a;obtain⟨i,y⟩:=q;obtain⟨o,s⟩:=hp 0 _ _ rfl rfl;simp only at o s;simp only[gI] at he;split at he
  ·rename_i r
   obtain⟨r,c⟩:=r
   cases hput:putAt cs b v.cells with
   |none=>simp [hput] at he
   |some cs'=>
    simp only[hput] at he;have k:=VR.cells s c;have d:=fP.length k;have g:=fP.length hx;obtain⟨rfl,u⟩:=vU hput;simp only[Array.length_toList] at d g;have l:=foldl_set b y.cells.toList 0 xs (by simp;omega);simp only[Nat.add_zero] at l
    have f:fP m (cs.take b++v.cells++cs.drop (b+v.cells.length)) (((y.cells.toList.zipIdx 0).foldl (λcs (p:Value×Nat)=>cs.setIfInBounds (b+p.2) p.1) xs).toList):=by
     rw[l];have:b+v.cells.length=b+y.cells.toList.length:=by simp;omega
     rw[this];exact ((hx.take _).append k).append (hx.drop _)
    obtain⟨ys,z,F⟩:=qG ps qs _ us _ f (by simpa using hl) (λj a q B A=>hp (j+1) a q (by simpa using B) (by simpa using A)) he;refine⟨ys,?_,F⟩;simp only[Instr.fill,o];rw[aZ]
    ·rw[←z]
     congr 1;rw[←Array.foldl_toList,Array.toList_zipIdx]
    ·simp;omega
  ·cases he
 | [],_::_,_,_,_,_,hl,_,_=>by simp at hl
 |_::_, [],_,_,_,_,hl,_,_=>by simp at hl
theorem iS (m:M){u:V}{i:TypeInfo}{z:Value}(h:jB P e=some u)(hi:P.info? e=some i)(d:i.zero=some z):fP m u.cells z.cells.toList/\(∀c∈u.cells,c.one=true)/\VR m u z:=by
 unfold jB at h;simp only[hi,Option.bind_some,d,Option.filter_eq_some_iff] at h;have b:=yQ m h.1;have a:=zD h.1 (λe=>by rw[e] at h;simp [CR] at h);exact⟨b.cells (zE.2 a),a,b⟩
theorem oN {zero:List V}{z:Array Value}(g:fP m zero z.toList)(b:0<zero.length)(n:Nat):
  fP m (dO zero n) ((Array.range n).map (z[· %z.size]!)).toList:=by
 have f:=fP.length g
 simp only[Array.length_toList] at f
 refine fP.iC (by simp [dO]) (λi v c=>?_)
 simp only[dO,Lc,jA] at c
 obtain⟨j,k,rfl⟩:=c
 have a:i<n/\j=i:=by
  obtain⟨c,d⟩:=xI.1 k;simp at c d;exact⟨c,d.symm⟩
 obtain⟨hi,rfl⟩:=a
 have a:j%zero.length<zero.length:=Nat.mod_lt _ b
 obtain⟨x,k,d⟩:=g.get (i:=j%zero.length) (eV a)
 refine⟨z[j%z.size]!,by simp [hi],?_⟩
 have:zero.getD (j%zero.length) V.undef=zero[j%zero.length]:=by simp [List.getD,a]
 rw[this]
 have c:j%z.size<z.size:=by rw[←f];exact a
 have:z[j%z.size]! =x:=by
  rw[getElem!_pos z _ c];have a:z[j%z.size]? =some x:=by rw[f] at k;simpa using k
  rw[Er] at a;exact a.2
 rw[this];exact d
theorem uF {zero:List V}(h: ∀c∈zero,c.one=true)(b:0<zero.length)(n:Nat): ∀c∈dO zero n,c.one=true:=by
 intro c a;simp only[dO,pU] at a;obtain⟨i,_,rfl⟩:=a;have a:i%zero.length<zero.length:=Nat.mod_lt _ b;have:zero.getD (i%zero.length) V.undef=zero[i%zero.length]:=by simp [List.getD,a]
 rw[this];exact h _ (xR a)
theorem Rq (O:HR P m h w)(K:fL m h.next){bytes:Nat}(J:P.underlying t=some (.slice e))(Q:gE P e=some sz)(U:rF P e=some bytes)
  (L:jB P e=some zu) (q:Lf P e sz=true) (W:sz≠0) {l c r:V}  {h':H} (N:VR m l x) (G:VR m c y) (d:vH h sz bytes zu.cells l c=some (r,h')):
  aU P m h w (Instr.makeSlice t x y) r h':=by
 obtain⟨i,hi,s,v⟩:=Kt Q U
 obtain⟨Z,z,g,k,u⟩:=uV q
 rw[hi] at g;cases g
 subst s
 subst v
 obtain⟨o,p,_⟩:=iS m L hi k
 have R:zu.cells.length=i.size:=by rw[fP.length o];simpa using u
 cases l<;>simp only[vH] at d<;>try cases d
 cases c<;>simp only at d<;>try cases d
 rename_i F l B c
 split at d
 ·rename_i A
  cases d
  obtain rfl:x= .int F l:=N
  obtain rfl:y= .int B c:=G
  have a:(i.bytes:Int)*c<=281474976710656:=by rw[Int.mul_comm];omega
  have f:=run_make w t e i z J hi k F B l c A.1 A.2.1 a om
  have Y:=oN o om (c.toNat*i.size)
  have b:=pP O K [] Y (uF p om _) e
  simp only[qA,Array.toArray_toList] at b
  refine⟨_,_,_,f,⟨_,_,0,M.iM ..,rfl,om,λ_=>rfl,rfl,rfl⟩,b⟩
 ·cases d
theorem Sf (K:HR P m h w)(G:fL m h.next){n:Nat}(A:P.underlying t=some (.slice e))(s:gE P e=some sz)
  (J:jB P e=some zu) (p:Lf P e sz=true) (Q:sz≠0) (c: ¬n*sz>2^24) {l:List (Nat×Nat×V)} {g:Array (Nat×Value)} {us:List V} (N:l.length=g.size)
  (L: ∀(j:Nat) (a:Nat×Nat×V) (q:Nat×Value),l[j]? =some a->g.toList[j]? =some q->some (q.1*sz,sz)=some (a.1,a.2.1)/\VR m a.2.2 q.2)
  (R:gI (dO zu.cells (n*sz)) l=some us) (O: ∀v∈us,v.one=true):
  aU P m h w (Instr.buildSlice t n g) (.sl h.next 0 n (.kn n)) (h.new (.cells false us)):=by
 obtain⟨B,z,b,k,o⟩:=uV p
 have d:B.size=sz:=by unfold gE at s;rw[b] at s;simpa using s
 obtain⟨i,r,_⟩:=iS m J b k
 have r:zu.cells.length=sz:=by rw[fP.length i];simpa using o
 have u:=oN i om (n*sz)
 obtain⟨F,o,r⟩:=qG (place:=λi=>some (i*sz,sz)) l g.toList _ us _ u (by simpa using N) L R
 have f:=pP K G [] r O e
 simp only[qA,Array.toArray_toList] at f
 have i:(Instr.buildSlice t n g).run P w= .ok (.slice (some ⟨w.heap.size,0,none⟩) n n) (w.alloc (.cells F e)):=by
  by_cases u:n*sz=0
  ·rw[u,show ((Array.range 0).map (z.cells[· %z.cells.size]!))=(#[]:Array Value) from by simp] at o
   have r:(Array.range 0).map (λ(_:Nat)=>(default:Value))= #[]:=by simp
   simp [Instr.buildSlice,run_underlying A,sizeOf,typeInfo,b,d,u,newRow,r,o]
  ·exact run_buildSlice w t e n g F B z A b k (by rw[d];exact c) (by rw[d];exact u) (by rw[d];exact o)
 exact⟨_,_,_,i,⟨_,_,0,M.iM ..,rfl,eS _,λ_=>rfl,rfl,rfl⟩,f⟩
theorem Ij {a:Array Field}{b:List (Nat×Nat)}(h:rG P a=some b):a.toList.mapM (λf=>(P.info? f.type).map λi=>(f.offset,i.size))=some b:=h
theorem Sw (hr:HR P m h w)(Z:fL m h.next)(K:jB P t=some zu){c:List (Nat×X)}{Q:List (Nat×Nat×X)}(d:Lj P t c=some Q)
  {ρ:X->V} {f:Array (Nat×Value)} (hl:c.length=f.size) (hq: ∀(j:Nat) (a:Nat×X) (q:Nat×Value),c[j]? =some a->f.toList[j]? =some q->q.1=a.1/\VR m (ρ a.2) q.2)
  {us:List V} (he:gI zu.cells (Q.map λp=>(p.1,p.2.1,ρ p.2.2))=some us):
  aU P m h w (Instr.build t f) (.agg us) h:=by
 unfold Lj at d
 have l: ∃i z,P.info? t=some i/\i.zero=some z:=by
  unfold jB at K
  cases hi:P.info? t with
  |none=>simp [hi] at K
  |some i=>
   cases hzz:i.zero with
   |none=>simp [hi,hzz] at K
   |some z=>exact⟨i,z,rfl,hzz⟩
 obtain⟨i,z,hi,g⟩:=l
 obtain⟨F,_,_⟩:=iS m K hi g
 split at d
 ·rename_i fs k
  cases hfp:rG P fs with
  |none=>simp [hfp] at d
  |some pls=>
   simp only[hfp] at d;obtain⟨a1,a2⟩:=gO d
   obtain⟨o,U,N⟩:=qG (place:=(pls.toArray[·]?)) (Q.map λp=>(p.1,p.2.1,ρ p.2.2)) f.toList zu.cells us z.cells F (by simp [a1];omega) (λj a q B u=>by
    simp only[Lc,jA] at B;obtain⟨p,G,rfl⟩:=B;have hj:j<c.length:=by have:=(xI.1 G).1;omega
    obtain⟨b,v,A⟩:=a2 j c[j] (eV hj);rw[G] at v;cases v;obtain⟨L,R⟩:=hq j _ q (eV hj) u;simp only[jA] at A;obtain⟨r,O,rfl⟩:=A
    exact⟨by simp only[List.getElem?_toArray,L];rw[O],R⟩) he
   have v:P.built t f.toList=some o:=by
    unfold Program.built;simp only[hi,k,g,Ij hfp];exact U
   exact aU.still hr Z (run_build w t f o v) ⟨o,rfl,N⟩
 ·rename_i n e k
  simp only[jA] at d
  obtain⟨s,W,rfl⟩:=d
  unfold gE at W
  simp only[jA] at W
  obtain⟨J,Y,rfl⟩:=W
  obtain⟨o,U,N⟩:=qG (place:=λj=>some (j*J.size,J.size)) ((c.map λp=>(p.1*J.size,J.size,p.2)).map λp=>(p.1,p.2.1,ρ p.2.2)) f.toList zu.cells us z.cells F (by simp;omega) (λj a q B u=>by
   simp only[List.map_map,Lc,jA] at B;obtain⟨p,G,rfl⟩:=B;obtain⟨L,R⟩:=hq j _ q G u
   exact⟨by simp [L],R⟩) he
  have v:P.built t f.toList=some o:=by
   unfold Program.built;simp only[hi,k,g,Y];exact U
  exact aU.still hr Z (run_build w t f o v) ⟨o,rfl,N⟩
 ·cases d
theorem Se (O:HR P m h w)(hf:fL m h.next){u:TypeId}(A:P.underlying t=some (.slice e))(hs:gE P e=some sz)
  {v1 v2 r:V}  {h':H} (hx:VR m v1 x) (Y:VR m v2 y) (f:Sj h sz v1 v2=some (r,h')) (ty:TypeId):
  aU P m h w (Builtin.copy_ #[t,u] ty #[x,y]) r h':=by
 have l:=eQ (w:=w) hs
 unfold Sj at f
 split at f
 ·rename_i n k R B
  have v: ∀a b:Nat,Nat.min a b=min a b:=λ_ _=>rfl
  simp only at f
  split at f
  ·rename_i id z l1 c1 W o l2 c2
   simp only[mG] at R B
   cases R;cases B
   obtain⟨p,c,o1,hp,rfl,_,Q,_⟩:=hx
   obtain⟨p',c',o2,F,rfl,_,U,_⟩:=Y
   cases hrow:h.row W o (min k n*sz) with
   |none=>simp [hrow] at f
   |some ys=>
    simp only[hrow] at f
    cases hput:h.put id z ys with
    |none=>simp [hput] at f
    |some h2=>
     simp only[hput] at f;cases f;obtain⟨q,cc,Z,fr,hq,hb,_,L,J,h1⟩:=sH O hrow;rw[F] at hq;cases hq;obtain⟨N,iA,i⟩:=sP O hf hput J h1 hp;have hl:=iY (P:=P) hb L
     by_cases a0:0<min k n
     ·obtain rfl:=Q om
      obtain rfl:=U om;refine⟨_,N,m,?_,(rfl:VR m (.int .i64 ((min k n:Nat):Int)) _),i⟩;simp [Builtin.copy_,run_underlying A,Builtin.lenOf,l,Builtin.firstCells,v,hl,iA,goInt]
     ·have g:min k n=0:=om
      have s:Nat.min k n=0:=g
      have hw:N=w:=by
       rw[g] at iA;simp [storeCells] at iA;exact iA.symm
      subst hw;refine⟨_,N,m,?_,(rfl:VR m (.int .i64 ((min k n:Nat):Int)) _),i⟩;rw[g];simp [Builtin.copy_,run_underlying A,Builtin.lenOf,l,s,Builtin.firstCells,loadCells,loadCellsFrom,storeCells,goInt]
  ·split at f
   ·rename_i K
    cases f
    obtain⟨a,c,rfl⟩:=nL hx R
    obtain⟨b,d,rfl⟩:=nL Y B
    refine aU.still O hf (x:=goInt 0) ?_ rfl
    have g:Nat.min k n=0:=K
    have G:(Builtin.firstCells sz 0 (.slice b k d)).run P w= .ok #[] w:=by
     cases b<;>simp [Builtin.firstCells,loadCells,loadCellsFrom]
    cases a<;>simp [Builtin.copy_,run_underlying A,Builtin.lenOf,l,g,G,storeCells]
   ·cases f
 ·cases f
def Bv (m:M)(es:List (V×V))(es':List MapEntry):Prop:=
 es.length=es'.length/\ ∀(i:Nat) (k v:V),es[i]? =some (k,v)-> ∃e:MapEntry,es'[i]? =some e/\VR m k e.key/\VR m v e.val
theorem Ep {k v:V}{e:MapEntry}{b:List MapEntry}(h:Bv m ((k,v)::es) (e::b)):VR m k e.key/\VR m v e.val/\Bv m es b:=by
 obtain⟨d,c⟩:=h;obtain⟨i,a,g,f⟩:=c 0 k v rfl;simp at a;subst a;exact⟨g,f,by simpa using d,λi k v hi=>by simpa using c (i+1) k v (by simpa using hi)⟩
theorem Ag {kk:IntKind}{n:Int}: ∀{es:List (V×V)} {es':List MapEntry} (i:Nat),Bv m es es'->mZ kk es=true-> ∀j,
  (match sD kk n es with
   |some v=> ∃l x,Instr.findNow (.int j) (.int kk n) es' i=some (some (i+l,x))/\VR m v x/\l<es.length
   |none=>Instr.findNow (.int j) (.int kk n) es' i=some none)
 | [],es',i,h,_,j=>by
  obtain⟨d,_⟩:=h
  cases es' with
  |nil=>simp [sD,Instr.findNow]
  |cons _ _=>simp at d
 |(k,v)::es,es',i,h,c,j=>by
  cases es' with
  |nil=>simp [Bv] at h
  |cons e es'=>
   obtain⟨o,q,b⟩:=Ep h
   cases k with
   |int k' n'=>
    simp only[mZ,pF,beq_iff_eq] at c;obtain⟨rfl,c⟩:=c;have a:e.key= .int k' n':=o;simp only[sD,if_true]
    by_cases g:n=n'
    ·subst g
     rw[aV rfl];exact⟨0,e.val,by simp [Instr.findNow,Instr.sameNow,a],q,by simp⟩
    ·rw[aZ g]
     have f:=Ag (n:=n) (i+1) b c j
     have p:Instr.findNow (.int j) (.int k' n) (e::es') i=Instr.findNow (.int j) (.int k' n) es' (i+1):=by
      simp [Instr.findNow,Instr.sameNow,a,show (n==n')=false from by simpa using g]
     rw[p]
     cases hf:sD k' n es with
     |none=>simpa [hf] using f
     |some u=>
      simp only[hf] at f ⊢;obtain⟨l,x,d,r,s⟩:=f;exact⟨l+1,x,by rw[d];congr 3;omega,r,by simp;omega⟩
   |_=>simp [mZ] at c
theorem vW (a:P.underlying kt=some (.int j))(b:Bool)(n:Nat)(x:Value):(Instr.checkKey b (n+1) kt x).run P w= .ok () w:=by
 simp [Instr.checkKey,run_underlying a]
theorem Rt (A:HR P m h w)(G:fL m h.next){B:TypeId}(F:P.underlying t=some (.map kt B))(r:P.underlying kt=some (.int j))(J:jB P B=some zu)
  {id:Nat}     (U:VR m (.mp id) x) (O:VR m (.int kk n) y) (R:h.get id=some (.map es)) (d:mZ kk es=true) (u:Bool):
  aU P m h w (Instr.lookup t x y u) (match sD kk n es with|some v=>(if u then .tup [v,.bool true] else v)|none=>(if u then .tup [zu,.bool false] else zu)) h:=by
 obtain⟨p,Q,rfl⟩:=U
 obtain rfl:y= .int kk n:=O
 obtain⟨Y,s,o,l,W,k,K⟩:=A.live id _ R
 rw[Q] at s;cases s
 have s:Bv m es o.toList:=⟨by simpa using k,λi k v hi=>by simpa using K i k v hi⟩
 have a:=Ag (n:=n) 0 s d j
 have b:(getObj p.1).run P w= .ok (.map o l) w:=by simp [getObj,Sem.run,W]
 have c:=vW (w:=w) r o.isEmpty 9999 (.int kk n)
 have g: ∃i z,P.info? B=some i/\i.zero=some z:=by
  unfold jB at J
  cases hi:P.info? B with
  |none=>simp [hi] at J
  |some i=>
   cases hzz:i.zero with
   |none=>simp [hi,hzz] at J
   |some z=>exact⟨i,z,rfl,hzz⟩
 obtain⟨i,z,hi,f⟩:=g
 obtain⟨_,_,q⟩:=iS m J hi f
 cases hf2:sD kk n es with
 |some v=>
  simp only[hf2] at a;obtain⟨l,x,L,N,_⟩:=a;simp only[Nat.zero_add] at L
  cases u with
  |true=>
   refine aU.still A G (x:= .tuple #[x,.bool true]) ?_ ⟨_,rfl,N,rfl,trivial⟩;simp [Instr.lookup,run_underlying F,b,c,Instr.findKey,run_underlying r,L]
  |false=>
   refine aU.still A G (x:=x) ?_ N;simp [Instr.lookup,run_underlying F,b,c,Instr.findKey,run_underlying r,L]
 |none=>
  simp only[hf2] at a
  cases u with
  |true=>
   refine aU.still A G (x:= .tuple #[z,.bool false]) ?_ ⟨_,rfl,q,rfl,trivial⟩;simp [Instr.lookup,run_underlying F,b,c,Instr.findKey,run_underlying r,a,zeroValue,typeInfo,hi,f]
  |false=>
   refine aU.still A G (x:=z) ?_ q;simp [Instr.lookup,run_underlying F,b,c,Instr.findKey,run_underlying r,a,zeroValue,typeInfo,hi,f]
theorem El {kk:IntKind}{n:Int}{y:V}{p:Value}(r:VR m y p): ∀{es:List (V×V)} {es':List MapEntry} (i:Nat),Bv m es es'->mZ kk es=true-> ∀(j:IntKind) (born:Nat),
  (∃l x,Instr.findNow (.int j) (.int kk n) es' i=some (some (i+l,x))/\(∃e,es'[l]? =some e/\e.key= .int kk n)/\Bv m (wJ kk n y es) (es'.modify l λe=>{e with key:= .int kk n,val:=p}))∨
  (Instr.findNow (.int j) (.int kk n) es' i=some none/\Bv m (wJ kk n y es) (es'++ [{key:= .int kk n,val:=p,born:=born}]))
 | [],es',i,h,_,j,born=>by
  obtain⟨g,_⟩:=h
  cases es' with
  |nil=>
   refine .inr ⟨by simp [Instr.findNow],by simp [wJ],λq k v b=>?_⟩
   cases q with
   |zero=>simp [wJ] at b;obtain⟨rfl,rfl⟩:=b;exact⟨_,rfl,rfl,r⟩
   |succ q=>simp [wJ] at b
  |cons _ _=>simp at g
 |(k,v)::es,es',i,h,f,j,born=>by
  cases es' with
  |nil=>simp [Bv] at h
  |cons e es'=>
   obtain⟨d,u,a⟩:=Ep h
   cases k with
   |int k' n'=>
    simp only[mZ,pF,beq_iff_eq] at f;obtain⟨rfl,f⟩:=f;have c:e.key= .int k' n':=d;simp only[wJ]
    by_cases s:n=n'
    ·subst s
     rw[aV rfl];refine .inl ⟨0,e.val,by simp [Instr.findNow,Instr.sameNow,c],⟨e,rfl,c⟩,by simp [a.1],λq k v b=>?_⟩
     cases q with
     |zero=>simp at b;obtain⟨rfl,rfl⟩:=b;exact⟨_,rfl,rfl,r⟩
     |succ q=>simpa using a.2 q k v (by simpa using b)
    ·rw[aZ s]
     have B:Instr.findNow (.int j) (.int k' n) (e::es') i=Instr.findNow (.int j) (.int k' n) es' (i+1):=by
      simp [Instr.findNow,Instr.sameNow,c,show (n==n')=false from by simpa using s]
     rw[B];rcases El (n:=n) r (i+1) a f j born with ⟨l,x,g,⟨A,F,z⟩,o⟩|⟨g,o⟩
     ·refine .inl ⟨l+1,x,by rw[g];congr 3;omega,⟨A,by simpa using F,z⟩,by simpa using o.1,λq k v b=>?_⟩
      cases q with
      |zero=>simp at b;obtain⟨rfl,rfl⟩:=b;exact⟨e,rfl,d,u⟩
      |succ q=>simpa using o.2 q k v (by simpa using b)
     ·refine .inr ⟨g,by simpa using o.1,λq k v b=>?_⟩
      cases q with
      |zero=>simp at b;obtain⟨rfl,rfl⟩:=b;exact⟨e,rfl,d,u⟩
      |succ q=>simpa using o.2 q k v (by simpa using b)
   |_=>simp [mZ] at f
theorem Lw (O:HR P m h w)(U:fL m h.next){Q:TypeId}(K:P.underlying t=some (.map kt Q))(F:P.underlying kt=some (.int j))
  {id:Nat}    {v:V} {z:Value} (Y:VR m (.mp id) x) (R:VR m (.int kk n) y) (W:VR m v z) (N:h.get id=some (.map es)) (q:mZ kk es=true):
  ∃w',(Instr.mapUpdate t x y z).run P w= .ok () w'/\fY P m h w m (h.set id (some (.map (wJ kk n v es)))) w':=by
 obtain⟨p,L,rfl⟩:=Y
 obtain rfl:y= .int kk n:=R
 obtain⟨Z,o,c,a,B,l,G⟩:=O.live id _ N
 rw[L] at o;cases o
 have s:Bv m es c.toList:=⟨by simpa using l,λi k v hi=>by simpa using G i k v hi⟩
 have g:(getObj p.1).run P w= .ok (.map c a) w:=by simp [getObj,Sem.run,B]
 have r:=vW (w:=w) F false 9999 (.int kk n)
 have f: ∀o,(setObj p.1 o).run P w= .ok () (w.putObj p.1 o):=λo=>by simp [setObj,Sem.run,B,World.putObj]
 have J:p.1<w.heap.size:=(Er.1 B).1
 have A: ∀d b,Bv m (wJ kk n v es) (Array.toList d)->fY P m h w m (h.set id (some (.map (wJ kk n v es)))) (w.putObj p.1 (.map d b)):=λd b u=>
  fY.put O U N rfl rfl L ⟨d,b,World.putObj_heap_same J,by simpa using u.1,λi k v hi=>by simpa using u.2 i k v hi⟩ rfl rfl rfl (by simp) (λb B=>World.putObj_heap_other B)
 rcases El (n:=n) W 0 s q j a with ⟨l,x,d,⟨e,b,o⟩,k⟩|⟨d,k⟩
 ·simp only[Nat.zero_add] at d
  refine⟨_,?_,A (c.modify l λe=>{e with key:= .int kk n,val:=z}) a (by simpa using k)⟩
  have i:c[l]? =some e:=by simpa using b
  have b:(Option.map MapEntry.key c[l]?).getD (.int kk n)= .int kk n:=by rw[i];exact o
  have iA:(Instr.keyThatStays (.int kk n) (.int kk n)).run P w= .ok (.int kk n) w:=by
   simp [Instr.keyThatStays,Instr.sameBits]
  simp only[Instr.mapUpdate,Sem.run_bind,run_underlying K,Result.andThen_ok,g,r,Instr.findKey,run_underlying F,d,Sem.run_pure,b,iA,f]
 ·refine⟨_,?_,A (c.push {key:= .int kk n,val:=z,born:=a}) (a+1) (by simpa using k)⟩
  simp only[Instr.mapUpdate,Sem.run_bind,run_underlying K,Result.andThen_ok,g,r,Instr.findKey,run_underlying F,d,Sem.run_pure,f]
end
end
end Go.Ay
