/- make, literals, copy, maps. -/
import Derived.Test.YtcdbmkidaecdiaaGreatAy6
import Derived.Laws.MakeOwn
import Derived.Great.BuildSlice
namespace Go.Ay
open Go
section
variable {e t kt:TypeId} {sz:Nat} {zu:V} {x y:Value} {es:List (V×V)} {kk j:IntKind} {n:Int}
section
variable {P:Program} {m:M} {h:H} {w:World}
theorem M.jH (m:M)(id:Nat)(p:Nat×Nat×Nat):(m.set id p) id=some p:=by simp [M.set]
theorem foldl_set (off:Nat): ∀(xs:List Value) (k:Nat) (cells:Array Value),off+k+xs.length<=cells.size->
  ((xs.zipIdx k).foldl (λcs (p:Value×Nat)=>cs.setIfInBounds (off+p.2) p.1) cells).toList=cells.toList.take (off+k)++xs++cells.toList.drop (off+k+xs.length)
 | [],k,cells,_=>by simp
 |x::xs,k,cells,h=>by
  simp only[List.zipIdx_cons,List.foldl_cons,List.length_cons] at h ⊢;rw[foldl_set off xs (k+1) _ (by simp;omega)];have:=list_seg_step cells.toList (off+k) x xs (by simp;omega);simp only[Array.toList_setIfInBounds];rw[show off+(k+1)=off+k+1 from om];rw[this]
theorem xQ {place:Nat->Option (Nat×Nat)}: ∀(ps:List (Nat×Nat×V)) (qs:List (Nat×Value)) (cs us:List V) (xs:Array Value),gJ m cs xs.toList->
  ps.length=qs.length->(∀(i:Nat) (a:Nat×Nat×V) (q:Nat×Value),ps[i]? =some a->qs[i]? =some q->place q.1=some (a.1,a.2.1)/\VR m a.2.2 q.2)->gZ cs ps=some us->
  ∃ys,Instr.fill place xs qs=some ys/\gJ m us ys.toList
 | [], [],cs,us,xs,hx,_,_,he=>by simp only[gZ] at he;cases he;exact⟨xs,rfl,hx⟩
 |a::ps,q::qs,cs,us,xs,hx,hl,hp,he=>by
  obtain⟨b,n,v⟩:=a;obtain⟨i,y⟩:=q;obtain⟨l,r⟩:=hp 0 _ _ rfl rfl;simp only at l r;simp only[gZ] at he;split at he
  ·rename_i s
   obtain⟨s,c⟩:=s
   cases hput:putAt cs b v.cells with
   |none=>simp [hput] at he
   |some cs'=>
    simp only[hput] at he;have k:=VR.cells r c;have f:=gJ.length k;have d:=gJ.length hx;obtain⟨rfl,F⟩:=Ge hput;simp only[Array.length_toList] at f d;have o:=foldl_set b y.cells.toList 0 xs (by simp;omega);simp only[Nat.add_zero] at o
    have g:gJ m (cs.take b++v.cells++cs.drop (b+v.cells.length)) (((y.cells.toList.zipIdx 0).foldl (λcs (p:Value×Nat)=>cs.setIfInBounds (b+p.2) p.1) xs).toList):=by
     rw[o];have:b+v.cells.length=b+y.cells.toList.length:=by simp;omega
     rw[this];exact ((hx.take _).append k).append (hx.drop _)
    obtain⟨ys,A,z⟩:=xQ ps qs _ us _ g (by simpa using hl) (λj a q B u=>hp (j+1) a q (by simpa using B) (by simpa using u)) he;refine⟨ys,?_,z⟩;simp only[Instr.fill,l];rw[bL]
    ·rw[←A]
     congr 1;rw[←Array.foldl_toList,Array.toList_zipIdx]
    ·simp;omega
  ·cases he
 | [],_::_,_,_,_,_,hl,_,_=>by simp at hl
 |_::_, [],_,_,_,_,hl,_,_=>by simp at hl
theorem jR (m:M){u:V}{i:TypeInfo}{z:Value}(h:kU P e=some u)(hi:P.info? e=some i)(d:i.zero=some z):gJ m u.cells z.cells.toList/\(∀c∈u.cells,c.one=true)/\VR m u z:=by
 unfold kU at h;simp only[hi,Option.bind_some,d,Option.filter_eq_some_iff] at h;have b:=Kr m h.1;have a:=Lj h.1 (λe=>by rw[e] at h;simp [aeL] at h);exact⟨b.cells (Lw.2 a),a,b⟩
theorem uX {zero:List V}{z:Array Value}(r:gJ m zero z.toList)(c:0<zero.length)(n:Nat):
  gJ m (dC zero n) ((Array.range n).map (z[· %z.size]!)).toList:=by
 have f:=gJ.length r
 simp only[Array.length_toList] at f
 refine gJ.kH (by simp [dC]) (λi v o=>?_)
 simp only[dC,Wy,lT] at o
 obtain⟨j,s,rfl⟩:=o
 have k:i<n/\j=i:=by
  obtain⟨l,p⟩:=zG.1 s;simp at l p;exact⟨l,p.symm⟩
 obtain⟨hi,rfl⟩:=k
 have a:j%zero.length<zero.length:=Nat.mod_lt _ c
 obtain⟨x,q,g⟩:=r.get (i:=j%zero.length) (dF a)
 refine⟨z[j%z.size]!,by simp [hi],?_⟩
 have:zero.getD (j%zero.length) V.undef=zero[j%zero.length]:=by simp [List.getD,a]
 rw[this]
 have d:j%z.size<z.size:=by rw[←f];exact a
 have:z[j%z.size]! =x:=by
  rw[getElem!_pos z _ d];have b:z[j%z.size]? =some x:=by rw[f] at q;simpa using q
  rw[Wi] at b;exact b.2
 rw[this];exact g
theorem Dr {zero:List V}(h: ∀c∈zero,c.one=true)(a:0<zero.length)(n:Nat): ∀c∈dC zero n,c.one=true:=by
 intro c d;simp only[dC,vF] at d;obtain⟨i,_,rfl⟩:=d;have b:i%zero.length<zero.length:=Nat.mod_lt _ a;have:zero.getD (i%zero.length) V.undef=zero[i%zero.length]:=by simp [List.getD,b]
 rw[this];exact h _ (Bu b)
theorem MW (Y:HR P m h w)(O:fW m h.next){bytes:Nat}(L:P.underlying t=some (.slice e))(J:iG P e=some sz)(G:Ba P e=some bytes)
  (W:kU P e=some zu) (u:BX P e sz=true) (Q:sz≠0) {l c r:V}  {h':H} (U:VR m l x) (R:VR m c y) (d:Iv h sz bytes zu.cells l c=some (r,h')):
  aT P m h w (Instr.makeSlice t x y) r h':=by
 obtain⟨i,hi,s,v⟩:=Zb J G
 obtain⟨Z,z,o,k,p⟩:=Ex u
 rw[hi] at o;cases o
 subst s
 subst v
 obtain⟨f,q,_⟩:=jR m W hi k
 have K:zu.cells.length=i.size:=by rw[gJ.length f];simpa using p
 cases l<;>simp only[Iv] at d<;>try cases d
 cases c<;>simp only at d<;>try cases d
 rename_i B l F c
 split at d
 ·rename_i A
  cases d
  obtain rfl:x= .int B l:=U
  obtain rfl:y= .int F c:=R
  have a:(i.bytes:Int)*c<=281474976710656:=by rw[Int.mul_comm];omega
  have g:=run_make w t e i z L hi k B F l c A.1 A.2.1 a om
  have N:=uX f om (c.toNat*i.size)
  have b:=wU Y O [] N (Dr q om _) e
  simp only[tD,Array.toArray_toList] at b
  refine⟨_,_,_,g,⟨_,_,0,M.jH ..,rfl,om,λ_=>rfl,rfl,rfl⟩,b⟩
 ·cases d
theorem MT (hr:HR P m h w)(Y:fW m h.next){n:Nat}(J:P.underlying t=some (.slice e))(u:iG P e=some sz)
  (hz:kU P e=some zu) (B:BX P e sz=true) (Z:sz≠0) (d: ¬n*sz>2^24) {ps:List (Nat×Nat×V)} {g:Array (Nat×Value)} {us:List V} (K:ps.length=g.size)
  (W: ∀(j:Nat) (a:Nat×Nat×V) (q:Nat×Value),ps[j]? =some a->g.toList[j]? =some q->some (q.1*sz,sz)=some (a.1,a.2.1)/\VR m a.2.2 q.2)
  (N:gZ (dC zu.cells (n*sz)) ps=some us) (R: ∀v∈us,v.one=true):
  aT P m h w (Instr.buildSlice t n g) (.sl h.next 0 n (.kn n)) (h.new (.cells false us)):=by
 obtain⟨F,z,b,o,p⟩:=Ex B
 have c:F.size=sz:=by unfold iG at u;rw[b] at u;simpa using u
 obtain⟨k,L,_⟩:=jR m hz b o
 have Q:zu.cells.length=sz:=by rw[gJ.length k];simpa using p
 have U:=uX k om (n*sz)
 obtain⟨G,A,O⟩:=xQ (place:=λi=>some (i*sz,sz)) ps g.toList _ us _ U (by simpa using K) W N
 have f:=wU hr Y [] O R e
 simp only[tD,Array.toArray_toList] at f
 have l:(Instr.buildSlice t n g).run P w= .ok (.slice (some ⟨w.heap.size,0,none⟩) n n) (w.alloc (.cells G e)):=by
  by_cases s:n*sz=0
  ·rw[s,show ((Array.range 0).map (z.cells[· %z.cells.size]!))=(#[]:Array Value) from by simp] at A
   have r:(Array.range 0).map (λ(_:Nat)=>(default:Value))= #[]:=by simp
   simp [Instr.buildSlice,run_underlying J,sizeOf,typeInfo,b,c,s,newRow,r,A]
  ·exact run_buildSlice w t e n g G F z J b o (by rw[c];exact d) (by rw[c];exact s) (by rw[c];exact A)
 exact⟨_,_,_,l,⟨_,_,0,M.jH ..,rfl,eH _,λ_=>rfl,rfl,rfl⟩,f⟩
theorem AP {a:Array Field}{ps:List (Nat×Nat)}(h:zP P a=some ps):a.toList.mapM (λf=>(P.info? f.type).map λi=>(f.offset,i.size))=some ps:=h
theorem NX (hr:HR P m h w)(hf:fW m h.next)(K:kU P t=some zu){c:List (Nat×X)}{ps:List (Nat×Nat×X)}(d:DW P t c=some ps)
  {ρ:X->V} {f:Array (Nat×Value)} (hl:c.length=f.size) (Y: ∀(j:Nat) (a:Nat×X) (q:Nat×Value),c[j]? =some a->f.toList[j]? =some q->q.1=a.1/\VR m (ρ a.2) q.2)
  {us:List V} (he:gZ zu.cells (ps.map λp=>(p.1,p.2.1,ρ p.2.2))=some us):
  aT P m h w (Instr.build t f) (.agg us) h:=by
 unfold DW at d
 have l: ∃i z,P.info? t=some i/\i.zero=some z:=by
  unfold kU at K
  cases hi:P.info? t with
  |none=>simp [hi] at K
  |some i=>
   cases hzz:i.zero with
   |none=>simp [hi,hzz] at K
   |some z=>exact⟨i,z,rfl,hzz⟩
 obtain⟨i,z,hi,k⟩:=l
 obtain⟨B,_,_⟩:=jR m K hi k
 split at d
 ·rename_i fs u
  cases hfp:zP P fs with
  |none=>simp [hfp] at d
  |some pls=>
   simp only[hfp] at d;obtain⟨a1,a2⟩:=iO d
   obtain⟨o,N,L⟩:=xQ (place:=(pls.toArray[·]?)) (ps.map λp=>(p.1,p.2.1,ρ p.2.2)) f.toList zu.cells us z.cells B (by simp [a1];omega) (λj a q F g=>by
    simp only[Wy,lT] at F;obtain⟨p,J,rfl⟩:=F;have Z:j<c.length:=by have:=(zG.1 J).1;omega
    obtain⟨b,v,A⟩:=a2 j c[j] (dF Z);rw[J] at v;cases v;obtain⟨R,W⟩:=Y j _ q (dF Z) g;simp only[lT] at A;obtain⟨r,U,rfl⟩:=A
    exact⟨by simp only[List.getElem?_toArray,R];rw[U],W⟩) he
   have v:P.built t f.toList=some o:=by
    unfold Program.built;simp only[hi,u,k,AP hfp];exact N
   exact aT.still hr hf (run_build w t f o v) ⟨o,rfl,L⟩
 ·rename_i n e u
  simp only[lT] at d
  obtain⟨s,O,rfl⟩:=d
  unfold iG at O
  simp only[lT] at O
  obtain⟨G,Q,rfl⟩:=O
  obtain⟨o,N,L⟩:=xQ (place:=λj=>some (j*G.size,G.size)) ((c.map λp=>(p.1*G.size,G.size,p.2)).map λp=>(p.1,p.2.1,ρ p.2.2)) f.toList zu.cells us z.cells B (by simp;omega) (λj a q F g=>by
   simp only[List.map_map,Wy,lT] at F;obtain⟨p,J,rfl⟩:=F;obtain⟨R,W⟩:=Y j _ q J g
   exact⟨by simp [R],W⟩) he
  have v:P.built t f.toList=some o:=by
   unfold Program.built;simp only[hi,u,k,Q];exact N
  exact aT.still hr hf (run_build w t f o v) ⟨o,rfl,L⟩
 ·cases d
theorem OG (W:HR P m h w)(hf:fW m h.next){u:TypeId}(Q:P.underlying t=some (.slice e))(hs:iG P e=some sz)
  {Y v2 r:V}  {h':H} (hx:VR m Y x) (hy:VR m v2 y) (f:adV h sz Y v2=some (r,h')) (ty:TypeId):
  aT P m h w (Builtin.copy_ #[t,u] ty #[x,y]) r h':=by
 have l:=fE (w:=w) hs
 unfold adV at f
 split at f
 ·rename_i n k K O
  have o: ∀a b:Nat,Nat.min a b=min a b:=λ_ _=>rfl
  simp only at f
  split at f
  ·rename_i id F l1 c1 L s l2 c2
   simp only[uB] at K O
   cases K;cases O
   obtain⟨p,c,o1,hp,rfl,_,N,_⟩:=hx
   obtain⟨p',c',o2,U,rfl,_,G,_⟩:=hy
   cases hrow:h.row L s (min k n*sz) with
   |none=>simp [hrow] at f
   |some ys=>
    simp only[hrow] at f
    cases hput:h.put id F ys with
    |none=>simp [hput] at f
    |some h2=>
     simp only[hput] at f;cases f;obtain⟨q,cc,Z,fr,hq,hb,_,R,J,h1⟩:=Bt W hrow;rw[U] at hq;cases hq;obtain⟨B,iB,i⟩:=Cc W hf hput J h1 hp;have hl:=kM (P:=P) hb R
     by_cases a0:0<min k n
     ·obtain rfl:=N om
      obtain rfl:=G om;refine⟨_,B,m,?_,(rfl:VR m (.int .i64 ((min k n:Nat):Int)) _),i⟩;simp [Builtin.copy_,run_underlying Q,Builtin.lenOf,l,Builtin.firstCells,o,hl,iB,goInt]
     ·have g:min k n=0:=om
      have v:Nat.min k n=0:=g
      have hw:B=w:=by
       rw[g] at iB;simp [storeCells] at iB;exact iB.symm
      subst hw;refine⟨_,B,m,?_,(rfl:VR m (.int .i64 ((min k n:Nat):Int)) _),i⟩;rw[g];simp [Builtin.copy_,run_underlying Q,Builtin.lenOf,l,v,Builtin.firstCells,loadCells,loadCellsFrom,storeCells,goInt]
  ·split at f
   ·rename_i A
    cases f
    obtain⟨a,c,rfl⟩:=tA hx K
    obtain⟨b,d,rfl⟩:=tA hy O
    refine aT.still W hf (x:=goInt 0) ?_ rfl
    have g:Nat.min k n=0:=A
    have z:(Builtin.firstCells sz 0 (.slice b k d)).run P w= .ok #[] w:=by
     cases b<;>simp [Builtin.firstCells,loadCells,loadCellsFrom]
    cases a<;>simp [Builtin.copy_,run_underlying Q,Builtin.lenOf,l,g,z,storeCells]
   ·cases f
 ·cases f
def Oc (m:M)(es:List (V×V))(es':List MapEntry):Prop:=
 es.length=es'.length/\ ∀(i:Nat) (k v:V),es[i]? =some (k,v)-> ∃e:MapEntry,es'[i]? =some e/\VR m k e.key/\VR m v e.val
theorem Rt {k v:V}{e:MapEntry}{a:List MapEntry}(h:Oc m ((k,v)::es) (e::a)):VR m k e.key/\VR m v e.val/\Oc m es a:=by
 obtain⟨d,c⟩:=h;obtain⟨l,b,g,f⟩:=c 0 k v rfl;simp at b;subst b;exact⟨g,f,by simpa using d,λi k v hi=>by simpa using c (i+1) k v (by simpa using hi)⟩
theorem Ol {kk:IntKind}{n:Int}: ∀{es:List (V×V)} {es':List MapEntry} (i:Nat),Oc m es es'->sZ kk es=true-> ∀j,
  (match zY kk n es with
   |some v=> ∃l x,Instr.findNow (.int j) (.int kk n) es' i=some (some (i+l,x))/\VR m v x/\l<es.length
   |none=>Instr.findNow (.int j) (.int kk n) es' i=some none)
 | [],es',i,h,_,j=>by
  obtain⟨d,_⟩:=h
  cases es' with
  |nil=>simp [zY,Instr.findNow]
  |cons _ _=>simp at d
 |(k,v)::es,es',i,h,c,j=>by
  cases es' with
  |nil=>simp [Oc] at h
  |cons e es'=>
   obtain⟨f,p,b⟩:=Rt h
   cases k with
   |int k' n'=>
    simp only[sZ,vV,beq_iff_eq] at c;obtain⟨rfl,c⟩:=c;have a:e.key= .int k' n':=f;simp only[zY,if_true]
    by_cases o:n=n'
    ·subst o
     rw[bJ rfl];exact⟨0,e.val,by simp [Instr.findNow,Instr.sameNow,a],p,by simp⟩
    ·rw[bL o]
     have g:=Ol (n:=n) (i+1) b c j
     have r:Instr.findNow (.int j) (.int k' n) (e::es') i=Instr.findNow (.int j) (.int k' n) es' (i+1):=by
      simp [Instr.findNow,Instr.sameNow,a,show (n==n')=false from by simpa using o]
     rw[r]
     cases hf:zY k' n es with
     |none=>simpa [hf] using g
     |some u=>
      simp only[hf] at g ⊢;obtain⟨l,x,d,q,s⟩:=g;exact⟨l+1,x,by rw[d];congr 3;omega,q,by simp;omega⟩
   |_=>simp [sZ] at c
theorem Hw (a:P.underlying kt=some (.int j))(b:Bool)(n:Nat)(x:Value):(Instr.checkKey b (n+1) kt x).run P w= .ok () w:=by
 simp [Instr.checkKey,run_underlying a]
theorem JR (F:HR P m h w)(K:fW m h.next){G:TypeId}(J:P.underlying t=some (.map kt G))(A:P.underlying kt=some (.int j))(L:kU P G=some zu)
  {id:Nat}     (Z:VR m (.mp id) x) (Y:VR m (.int kk n) y) (W:h.get id=some (.map es)) (q:sZ kk es=true) (ok:Bool):
  aT P m h w (Instr.lookup t x y ok) (match zY kk n es with|some v=>(if ok then .tup [v,.bool true] else v)|none=>(if ok then .tup [zu,.bool false] else zu)) h:=by
 obtain⟨p,U,rfl⟩:=Z
 obtain rfl:y= .int kk n:=Y
 obtain⟨p',s,d,f,R,u,N⟩:=F.live id _ W
 rw[U] at s;cases s
 have r:Oc m es d.toList:=⟨by simpa using u,λi k v hi=>by simpa using N i k v hi⟩
 have a:=Ol (n:=n) 0 r q j
 have b:(getObj p.1).run P w= .ok (.map d f) w:=by simp [getObj,Sem.run,R]
 have c:=Hw (w:=w) A d.isEmpty 9999 (.int kk n)
 have o: ∃i z,P.info? G=some i/\i.zero=some z:=by
  unfold kU at L
  cases hi:P.info? G with
  |none=>simp [hi] at L
  |some i=>
   cases hzz:i.zero with
   |none=>simp [hi,hzz] at L
   |some z=>exact⟨i,z,rfl,hzz⟩
 obtain⟨i,z,hi,g⟩:=o
 obtain⟨_,_,B⟩:=jR m L hi g
 cases hf2:zY kk n es with
 |some v=>
  simp only[hf2] at a;obtain⟨l,x,O,Q,_⟩:=a;simp only[Nat.zero_add] at O
  cases ok with
  |true=>
   refine aT.still F K (x:= .tuple #[x,.bool true]) ?_ ⟨_,rfl,Q,rfl,trivial⟩;simp [Instr.lookup,run_underlying J,b,c,Instr.findKey,run_underlying A,O]
  |false=>
   refine aT.still F K (x:=x) ?_ Q;simp [Instr.lookup,run_underlying J,b,c,Instr.findKey,run_underlying A,O]
 |none=>
  simp only[hf2] at a
  cases ok with
  |true=>
   refine aT.still F K (x:= .tuple #[z,.bool false]) ?_ ⟨_,rfl,B,rfl,trivial⟩;simp [Instr.lookup,run_underlying J,b,c,Instr.findKey,run_underlying A,a,zeroValue,typeInfo,hi,g]
  |false=>
   refine aT.still F K (x:=z) ?_ B;simp [Instr.lookup,run_underlying J,b,c,Instr.findKey,run_underlying A,a,zeroValue,typeInfo,hi,g]
theorem Tb {kk:IntKind}{n:Int}{y:V}{p:Value}(r:VR m y p): ∀{es:List (V×V)} {es':List MapEntry} (i:Nat),Oc m es es'->sZ kk es=true-> ∀(j:IntKind) (born:Nat),
  (∃l x,Instr.findNow (.int j) (.int kk n) es' i=some (some (i+l,x))/\(∃e,es'[l]? =some e/\e.key= .int kk n)/\Oc m (Jr kk n y es) (es'.modify l λe=>{e with key:= .int kk n,val:=p}))∨
  (Instr.findNow (.int j) (.int kk n) es' i=some none/\Oc m (Jr kk n y es) (es'++ [{key:= .int kk n,val:=p,born:=born}]))
 | [],es',i,h,_,j,born=>by
  obtain⟨g,_⟩:=h
  cases es' with
  |nil=>
   refine .inr ⟨by simp [Instr.findNow],by simp [Jr],λq k v a=>?_⟩
   cases q with
   |zero=>simp [Jr] at a;obtain⟨rfl,rfl⟩:=a;exact⟨_,rfl,rfl,r⟩
   |succ q=>simp [Jr] at a
  |cons _ _=>simp at g
 |(k,v)::es,es',i,h,f,j,born=>by
  cases es' with
  |nil=>simp [Oc] at h
  |cons e es'=>
   obtain⟨d,u,b⟩:=Rt h
   cases k with
   |int k' n'=>
    simp only[sZ,vV,beq_iff_eq] at f;obtain⟨rfl,f⟩:=f;have c:e.key= .int k' n':=d;simp only[Jr]
    by_cases s:n=n'
    ·subst s
     rw[bJ rfl];refine .inl ⟨0,e.val,by simp [Instr.findNow,Instr.sameNow,c],⟨e,rfl,c⟩,by simp [b.1],λq k v a=>?_⟩
     cases q with
     |zero=>simp at a;obtain⟨rfl,rfl⟩:=a;exact⟨_,rfl,rfl,r⟩
     |succ q=>simpa using b.2 q k v (by simpa using a)
    ·rw[bL s]
     have A:Instr.findNow (.int j) (.int k' n) (e::es') i=Instr.findNow (.int j) (.int k' n) es' (i+1):=by
      simp [Instr.findNow,Instr.sameNow,c,show (n==n')=false from by simpa using s]
     rw[A];rcases Tb (n:=n) r (i+1) b f j born with ⟨l,x,g,⟨z,F,B⟩,o⟩|⟨g,o⟩
     ·refine .inl ⟨l+1,x,by rw[g];congr 3;omega,⟨z,by simpa using F,B⟩,by simpa using o.1,λq k v a=>?_⟩
      cases q with
      |zero=>simp at a;obtain⟨rfl,rfl⟩:=a;exact⟨e,rfl,d,u⟩
      |succ q=>simpa using o.2 q k v (by simpa using a)
     ·refine .inr ⟨g,by simpa using o.1,λq k v a=>?_⟩
      cases q with
      |zero=>simp at a;obtain⟨rfl,rfl⟩:=a;exact⟨e,rfl,d,u⟩
      |succ q=>simpa using o.2 q k v (by simpa using a)
   |_=>simp [sZ] at f
theorem FJ (hr:HR P m h w)(hf:fW m h.next){et:TypeId}(Y:P.underlying t=some (.map kt et))(Q:P.underlying kt=some (.int j))
  {id:Nat}    {v:V} {z:Value} (hx:VR m (.mp id) x) (hy:VR m (.int kk n) y) (hz:VR m v z) (Z:h.get id=some (.map es)) (r:sZ kk es=true):
  ∃w',(Instr.mapUpdate t x y z).run P w= .ok () w'/\iC P m h w m (h.set id (some (.map (Jr kk n v es)))) w':=by
 obtain⟨p,W,rfl⟩:=hx
 obtain rfl:y= .int kk n:=hy
 obtain⟨p',K,d,a,u,F,N⟩:=hr.live id _ Z
 rw[W] at K;cases K
 have s:Oc m es d.toList:=⟨by simpa using F,λi k v hi=>by simpa using N i k v hi⟩
 have q:(getObj p.1).run P w= .ok (.map d a) w:=by simp [getObj,Sem.run,u]
 have A:=Hw (w:=w) Q false 9999 (.int kk n)
 have g: ∀o,(setObj p.1 o).run P w= .ok () (w.putObj p.1 o):=λo=>by simp [setObj,Sem.run,u,World.putObj]
 have U:p.1<w.heap.size:=(Wi.1 u).1
 have G: ∀f c,Oc m (Jr kk n v es) (Array.toList f)->iC P m h w m (h.set id (some (.map (Jr kk n v es)))) (w.putObj p.1 (.map f c)):=λf c J=>
  iC.put hr hf Z rfl rfl W ⟨f,c,World.putObj_heap_same U,by simpa using J.1,λi k v hi=>by simpa using J.2 i k v hi⟩ rfl rfl rfl (by simp) (λb u=>World.putObj_heap_other u)
 rcases Tb (n:=n) hz 0 s r j a with ⟨l,x,L,⟨e,h2,h3⟩,O⟩|⟨L,O⟩
 ·simp only[Nat.zero_add] at L
  refine⟨_,?_,G (d.modify l λe=>{e with key:= .int kk n,val:=z}) a (by simpa using O)⟩
  have R:d[l]? =some e:=by simpa using h2
  have B:(Option.map MapEntry.key d[l]?).getD (.int kk n)= .int kk n:=by rw[R];exact h3
  have iB:(Instr.keyThatStays (.int kk n) (.int kk n)).run P w= .ok (.int kk n) w:=by
   simp [Instr.keyThatStays,Instr.sameBits]
  simp only[Instr.mapUpdate,Sem.run_bind,run_underlying Y,Result.andThen_ok,q,A,Instr.findKey,run_underlying Q,L,Sem.run_pure,B,iB,g]
 ·refine⟨_,?_,G (d.push {key:= .int kk n,val:=z,born:=a}) (a+1) (by simpa using O)⟩
  simp only[Instr.mapUpdate,Sem.run_bind,run_underlying Y,Result.andThen_ok,q,A,Instr.findKey,run_underlying Q,L,Sem.run_pure,g]
end
end
end Go.Ay
