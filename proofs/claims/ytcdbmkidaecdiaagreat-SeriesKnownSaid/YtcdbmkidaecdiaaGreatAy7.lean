/- make, literals, copy, maps. -/
import Derived.Test.YtcdbmkidaecdiaaGreatAy6
import Derived.Laws.MakeOwn
import Derived.Great.BuildSlice
namespace Go.Ay
open Go
section
variable {e t kt:TypeId} {sz:Nat} {zu:V} {x y:Value} {es:List (V×V)} {kk j:IntKind} {n:Int}
section
variable {P:Program} {m:M} {h:H} {w:World}
theorem M.jR (m:M)(id:Nat)(p:Nat×Nat×Nat):(m.set id p) id=some p:=by simp [M.set]
theorem foldl_set (off:Nat): ∀(xs:List Value) (k:Nat) (cells:Array Value),off+k+xs.length<=cells.size->
  ((xs.zipIdx k).foldl (λcs (p:Value×Nat)=>cs.setIfInBounds (off+p.2) p.1) cells).toList=cells.toList.take (off+k)++xs++cells.toList.drop (off+k+xs.length)
 | [],k,cells,_=>by simp
 |x::xs,k,cells,h=>by
  simp only[List.zipIdx_cons,List.foldl_cons,List.length_cons] at h ⊢;rw[foldl_set off xs (k+1) _ (by simp;omega)];have:=list_seg_step cells.toList (off+k) x xs (by simp;omega);simp only[Array.toList_setIfInBounds];rw[show off+(k+1)=off+k+1 from om];rw[this]
theorem yA {place:Nat->Option (Nat×Nat)}: ∀(ps:List (Nat×Nat×V)) (qs:List (Nat×Value)) (cs us:List V) (xs:Array Value),gZ m cs xs.toList->
  ps.length=qs.length->(∀(i:Nat) (a:Nat×Nat×V) (q:Nat×Value),ps[i]? =some a->qs[i]? =some q->place q.1=some (a.1,a.2.1)/\VR m a.2.2 q.2)->iS cs ps=some us->
  ∃ys,Instr.fill place xs qs=some ys/\gZ m us ys.toList
 | [], [],cs,us,xs,hx,_,_,he=>by simp only[iS] at he;cases he;exact⟨xs,rfl,hx⟩
 |a::ps,q::qs,cs,us,xs,hx,hl,hp,he=>by
  obtain⟨b,n,v⟩:=a;obtain⟨i,y⟩:=q;obtain⟨r,k⟩:=hp 0 _ _ rfl rfl;simp only at r k;simp only[iS] at he;split at he
  ·rename_i l
   obtain⟨l,c⟩:=l
   cases hput:putAt cs b v.cells with
   |none=>simp [hput] at he
   |some cs'=>
    simp only[hput] at he;have o:=VR.cells k c;have d:=gZ.length o;have g:=gZ.length hx;obtain⟨rfl,z⟩:=Fy hput;simp only[Array.length_toList] at d g;have s:=foldl_set b y.cells.toList 0 xs (by simp;omega);simp only[Nat.add_zero] at s
    have f:gZ m (cs.take b++v.cells++cs.drop (b+v.cells.length)) (((y.cells.toList.zipIdx 0).foldl (λcs (p:Value×Nat)=>cs.setIfInBounds (b+p.2) p.1) xs).toList):=by
     rw[s];have:b+v.cells.length=b+y.cells.toList.length:=by simp;omega
     rw[this];exact ((hx.take _).append o).append (hx.drop _)
    obtain⟨ys,F,B⟩:=yA ps qs _ us _ f (by simpa using hl) (λj a q u A=>hp (j+1) a q (by simpa using u) (by simpa using A)) he;refine⟨ys,?_,B⟩;simp only[Instr.fill,r];rw[bI]
    ·rw[←F]
     congr 1;rw[←Array.foldl_toList,Array.toList_zipIdx]
    ·simp;omega
  ·cases he
 | [],_::_,_,_,_,_,hl,_,_=>by simp at hl
 |_::_, [],_,_,_,_,hl,_,_=>by simp at hl
theorem kC (m:M){u:V}{i:TypeInfo}{z:Value}(h:lV P e=some u)(hi:P.info? e=some i)(d:i.zero=some z):gZ m u.cells z.cells.toList/\(∀c∈u.cells,c.one=true)/\VR m u z:=by
 unfold lV at h;simp only[hi,Option.bind_some,d,Option.filter_eq_some_iff] at h;have b:=Ju m h.1;have a:=Ks h.1 (λe=>by rw[e] at h;simp [acT] at h);exact⟨b.cells (Kv.2 a),a,b⟩
theorem uZ {zero:List V}{z:Array Value}(p:gZ m zero z.toList)(d:0<zero.length)(n:Nat):
  gZ m (cX zero n) ((Array.range n).map (z[· %z.size]!)).toList:=by
 have k:=gZ.length p
 simp only[Array.length_toList] at k
 refine gZ.mQ (by simp [cX]) (λi v r=>?_)
 simp only[cX,Ol,mJ] at r
 obtain⟨j,s,rfl⟩:=r
 have g:i<n/\j=i:=by
  obtain⟨q,l⟩:=Ax.1 s;simp at q l;exact⟨q,l.symm⟩
 obtain⟨hi,rfl⟩:=g
 have a:j%zero.length<zero.length:=Nat.mod_lt _ d
 obtain⟨x,o,f⟩:=p.get (i:=j%zero.length) (dD a)
 refine⟨z[j%z.size]!,by simp [hi],?_⟩
 have:zero.getD (j%zero.length) V.undef=zero[j%zero.length]:=by simp [List.getD,a]
 rw[this]
 have c:j%z.size<z.size:=by rw[←k];exact a
 have:z[j%z.size]! =x:=by
  rw[getElem!_pos z _ c];have b:z[j%z.size]? =some x:=by rw[k] at o;simpa using o
  rw[AS] at b;exact b.2
 rw[this];exact f
theorem Ed {zero:List V}(h: ∀c∈zero,c.one=true)(b:0<zero.length)(n:Nat): ∀c∈cX zero n,c.one=true:=by
 intro c d;simp only[cX,uF] at d;obtain⟨i,_,rfl⟩:=d;have a:i%zero.length<zero.length:=Nat.mod_lt _ b;have:zero.getD (i%zero.length) V.undef=zero[i%zero.length]:=by simp [List.getD,a]
 rw[this];exact h _ (zG a)
theorem MS (O:HR P m h w)(U:gK m h.next){bytes:Nat}(K:P.underlying t=some (.slice e))(J:iV P e=some sz)(W:zW P e=some bytes)
  (N:lV P e=some zu) (v:AP P e sz=true) (Y:sz≠0) {l c r:V}  {h':H} (G:VR m l x) (L:VR m c y) (d:Jo h sz bytes zu.cells l c=some (r,h')):
  aT P m h w (Instr.makeSlice t x y) r h':=by
 obtain⟨i,hi,q,p⟩:=Zz J W
 obtain⟨Z,z,k,f,s⟩:=Gn v
 rw[hi] at k;cases k
 subst q
 subst p
 obtain⟨g,u,_⟩:=kC m N hi f
 have R:zu.cells.length=i.size:=by rw[gZ.length g];simpa using s
 cases l<;>simp only[Jo] at d<;>try cases d
 cases c<;>simp only at d<;>try cases d
 rename_i A l B c
 split at d
 ·rename_i F
  cases d
  obtain rfl:x= .int A l:=G
  obtain rfl:y= .int B c:=L
  have a:(i.bytes:Int)*c<=281474976710656:=by rw[Int.mul_comm];omega
  have o:=run_make w t e i z K hi f A B l c F.1 F.2.1 a om
  have Q:=uZ g om (c.toNat*i.size)
  have b:=wQ O U [] Q (Ed u om _) e
  simp only[vF,Array.toArray_toList] at b
  refine⟨_,_,_,o,⟨_,_,0,M.jR ..,rfl,om,λ_=>rfl,rfl,rfl⟩,b⟩
 ·cases d
theorem KP (Q:HR P m h w)(hf:gK m h.next){n:Nat}(G:P.underlying t=some (.slice e))(r:iV P e=some sz)
  (O:lV P e=some zu) (u:AP P e sz=true) (a0:sz≠0) (c: ¬n*sz>2^24) {ps:List (Nat×Nat×V)} {g:Array (Nat×Value)} {us:List V} (W:ps.length=g.size)
  (N: ∀(j:Nat) (a:Nat×Nat×V) (q:Nat×Value),ps[j]? =some a->g.toList[j]? =some q->some (q.1*sz,sz)=some (a.1,a.2.1)/\VR m a.2.2 q.2)
  (K:iS (cX zu.cells (n*sz)) ps=some us) (R: ∀v∈us,v.one=true):
  aT P m h w (Instr.buildSlice t n g) (.sl h.next 0 n (.kn n)) (h.new (.cells false us)):=by
 obtain⟨J,z,d,k,s⟩:=Gn u
 have b:J.size=sz:=by unfold iV at r;rw[d] at r;simpa using r
 obtain⟨l,Z,_⟩:=kC m O d k
 have L:zu.cells.length=sz:=by rw[gZ.length l];simpa using s
 have Y:=uZ l om (n*sz)
 obtain⟨F,B,U⟩:=yA (place:=λi=>some (i*sz,sz)) ps g.toList _ us _ Y (by simpa using W) N K
 have f:=wQ Q hf [] U R e
 simp only[vF,Array.toArray_toList] at f
 have o:(Instr.buildSlice t n g).run P w= .ok (.slice (some ⟨w.heap.size,0,none⟩) n n) (w.alloc (.cells F e)):=by
  by_cases A:n*sz=0
  ·rw[A,show ((Array.range 0).map (z.cells[· %z.cells.size]!))=(#[]:Array Value) from by simp] at B
   have p:(Array.range 0).map (λ(_:Nat)=>(default:Value))= #[]:=by simp
   simp [Instr.buildSlice,run_underlying G,sizeOf,typeInfo,d,b,A,newRow,p,B]
  ·exact run_buildSlice w t e n g F J z G d k (by rw[b];exact c) (by rw[b];exact A) (by rw[b];exact B)
 exact⟨_,_,_,o,⟨_,_,0,M.jR ..,rfl,fM _,λ_=>rfl,rfl,rfl⟩,f⟩
theorem Zx {a:Array Field}{ps:List (Nat×Nat)}(h:Az P a=some ps):a.toList.mapM (λf=>(P.info? f.type).map λi=>(f.offset,i.size))=some ps:=h
theorem JG (hr:HR P m h w)(hf:gK m h.next)(K:lV P t=some zu){c:List (Nat×X)}{ps:List (Nat×Nat×X)}(d:CB P t c=some ps)
  {ρ:X->V} {f:Array (Nat×Value)} (hl:c.length=f.size) (hq: ∀(j:Nat) (a:Nat×X) (q:Nat×Value),c[j]? =some a->f.toList[j]? =some q->q.1=a.1/\VR m (ρ a.2) q.2)
  {us:List V} (Y:iS zu.cells (ps.map λp=>(p.1,p.2.1,ρ p.2.2))=some us):
  aT P m h w (Instr.build t f) (.agg us) h:=by
 unfold CB at d
 have k: ∃i z,P.info? t=some i/\i.zero=some z:=by
  unfold lV at K
  cases hi:P.info? t with
  |none=>simp [hi] at K
  |some i=>
   cases hzz:i.zero with
   |none=>simp [hi,hzz] at K
   |some z=>exact⟨i,z,rfl,hzz⟩
 obtain⟨i,z,hi,l⟩:=k
 obtain⟨F,_,_⟩:=kC m K hi l
 split at d
 ·rename_i fs g
  cases hfp:Az P fs with
  |none=>simp [hfp] at d
  |some pls=>
   simp only[hfp] at d;obtain⟨a1,a2⟩:=jD d
   obtain⟨o,W,R⟩:=yA (place:=(pls.toArray[·]?)) (ps.map λp=>(p.1,p.2.1,ρ p.2.2)) f.toList zu.cells us z.cells F (by simp [a1];omega) (λj a q A u=>by
    simp only[Ol,mJ] at A;obtain⟨p,G,rfl⟩:=A;have Z:j<c.length:=by have:=(Ax.1 G).1;omega
    obtain⟨b,v,B⟩:=a2 j c[j] (dD Z);rw[G] at v;cases v;obtain⟨U,N⟩:=hq j _ q (dD Z) u;simp only[mJ] at B;obtain⟨r,Q,rfl⟩:=B
    exact⟨by simp only[List.getElem?_toArray,U];rw[Q],N⟩) Y
   have v:P.built t f.toList=some o:=by
    unfold Program.built;simp only[hi,g,l,Zx hfp];exact W
   exact aT.still hr hf (run_build w t f o v) ⟨o,rfl,R⟩
 ·rename_i n e g
  simp only[mJ] at d
  obtain⟨s,L,rfl⟩:=d
  unfold iV at L
  simp only[mJ] at L
  obtain⟨J,O,rfl⟩:=L
  obtain⟨o,W,R⟩:=yA (place:=λj=>some (j*J.size,J.size)) ((c.map λp=>(p.1*J.size,J.size,p.2)).map λp=>(p.1,p.2.1,ρ p.2.2)) f.toList zu.cells us z.cells F (by simp;omega) (λj a q A u=>by
   simp only[List.map_map,Ol,mJ] at A;obtain⟨p,G,rfl⟩:=A;obtain⟨U,N⟩:=hq j _ q G u
   exact⟨by simp [U],N⟩) Y
  have v:P.built t f.toList=some o:=by
   unfold Program.built;simp only[hi,g,l,O];exact W
  exact aT.still hr hf (run_build w t f o v) ⟨o,rfl,R⟩
 ·cases d
theorem JP (K:HR P m h w)(hf:gK m h.next){u:TypeId}(F:P.underlying t=some (.slice e))(hs:iV P e=some sz)
  {v1 v2 r:V}  {h':H} (Y:VR m v1 x) (Z:VR m v2 y) (f:ZO h sz v1 v2=some (r,h')) (ty:TypeId):
  aT P m h w (Builtin.copy_ #[t,u] ty #[x,y]) r h':=by
 have l:=fN (w:=w) hs
 unfold ZO at f
 split at f
 ·rename_i n k O L
  have o: ∀a b:Nat,Nat.min a b=min a b:=λ_ _=>rfl
  simp only at f
  split at f
  ·rename_i id R l1 c1 A v l2 c2
   simp only[sW] at O L
   cases O;cases L
   obtain⟨p,c,o1,hp,rfl,_,N,_⟩:=Y
   obtain⟨p',c',o2,W,rfl,_,U,_⟩:=Z
   cases hrow:h.row A v (min k n*sz) with
   |none=>simp [hrow] at f
   |some ys=>
    simp only[hrow] at f
    cases hput:h.put id R ys with
    |none=>simp [hput] at f
    |some h2=>
     simp only[hput] at f;cases f;obtain⟨q,cc,a0,fr,hq,hb,_,G,B,h1⟩:=Cn K hrow;rw[W] at hq;cases hq;obtain⟨Q,iP,i⟩:=Bx K hf hput B h1 hp;have hl:=lE (P:=P) hb G
     by_cases a1:0<min k n
     ·obtain rfl:=N om
      obtain rfl:=U om;refine⟨_,Q,m,?_,(rfl:VR m (.int .i64 ((min k n:Nat):Int)) _),i⟩;simp [Builtin.copy_,run_underlying F,Builtin.lenOf,l,Builtin.firstCells,o,hl,iP,goInt]
     ·have g:min k n=0:=om
      have s:Nat.min k n=0:=g
      have hw:Q=w:=by
       rw[g] at iP;simp [storeCells] at iP;exact iP.symm
      subst hw;refine⟨_,Q,m,?_,(rfl:VR m (.int .i64 ((min k n:Nat):Int)) _),i⟩;rw[g];simp [Builtin.copy_,run_underlying F,Builtin.lenOf,l,s,Builtin.firstCells,loadCells,loadCellsFrom,storeCells,goInt]
  ·split at f
   ·rename_i z
    cases f
    obtain⟨a,c,rfl⟩:=tW Y O
    obtain⟨b,d,rfl⟩:=tW Z L
    refine aT.still K hf (x:=goInt 0) ?_ rfl
    have g:Nat.min k n=0:=z
    have J:(Builtin.firstCells sz 0 (.slice b k d)).run P w= .ok #[] w:=by
     cases b<;>simp [Builtin.firstCells,loadCells,loadCellsFrom]
    cases a<;>simp [Builtin.copy_,run_underlying F,Builtin.lenOf,l,g,J,storeCells]
   ·cases f
 ·cases f
def Mv (m:M)(es:List (V×V))(es':List MapEntry):Prop:=
 es.length=es'.length/\ ∀(i:Nat) (k v:V),es[i]? =some (k,v)-> ∃e:MapEntry,es'[i]? =some e/\VR m k e.key/\VR m v e.val
theorem Rs {k v:V}{e:MapEntry}{b:List MapEntry}(h:Mv m ((k,v)::es) (e::b)):VR m k e.key/\VR m v e.val/\Mv m es b:=by
 obtain⟨d,c⟩:=h;obtain⟨l,a,g,f⟩:=c 0 k v rfl;simp at a;subst a;exact⟨g,f,by simpa using d,λi k v hi=>by simpa using c (i+1) k v (by simpa using hi)⟩
theorem Mt {kk:IntKind}{n:Int}: ∀{es:List (V×V)} {es':List MapEntry} (i:Nat),Mv m es es'->tQ kk es=true-> ∀j,
  (match zQ kk n es with
   |some v=> ∃l x,Instr.findNow (.int j) (.int kk n) es' i=some (some (i+l,x))/\VR m v x/\l<es.length
   |none=>Instr.findNow (.int j) (.int kk n) es' i=some none)
 | [],es',i,h,_,j=>by
  obtain⟨f,_⟩:=h
  cases es' with
  |nil=>simp [zQ,Instr.findNow]
  |cons _ _=>simp at f
 |(k,v)::es,es',i,h,c,j=>by
  cases es' with
  |nil=>simp [Mv] at h
  |cons e es'=>
   obtain⟨g,r,b⟩:=Rs h
   cases k with
   |int k' n'=>
    simp only[tQ,vN,beq_iff_eq] at c;obtain⟨rfl,c⟩:=c;have a:e.key= .int k' n':=g;simp only[zQ,if_true]
    by_cases o:n=n'
    ·subst o
     rw[bF rfl];exact⟨0,e.val,by simp [Instr.findNow,Instr.sameNow,a],r,by simp⟩
    ·rw[bI o]
     have d:=Mt (n:=n) (i+1) b c j
     have q:Instr.findNow (.int j) (.int k' n) (e::es') i=Instr.findNow (.int j) (.int k' n) es' (i+1):=by
      simp [Instr.findNow,Instr.sameNow,a,show (n==n')=false from by simpa using o]
     rw[q]
     cases hf:zQ k' n es with
     |none=>simpa [hf] using d
     |some u=>
      simp only[hf] at d ⊢;obtain⟨l,x,f,p,s⟩:=d;exact⟨l+1,x,by rw[f];congr 3;omega,p,by simp;omega⟩
   |_=>simp [tQ] at c
theorem Gr (a:P.underlying kt=some (.int j))(b:Bool)(n:Nat)(x:Value):(Instr.checkKey b (n+1) kt x).run P w= .ok () w:=by
 simp [Instr.checkKey,run_underlying a]
theorem JE (s:HR P m h w)(K:gK m h.next){L:TypeId}(G:P.underlying t=some (.map kt L))(u:P.underlying kt=some (.int j))(J:lV P L=some zu)
  {id:Nat}     (R:VR m (.mp id) x) (Y:VR m (.int kk n) y) (U:h.get id=some (.map es)) (d:tQ kk es=true) (ok:Bool):
  aT P m h w (Instr.lookup t x y ok) (match zQ kk n es with|some v=>(if ok then .tup [v,.bool true] else v)|none=>(if ok then .tup [zu,.bool false] else zu)) h:=by
 obtain⟨p,W,rfl⟩:=R
 obtain rfl:y= .int kk n:=Y
 obtain⟨p',F,q,o,Z,B,N⟩:=s.live id _ U
 rw[W] at F;cases F
 have r:Mv m es q.toList:=⟨by simpa using B,λi k v hi=>by simpa using N i k v hi⟩
 have a:=Mt (n:=n) 0 r d j
 have b:(getObj p.1).run P w= .ok (.map q o) w:=by simp [getObj,Sem.run,Z]
 have c:=Gr (w:=w) u q.isEmpty 9999 (.int kk n)
 have f: ∃i z,P.info? L=some i/\i.zero=some z:=by
  unfold lV at J
  cases hi:P.info? L with
  |none=>simp [hi] at J
  |some i=>
   cases hzz:i.zero with
   |none=>simp [hi,hzz] at J
   |some z=>exact⟨i,z,rfl,hzz⟩
 obtain⟨i,z,hi,g⟩:=f
 obtain⟨_,_,A⟩:=kC m J hi g
 cases hf2:zQ kk n es with
 |some v=>
  simp only[hf2] at a;obtain⟨l,x,O,Q,_⟩:=a;simp only[Nat.zero_add] at O
  cases ok with
  |true=>
   refine aT.still s K (x:= .tuple #[x,.bool true]) ?_ ⟨_,rfl,Q,rfl,trivial⟩;simp [Instr.lookup,run_underlying G,b,c,Instr.findKey,run_underlying u,O]
  |false=>
   refine aT.still s K (x:=x) ?_ Q;simp [Instr.lookup,run_underlying G,b,c,Instr.findKey,run_underlying u,O]
 |none=>
  simp only[hf2] at a
  cases ok with
  |true=>
   refine aT.still s K (x:= .tuple #[z,.bool false]) ?_ ⟨_,rfl,A,rfl,trivial⟩;simp [Instr.lookup,run_underlying G,b,c,Instr.findKey,run_underlying u,a,zeroValue,typeInfo,hi,g]
  |false=>
   refine aT.still s K (x:=z) ?_ A;simp [Instr.lookup,run_underlying G,b,c,Instr.findKey,run_underlying u,a,zeroValue,typeInfo,hi,g]
theorem Tc {kk:IntKind}{n:Int}{y:V}{p:Value}(s:VR m y p): ∀{es:List (V×V)} {es':List MapEntry} (i:Nat),Mv m es es'->tQ kk es=true-> ∀(j:IntKind) (born:Nat),
  (∃l x,Instr.findNow (.int j) (.int kk n) es' i=some (some (i+l,x))/\(∃e,es'[l]? =some e/\e.key= .int kk n)/\Mv m (Ih kk n y es) (es'.modify l λe=>{e with key:= .int kk n,val:=p}))∨
  (Instr.findNow (.int j) (.int kk n) es' i=some none/\Mv m (Ih kk n y es) (es'++ [{key:= .int kk n,val:=p,born:=born}]))
 | [],es',i,h,_,j,born=>by
  obtain⟨g,_⟩:=h
  cases es' with
  |nil=>
   refine .inr ⟨by simp [Instr.findNow],by simp [Ih],λq k v a=>?_⟩
   cases q with
   |zero=>simp [Ih] at a;obtain⟨rfl,rfl⟩:=a;exact⟨_,rfl,rfl,s⟩
   |succ q=>simp [Ih] at a
  |cons _ _=>simp at g
 |(k,v)::es,es',i,h,o,j,born=>by
  cases es' with
  |nil=>simp [Mv] at h
  |cons e es'=>
   obtain⟨d,u,b⟩:=Rs h
   cases k with
   |int k' n'=>
    simp only[tQ,vN,beq_iff_eq] at o;obtain⟨rfl,o⟩:=o;have c:e.key= .int k' n':=d;simp only[Ih]
    by_cases r:n=n'
    ·subst r
     rw[bF rfl];refine .inl ⟨0,e.val,by simp [Instr.findNow,Instr.sameNow,c],⟨e,rfl,c⟩,by simp [b.1],λq k v a=>?_⟩
     cases q with
     |zero=>simp at a;obtain⟨rfl,rfl⟩:=a;exact⟨_,rfl,rfl,s⟩
     |succ q=>simpa using b.2 q k v (by simpa using a)
    ·rw[bI r]
     have B:Instr.findNow (.int j) (.int k' n) (e::es') i=Instr.findNow (.int j) (.int k' n) es' (i+1):=by
      simp [Instr.findNow,Instr.sameNow,c,show (n==n')=false from by simpa using r]
     rw[B];rcases Tc (n:=n) s (i+1) b o j born with ⟨l,x,g,⟨F,A,z⟩,f⟩|⟨g,f⟩
     ·refine .inl ⟨l+1,x,by rw[g];congr 3;omega,⟨F,by simpa using A,z⟩,by simpa using f.1,λq k v a=>?_⟩
      cases q with
      |zero=>simp at a;obtain⟨rfl,rfl⟩:=a;exact⟨e,rfl,d,u⟩
      |succ q=>simpa using f.2 q k v (by simpa using a)
     ·refine .inr ⟨g,by simpa using f.1,λq k v a=>?_⟩
      cases q with
      |zero=>simp at a;obtain⟨rfl,rfl⟩:=a;exact⟨e,rfl,d,u⟩
      |succ q=>simpa using f.2 q k v (by simpa using a)
   |_=>simp [tQ] at o
theorem BS (hr:HR P m h w)(hf:gK m h.next){et:TypeId}(Z:P.underlying t=some (.map kt et))(O:P.underlying kt=some (.int j))
  {id:Nat}    {v:V} {z:Value} (hx:VR m (.mp id) x) (hy:VR m (.int kk n) y) (hz:VR m v z) (W:h.get id=some (.map es)) (r:tQ kk es=true):
  ∃w',(Instr.mapUpdate t x y z).run P w= .ok () w'/\iO P m h w m (h.set id (some (.map (Ih kk n v es)))) w':=by
 obtain⟨p,Y,rfl⟩:=hx
 obtain rfl:y= .int kk n:=hy
 obtain⟨p',K,d,a,J,F,U⟩:=hr.live id _ W
 rw[Y] at K;cases K
 have A:Mv m es d.toList:=⟨by simpa using F,λi k v hi=>by simpa using U i k v hi⟩
 have q:(getObj p.1).run P w= .ok (.map d a) w:=by simp [getObj,Sem.run,J]
 have G:=Gr (w:=w) O false 9999 (.int kk n)
 have g: ∀o,(setObj p.1 o).run P w= .ok () (w.putObj p.1 o):=λo=>by simp [setObj,Sem.run,J,World.putObj]
 have R:p.1<w.heap.size:=(AS.1 J).1
 have u: ∀f c,Mv m (Ih kk n v es) (Array.toList f)->iO P m h w m (h.set id (some (.map (Ih kk n v es)))) (w.putObj p.1 (.map f c)):=λf c B=>
  iO.put hr hf W rfl rfl Y ⟨f,c,World.putObj_heap_same R,by simpa using B.1,λi k v hi=>by simpa using B.2 i k v hi⟩ rfl rfl rfl (by simp) (λb J=>World.putObj_heap_other J)
 rcases Tc (n:=n) hz 0 A r j a with ⟨l,x,L,⟨e,h2,h3⟩,N⟩|⟨L,N⟩
 ·simp only[Nat.zero_add] at L
  refine⟨_,?_,u (d.modify l λe=>{e with key:= .int kk n,val:=z}) a (by simpa using N)⟩
  have Q:d[l]? =some e:=by simpa using h2
  have s:(Option.map MapEntry.key d[l]?).getD (.int kk n)= .int kk n:=by rw[Q];exact h3
  have iP:(Instr.keyThatStays (.int kk n) (.int kk n)).run P w= .ok (.int kk n) w:=by
   simp [Instr.keyThatStays,Instr.sameBits]
  simp only[Instr.mapUpdate,Sem.run_bind,run_underlying Z,Result.andThen_ok,q,G,Instr.findKey,run_underlying O,L,Sem.run_pure,s,iP,g]
 ·refine⟨_,?_,u (d.push {key:= .int kk n,val:=z,born:=a}) (a+1) (by simpa using N)⟩
  simp only[Instr.mapUpdate,Sem.run_bind,run_underlying Z,Result.andThen_ok,q,G,Instr.findKey,run_underlying O,L,Sem.run_pure,g]
end
end
end Go.Ay
