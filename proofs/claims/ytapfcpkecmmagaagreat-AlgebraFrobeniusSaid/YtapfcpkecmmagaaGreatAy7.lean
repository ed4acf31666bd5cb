/- make, literals, copy, maps. -/
import Derived.Test.YtapfcpkecmmagaaGreatAy6
import Derived.Laws.MakeOwn
import Derived.Great.BuildSlice
namespace Go.Ay
open Go
section
variable {e t kt:TypeId} {sz:Nat} {zu:V} {x y:Value} {es:List (V×V)} {kk j:IntKind} {n:Int}
section
variable {P:Program} {m:M} {h:H} {w:World}
theorem M.fS (m:M)(id:Nat)(p:Nat×Nat×Nat):(m.set id p) id=some p:=by simp [M.set]
theorem foldl_set (off:Nat): ∀(xs:List Value) (k:Nat) (cells:Array Value),off+k+xs.length<=cells.size->
  ((xs.zipIdx k).foldl (λcs (p:Value×Nat)=>cs.setIfInBounds (off+p.2) p.1) cells).toList=cells.toList.take (off+k)++xs++cells.toList.drop (off+k+xs.length)
 | [],k,cells,_=>by simp
 |x::xs,k,cells,h=>by
  simp only[List.zipIdx_cons,List.foldl_cons,List.length_cons] at h ⊢;rw[foldl_set off xs (k+1) _ (by simp;omega)];have:=list_seg_step cells.toList (off+k) x xs (by simp;omega);simp only[Array.toList_setIfInBounds];rw[show off+(k+1)=off+k+1 from by omega];rw[this]
theorem nZ {place:Nat->Option (Nat×Nat)}: ∀(ps:List (Nat×Nat×V)) (qs:List (Nat×Value)) (cs us:List V) (xs:Array Value),eG m cs xs.toList->
  ps.length=qs.length->(∀(i:Nat) (a:Nat×Nat×V) (q:Nat×Value),ps[i]? =some a->qs[i]? =some q->place q.1=some (a.1,a.2.1)/\VR m a.2.2 q.2)->fU cs ps=some us->
  ∃ys,Instr.fill place xs qs=some ys/\eG m us ys.toList
 | [], [],cs,us,xs,hx,_,_,he=>by simp only[fU] at he;cases he;exact⟨xs,rfl,hx⟩
 |a::ps,q::qs,cs,us,xs,hx,hl,hp,he=>by
  obtain⟨off,n,v⟩:=a;obtain⟨i,y⟩:=q;obtain⟨h1,h2⟩:=hp 0 _ _ rfl rfl;simp only at h1 h2;simp only[fU] at he;split at he
  ·rename_i hn
   obtain⟨hn,hone⟩:=hn
   cases hput:putAt cs off v.cells with
   |none=>simp [hput] at he
   |some cs'=>
    simp only[hput] at he;have hc:=VR.cells h2 hone;have hcl:=eG.length hc;have hxl:=eG.length hx;obtain⟨rfl,hle⟩:=rN hput;simp only[Array.length_toList] at hcl hxl;have hf:=foldl_set off y.cells.toList 0 xs (by simp;omega);simp only[Nat.add_zero] at hf
    have hx':eG m (cs.take off++v.cells++cs.drop (off+v.cells.length)) (((y.cells.toList.zipIdx 0).foldl (λcs (p:Value×Nat)=>cs.setIfInBounds (off+p.2) p.1) xs).toList):=by
     rw[hf];have:off+v.cells.length=off+y.cells.toList.length:=by simp;omega
     rw[this];exact ((hx.take _).append hc).append (hx.drop _)
    obtain⟨ys,e1,e2⟩:=nZ ps qs _ us _ hx' (by simpa using hl) (λj a q ha hq=>hp (j+1) a q (by simpa using ha) (by simpa using hq)) he;refine⟨ys,?_,e2⟩;simp only[Instr.fill,h1];rw[if_neg]
    ·rw[←e1]
     congr 1;rw[←Array.foldl_toList,Array.toList_zipIdx]
    ·simp;omega
  ·cases he
 | [],_::_,_,_,_,_,hl,_,_=>by simp at hl
 |_::_, [],_,_,_,_,hl,_,_=>by simp at hl
theorem fV (m:M){u:V}{i:TypeInfo}{z:Value}(h:gT P e=some u)(hi:P.info? e=some i)(hz:i.zero=some z):eG m u.cells z.cells.toList/\(∀c∈u.cells,c.one=true)/\VR m u z:=by
 unfold gT at h;simp only[hi,Option.bind_some,hz,Option.filter_eq_some_iff] at h;have hv:=uC m h.1;have h1:=uG h.1 (λe=>by rw[e] at h;simp [Ui] at h);exact⟨hv.cells (List.all_eq_true.2 h1),h1,hv⟩
theorem mG {zero:List V}{z:Array Value}(hz:eG m zero z.toList)(hpos:0<zero.length)(n:Nat):
  eG m (dG zero n) ((Array.range n).map (z[· %z.size]!)).toList:=by
 have hl:=eG.length hz
 simp only[Array.length_toList] at hl
 refine eG.iS (by simp [dG]) (λi v hv=>?_)
 simp only[dG,List.getElem?_map,gJ] at hv
 obtain⟨j,hj,rfl⟩:=hv
 have hjn:i<n/\j=i:=by
  obtain⟨h1,h2⟩:=List.getElem?_eq_some_iff.1 hj;simp at h1 h2;exact⟨h1,h2.symm⟩
 obtain⟨hi,rfl⟩:=hjn
 have hlt:j%zero.length<zero.length:=Nat.mod_lt _ hpos
 obtain⟨x,hx,hvx⟩:=hz.get (i:=j%zero.length) (eQ hlt)
 refine⟨z[j%z.size]!,by simp [hi],?_⟩
 have:zero.getD (j%zero.length) V.undef=zero[j%zero.length]:=by simp [List.getD,hlt]
 rw[this]
 have hlt2:j%z.size<z.size:=by rw[←hl];exact hlt
 have:z[j%z.size]! =x:=by
  rw[getElem!_pos z _ hlt2];have hx2:z[j%z.size]? =some x:=by rw[hl] at hx;simpa using hx
  rw[Array.getElem?_eq_some_iff] at hx2;exact hx2.2
 rw[this];exact hvx
theorem qV {zero:List V}(h: ∀c∈zero,c.one=true)(hpos:0<zero.length)(n:Nat): ∀c∈dG zero n,c.one=true:=by
 intro c hc;simp only[dG,jH] at hc;obtain⟨i,_,rfl⟩:=hc;have hlt:i%zero.length<zero.length:=Nat.mod_lt _ hpos;have:zero.getD (i%zero.length) V.undef=zero[i%zero.length]:=by simp [List.getD,hlt]
 rw[this];exact h _ (List.getElem_mem hlt)
theorem Kc (hr:HR P m h w)(hf:eD m h.next){bytes:Nat}(ht:P.underlying t=some (.slice e))(hs:eU P e=some sz)(hb:pN P e=some bytes)
  (hz:gT P e=some zu) (hzs:Dt P e sz=true) (hsz:sz≠0) {l c r:V}  {h':H} (hx:VR m l x) (hy:VR m c y) (he:tF h sz bytes zu.cells l c=some (r,h')):
  aS P m h w (Instr.makeSlice t x y) r h':=by
 obtain⟨i,hi,his,hib⟩:=Bt hs hb
 obtain⟨i',z,hi',hz1,hz2⟩:=rM hzs
 rw[hi] at hi';cases hi'
 subst his
 subst hib
 obtain⟨hzc,hzo,_⟩:=fV m hz hi hz1
 have hzl:zu.cells.length=i.size:=by rw[eG.length hzc];simpa using hz2
 cases l<;>simp only[tF] at he<;>try cases he
 cases c<;>simp only at he<;>try cases he
 rename_i kl l kc c
 split at he
 ·rename_i hc
  cases he
  obtain rfl:x= .int kl l:=hx
  obtain rfl:y= .int kc c:=hy
  have hbytes:(i.bytes:Int)*c<=281474976710656:=by rw[Int.mul_comm];omega
  have hrun:=run_make w t e i z ht hi hz1 kl kc l c hc.1 hc.2.1 hbytes (by omega)
  have hv:=mG hzc (by omega) (c.toNat*i.size)
  have hadv:=mT hr hf [] hv (qV hzo (by omega) _) e
  simp only[List.append_nil,Array.toArray_toList] at hadv
  refine⟨_,_,_,hrun,⟨_,_,0,M.fS ..,rfl,by omega,λ_=>rfl,rfl,rfl⟩,hadv⟩
 ·cases he
theorem Ka (hr:HR P m h w)(hf:eD m h.next){n:Nat}(ht:P.underlying t=some (.slice e))(hs:eU P e=some sz)
  (hz:gT P e=some zu) (hzs:Dt P e sz=true) (hsz:sz≠0) (hsmall: ¬n*sz>2^24) {ps:List (Nat×Nat×V)} {qs:Array (Nat×Value)} {us:List V} (hl:ps.length=qs.size)
  (hp: ∀(j:Nat) (a:Nat×Nat×V) (q:Nat×Value),ps[j]? =some a->qs.toList[j]? =some q->some (q.1*sz,sz)=some (a.1,a.2.1)/\VR m a.2.2 q.2)
  (he:fU (dG zu.cells (n*sz)) ps=some us) (h1: ∀v∈us,v.one=true):
  aS P m h w (Instr.buildSlice t n qs) (.sl h.next 0 n (.kn n)) (h.new (.cells false us)):=by
 obtain⟨i',z,hi',hz1,hz2⟩:=rM hzs
 have his:i'.size=sz:=by unfold eU at hs;rw[hi'] at hs;simpa using hs
 obtain⟨hzc,hzo,_⟩:=fV m hz hi' hz1
 have hzl:zu.cells.length=sz:=by rw[eG.length hzc];simpa using hz2
 have hv:=mG hzc (by omega) (n*sz)
 obtain⟨ys,e1,e2⟩:=nZ (place:=λi=>some (i*sz,sz)) ps qs.toList _ us _ hv (by simpa using hl) hp he
 have hadv:=mT hr hf [] e2 h1 e
 simp only[List.append_nil,Array.toArray_toList] at hadv
 have hrun:(Instr.buildSlice t n qs).run P w= .ok (.slice (some ⟨w.heap.size,0,none⟩) n n) (w.alloc (.cells ys e)):=by
  by_cases h0:n*sz=0
  ·rw[h0,show ((Array.range 0).map (z.cells[· %z.cells.size]!))=(#[]:Array Value) from by simp] at e1
   have hr0:(Array.range 0).map (λ(_:Nat)=>(default:Value))= #[]:=by simp
   simp [Instr.buildSlice,run_underlying ht,sizeOf,typeInfo,hi',his,h0,newRow,hr0,e1]
  ·exact run_buildSlice w t e n qs ys i' z ht hi' hz1 (by rw[his];exact hsmall) (by rw[his];exact h0) (by rw[his];exact e1)
 exact⟨_,_,_,hrun,⟨_,_,0,M.fS ..,rfl,eP _,λ_=>rfl,rfl,rfl⟩,hadv⟩
theorem Dh {fs:Array Field}{ps:List (Nat×Nat)}(h:oY P fs=some ps):fs.toList.mapM (λf=>(P.info? f.type).map λi=>(f.offset,i.size))=some ps:=h
theorem Jh (hr:HR P m h w)(hf:eD m h.next)(hz:gT P t=some zu){parts:List (Nat×X)}{ps:List (Nat×Nat×X)}(hpl:Ga P t parts=some ps)
  {ρ:X->V} {qs:Array (Nat×Value)} (hl:parts.length=qs.size) (hq: ∀(j:Nat) (a:Nat×X) (q:Nat×Value),parts[j]? =some a->qs.toList[j]? =some q->q.1=a.1/\VR m (ρ a.2) q.2)
  {us:List V} (he:fU zu.cells (ps.map λp=>(p.1,p.2.1,ρ p.2.2))=some us):
  aS P m h w (Instr.build t qs) (.agg us) h:=by
 unfold Ga at hpl
 have hinfo: ∃i z,P.info? t=some i/\i.zero=some z:=by
  unfold gT at hz
  cases hi:P.info? t with
  |none=>simp [hi] at hz
  |some i=>
   cases hzz:i.zero with
   |none=>simp [hi,hzz] at hz
   |some z=>exact⟨i,z,rfl,hzz⟩
 obtain⟨i,z,hi,hz1⟩:=hinfo
 obtain⟨hzc,_,_⟩:=fV m hz hi hz1
 split at hpl
 ·rename_i fs hfs
  cases hfp:oY P fs with
  |none=>simp [hfp] at hpl
  |some pls=>
   simp only[hfp] at hpl;obtain⟨a1,a2⟩:=fE hpl
   obtain⟨ys,e1,e2⟩:=nZ (place:=(pls.toArray[·]?)) (ps.map λp=>(p.1,p.2.1,ρ p.2.2)) qs.toList zu.cells us z.cells hzc (by simp [a1];omega) (λj a q ha hq'=>by
    simp only[List.getElem?_map,gJ] at ha;obtain⟨p,hp,rfl⟩:=ha;have hj:j<parts.length:=by have:=(List.getElem?_eq_some_iff.1 hp).1;omega
    obtain⟨b,hb,hf2⟩:=a2 j parts[j] (eQ hj);rw[hp] at hb;cases hb;obtain⟨c1,c2⟩:=hq j _ q (eQ hj) hq';simp only[gJ] at hf2;obtain⟨r,hr1,rfl⟩:=hf2
    exact⟨by simp only[List.getElem?_toArray,c1];rw[hr1],c2⟩) he
   have hb:P.built t qs.toList=some ys:=by
    unfold Program.built;simp only[hi,hfs,hz1,Dh hfp];exact e1
   exact aS.still hr hf (run_build w t qs ys hb) ⟨ys,rfl,e2⟩
 ·rename_i n e hfs
  simp only[gJ] at hpl
  obtain⟨s,hs,rfl⟩:=hpl
  unfold eU at hs
  simp only[gJ] at hs
  obtain⟨ie,hie,rfl⟩:=hs
  obtain⟨ys,e1,e2⟩:=nZ (place:=λj=>some (j*ie.size,ie.size)) ((parts.map λp=>(p.1*ie.size,ie.size,p.2)).map λp=>(p.1,p.2.1,ρ p.2.2)) qs.toList zu.cells us z.cells hzc (by simp;omega) (λj a q ha hq'=>by
   simp only[List.map_map,List.getElem?_map,gJ] at ha;obtain⟨p,hp,rfl⟩:=ha;obtain⟨c1,c2⟩:=hq j _ q hp hq'
   exact⟨by simp [c1],c2⟩) he
  have hb:P.built t qs.toList=some ys:=by
   unfold Program.built;simp only[hi,hfs,hz1,hie];exact e1
  exact aS.still hr hf (run_build w t qs ys hb) ⟨ys,rfl,e2⟩
 ·cases hpl
theorem Jt (hr:HR P m h w)(hf:eD m h.next){u:TypeId}(ht:P.underlying t=some (.slice e))(hs:eU P e=some sz)
  {v1 v2 r:V}  {h':H} (hx:VR m v1 x) (hy:VR m v2 y) (he:Jz h sz v1 v2=some (r,h')) (ty:TypeId):
  aS P m h w (Builtin.copy_ #[t,u] ty #[x,y]) r h':=by
 have hsz:=dR (w:=w) hs
 unfold Jz at he
 split at he
 ·rename_i n k hn hk
  have hmin: ∀a b:Nat,Nat.min a b=min a b:=λ_ _=>rfl
  simp only at he
  split at he
  ·rename_i id off l1 c1 id' off' l2 c2
   simp only[kM] at hn hk
   cases hn;cases hk
   obtain⟨p,c,o1,hp,rfl,_,ho1,_⟩:=hx
   obtain⟨p',c',o2,hp',rfl,_,ho2,_⟩:=hy
   cases hrow:h.row id' off' (min k n*sz) with
   |none=>simp [hrow] at he
   |some ys=>
    simp only[hrow] at he
    cases hput:h.put id off ys with
    |none=>simp [hput] at he
    |some h2=>
     simp only[hput] at he;cases he;obtain⟨q,cc,elem,fr,hq,hb,_,hle,hvr,h1⟩:=pZ hr hrow;rw[hp'] at hq;cases hq;obtain⟨w',fG,hadv⟩:=qB hr hf hput hvr h1 hp;have hl:=gG (P:=P) hb hle
     by_cases hmz:0<min k n
     ·obtain rfl:=ho1 (by omega)
      obtain rfl:=ho2 (by omega);refine⟨_,w',m,?_,(rfl:VR m (.int .i64 ((min k n:Nat):Int)) _),hadv⟩;simp [Builtin.copy_,run_underlying ht,Builtin.lenOf,hsz,Builtin.firstCells,hmin,hl,fG,goInt]
     ·have hm0:min k n=0:=by omega
      have hm0':Nat.min k n=0:=hm0
      have hw:w'=w:=by
       rw[hm0] at fG;simp [storeCells] at fG;exact fG.symm
      subst hw;refine⟨_,w',m,?_,(rfl:VR m (.int .i64 ((min k n:Nat):Int)) _),hadv⟩;rw[hm0];simp [Builtin.copy_,run_underlying ht,Builtin.lenOf,hsz,hm0',Builtin.firstCells,loadCells,loadCellsFrom,storeCells,goInt]
  ·split at he
   ·rename_i hk0
    cases he
    obtain⟨a,c,rfl⟩:=lI hx hn
    obtain⟨b,d,rfl⟩:=lI hy hk
    refine aS.still hr hf (x:=goInt 0) ?_ rfl
    have hm0:Nat.min k n=0:=hk0
    have hfc:(Builtin.firstCells sz 0 (.slice b k d)).run P w= .ok #[] w:=by
     cases b<;>simp [Builtin.firstCells,loadCells,loadCellsFrom]
    cases a<;>simp [Builtin.copy_,run_underlying ht,Builtin.lenOf,hsz,hm0,hfc,storeCells]
   ·cases he
 ·cases he
def wH (m:M)(es:List (V×V))(es':List MapEntry):Prop:=
 es.length=es'.length/\ ∀(i:Nat) (k v:V),es[i]? =some (k,v)-> ∃e:MapEntry,es'[i]? =some e/\VR m k e.key/\VR m v e.val
theorem yS {k v:V}{e:MapEntry}{es':List MapEntry}(h:wH m ((k,v)::es) (e::es')):VR m k e.key/\VR m v e.val/\wH m es es':=by
 obtain⟨h1,h2⟩:=h;obtain⟨e',he',hk,hv⟩:=h2 0 k v rfl;simp at he';subst he';exact⟨hk,hv,by simpa using h1,λi k v hi=>by simpa using h2 (i+1) k v (by simpa using hi)⟩
theorem vG {kk:IntKind}{n:Int}: ∀{es:List (V×V)} {es':List MapEntry} (i:Nat),wH m es es'->lD kk es=true-> ∀j,
  (match pL kk n es with
   |some v=> ∃l x,Instr.findNow (.int j) (.int kk n) es' i=some (some (i+l,x))/\VR m v x/\l<es.length
   |none=>Instr.findNow (.int j) (.int kk n) es' i=some none)
 | [],es',i,h,_,j=>by
  obtain⟨h1,_⟩:=h
  cases es' with
  |nil=>simp [pL,Instr.findNow]
  |cons _ _=>simp at h1
 |(k,v)::es,es',i,h,hk,j=>by
  cases es' with
  |nil=>simp [wH] at h
  |cons e es'=>
   obtain⟨hkk,hv,hrest⟩:=yS h
   cases k with
   |int k' n'=>
    simp only[lD,Bool.and_eq_true,beq_iff_eq] at hk;obtain⟨rfl,hk⟩:=hk;have hkey:e.key= .int k' n':=hkk;simp only[pL,if_true]
    by_cases hn:n=n'
    ·subst hn
     rw[if_pos rfl];exact⟨0,e.val,by simp [Instr.findNow,Instr.sameNow,hkey],hv,by simp⟩
    ·rw[if_neg hn]
     have ih:=vG (n:=n) (i+1) hrest hk j
     have hs:Instr.findNow (.int j) (.int k' n) (e::es') i=Instr.findNow (.int j) (.int k' n) es' (i+1):=by
      simp [Instr.findNow,Instr.sameNow,hkey,show (n==n')=false from by simpa using hn]
     rw[hs]
     cases hf:pL k' n es with
     |none=>simpa [hf] using ih
     |some u=>
      simp only[hf] at ih ⊢;obtain⟨l,x,h1,h2,h3⟩:=ih;exact⟨l+1,x,by rw[h1];congr 3;omega,h2,by simp;omega⟩
   |_=>simp [lD] at hk
theorem rS (hk:P.underlying kt=some (.int j))(b:Bool)(n:Nat)(x:Value):(Instr.checkKey b (n+1) kt x).run P w= .ok () w:=by
 simp [Instr.checkKey,run_underlying hk]
theorem Kt (hr:HR P m h w)(hf:eD m h.next){et:TypeId}(ht:P.underlying t=some (.map kt et))(hk:P.underlying kt=some (.int j))(hz:gT P et=some zu)
  {id:Nat}     (hx:VR m (.mp id) x) (hy:VR m (.int kk n) y) (hg:h.get id=some (.map es)) (hkeys:lD kk es=true) (ok:Bool):
  aS P m h w (Instr.lookup t x y ok) (match pL kk n es with|some v=>(if ok then .tup [v,.bool true] else v)|none=>(if ok then .tup [zu,.bool false] else zu)) h:=by
 obtain⟨p,hp,rfl⟩:=hx
 obtain rfl:y= .int kk n:=hy
 obtain⟨p',hp',es',clock,hb,hlen,hes⟩:=hr.live id _ hg
 rw[hp] at hp';cases hp'
 have hent:wH m es es'.toList:=⟨by simpa using hlen,λi k v hi=>by simpa using hes i k v hi⟩
 have hfind:=vG (n:=n) 0 hent hkeys j
 have hget:(getObj p.1).run P w= .ok (.map es' clock) w:=by simp [getObj,Sem.run,hb]
 have hck:=rS (w:=w) hk es'.isEmpty 9999 (.int kk n)
 have hinfo: ∃i z,P.info? et=some i/\i.zero=some z:=by
  unfold gT at hz
  cases hi:P.info? et with
  |none=>simp [hi] at hz
  |some i=>
   cases hzz:i.zero with
   |none=>simp [hi,hzz] at hz
   |some z=>exact⟨i,z,rfl,hzz⟩
 obtain⟨i,z,hi,hz1⟩:=hinfo
 obtain⟨_,_,hvz⟩:=fV m hz hi hz1
 cases hf2:pL kk n es with
 |some v=>
  simp only[hf2] at hfind;obtain⟨l,x,h1,h2,_⟩:=hfind;simp only[Nat.zero_add] at h1
  cases ok with
  |true=>
   refine aS.still hr hf (x:= .tuple #[x,.bool true]) ?_ ⟨_,rfl,h2,rfl,trivial⟩;simp [Instr.lookup,run_underlying ht,hget,hck,Instr.findKey,run_underlying hk,h1]
  |false=>
   refine aS.still hr hf (x:=x) ?_ h2;simp [Instr.lookup,run_underlying ht,hget,hck,Instr.findKey,run_underlying hk,h1]
 |none=>
  simp only[hf2] at hfind
  cases ok with
  |true=>
   refine aS.still hr hf (x:= .tuple #[z,.bool false]) ?_ ⟨_,rfl,hvz,rfl,trivial⟩;simp [Instr.lookup,run_underlying ht,hget,hck,Instr.findKey,run_underlying hk,hfind,zeroValue,typeInfo,hi,hz1]
  |false=>
   refine aS.still hr hf (x:=z) ?_ hvz;simp [Instr.lookup,run_underlying ht,hget,hck,Instr.findKey,run_underlying hk,hfind,zeroValue,typeInfo,hi,hz1]
theorem yE {kk:IntKind}{n:Int}{y:V}{yx:Value}(hy:VR m y yx): ∀{es:List (V×V)} {es':List MapEntry} (i:Nat),wH m es es'->lD kk es=true-> ∀(j:IntKind) (born:Nat),
  (∃l x,Instr.findNow (.int j) (.int kk n) es' i=some (some (i+l,x))/\(∃e,es'[l]? =some e/\e.key= .int kk n)/\wH m (tD kk n y es) (es'.modify l λe=>{e with key:= .int kk n,val:=yx}))∨
  (Instr.findNow (.int j) (.int kk n) es' i=some none/\wH m (tD kk n y es) (es'++ [{key:= .int kk n,val:=yx,born:=born}]))
 | [],es',i,h,_,j,born=>by
  obtain⟨h1,_⟩:=h
  cases es' with
  |nil=>
   refine .inr ⟨by simp [Instr.findNow],by simp [tD],λq k v hq=>?_⟩
   cases q with
   |zero=>simp [tD] at hq;obtain⟨rfl,rfl⟩:=hq;exact⟨_,rfl,rfl,hy⟩
   |succ q=>simp [tD] at hq
  |cons _ _=>simp at h1
 |(k,v)::es,es',i,h,hk,j,born=>by
  cases es' with
  |nil=>simp [wH] at h
  |cons e es'=>
   obtain⟨hkk,hv,hrest⟩:=yS h
   cases k with
   |int k' n'=>
    simp only[lD,Bool.and_eq_true,beq_iff_eq] at hk;obtain⟨rfl,hk⟩:=hk;have hkey:e.key= .int k' n':=hkk;simp only[tD]
    by_cases hn:n=n'
    ·subst hn
     rw[if_pos rfl];refine .inl ⟨0,e.val,by simp [Instr.findNow,Instr.sameNow,hkey],⟨e,rfl,hkey⟩,by simp [hrest.1],λq k v hq=>?_⟩
     cases q with
     |zero=>simp at hq;obtain⟨rfl,rfl⟩:=hq;exact⟨_,rfl,rfl,hy⟩
     |succ q=>simpa using hrest.2 q k v (by simpa using hq)
    ·rw[if_neg hn]
     have hs:Instr.findNow (.int j) (.int k' n) (e::es') i=Instr.findNow (.int j) (.int k' n) es' (i+1):=by
      simp [Instr.findNow,Instr.sameNow,hkey,show (n==n')=false from by simpa using hn]
     rw[hs];rcases yE (n:=n) hy (i+1) hrest hk j born with ⟨l,x,h1,⟨e2,h2,h3⟩,h4⟩|⟨h1,h4⟩
     ·refine .inl ⟨l+1,x,by rw[h1];congr 3;omega,⟨e2,by simpa using h2,h3⟩,by simpa using h4.1,λq k v hq=>?_⟩
      cases q with
      |zero=>simp at hq;obtain⟨rfl,rfl⟩:=hq;exact⟨e,rfl,hkk,hv⟩
      |succ q=>simpa using h4.2 q k v (by simpa using hq)
     ·refine .inr ⟨h1,by simpa using h4.1,λq k v hq=>?_⟩
      cases q with
      |zero=>simp at hq;obtain⟨rfl,rfl⟩:=hq;exact⟨e,rfl,hkk,hv⟩
      |succ q=>simpa using h4.2 q k v (by simpa using hq)
   |_=>simp [lD] at hk
theorem Es (hr:HR P m h w)(hf:eD m h.next){et:TypeId}(ht:P.underlying t=some (.map kt et))(hk:P.underlying kt=some (.int j))
  {id:Nat}    {v:V} {z:Value} (hx:VR m (.mp id) x) (hy:VR m (.int kk n) y) (hz:VR m v z) (hg:h.get id=some (.map es)) (hkeys:lD kk es=true):
  ∃w',(Instr.mapUpdate t x y z).run P w= .ok () w'/\eS P m h w m (h.set id (some (.map (tD kk n v es)))) w':=by
 obtain⟨p,hp,rfl⟩:=hx
 obtain rfl:y= .int kk n:=hy
 obtain⟨p',hp',es',clock,hb,hlen,hes⟩:=hr.live id _ hg
 rw[hp] at hp';cases hp'
 have hent:wH m es es'.toList:=⟨by simpa using hlen,λi k v hi=>by simpa using hes i k v hi⟩
 have hget:(getObj p.1).run P w= .ok (.map es' clock) w:=by simp [getObj,Sem.run,hb]
 have hck:=rS (w:=w) hk false 9999 (.int kk n)
 have hset: ∀o,(setObj p.1 o).run P w= .ok () (w.putObj p.1 o):=λo=>by simp [setObj,Sem.run,hb,World.putObj]
 have hlt:p.1<w.heap.size:=(Array.getElem?_eq_some_iff.1 hb).1
 have fin: ∀es2 clock2,wH m (tD kk n v es) (Array.toList es2)->eS P m h w m (h.set id (some (.map (tD kk n v es)))) (w.putObj p.1 (.map es2 clock2)):=λes2 clock2 he2=>
  eS.put hr hf hg rfl rfl hp ⟨es2,clock2,World.putObj_heap_same hlt,by simpa using he2.1,λi k v hi=>by simpa using he2.2 i k v hi⟩ rfl rfl rfl (by simp) (λb hb=>World.putObj_heap_other hb)
 rcases yE (n:=n) hz 0 hent hkeys j clock with ⟨l,x,h1,⟨e,h2,h3⟩,h4⟩|⟨h1,h4⟩
 ·simp only[Nat.zero_add] at h1
  refine⟨_,?_,fin (es'.modify l λe=>{e with key:= .int kk n,val:=z}) clock (by simpa using h4)⟩
  have h2':es'[l]? =some e:=by simpa using h2
  have hkey:(Option.map MapEntry.key es'[l]?).getD (.int kk n)= .int kk n:=by rw[h2'];exact h3
  have fG:(Instr.keyThatStays (.int kk n) (.int kk n)).run P w= .ok (.int kk n) w:=by
   simp [Instr.keyThatStays,Instr.sameBits]
  simp only[Instr.mapUpdate,Sem.run_bind,run_underlying ht,Result.andThen_ok,hget,hck,Instr.findKey,run_underlying hk,h1,Sem.run_pure,hkey,fG,hset]
 ·refine⟨_,?_,fin (es'.push {key:= .int kk n,val:=z,born:=clock}) (clock+1) (by simpa using h4)⟩
  simp only[Instr.mapUpdate,Sem.run_bind,run_underlying ht,Result.andThen_ok,hget,hck,Instr.findKey,run_underlying hk,h1,Sem.run_pure,hset]
end
end
end Go.Ay
