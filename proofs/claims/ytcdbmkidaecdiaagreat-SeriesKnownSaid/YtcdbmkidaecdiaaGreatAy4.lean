/- Operands, rows, loads, stores, new blocks: the abstract machine's steps are the model's. -/
import Derived.Test.YtcdbmkidaecdiaaGreatAy3
import Derived.ChangeKeysEq
namespace Go.Ay
open Go
section
variable {v:Value} {u:V} {vs ws us:List V} {off n b:Nat} {c:Array Value} {elem t:TypeId} {fr:Nat×Nat}
section
variable {P:Program} {m:M} {h:H} {w:World}
theorem jD {α β:Type}{f:α->Option β}: ∀{l:List α} {r:List β},cH (l.map f)=some r->r.length=l.length/\ ∀(i:Nat) (a:α),l[i]? =some a-> ∃b,r[i]? =some b/\f a=some b
 | [],r,h=>by simp [cH] at h;subst h;exact⟨rfl,λi a h=>by simp at h⟩
 |x::l,r,h=>by
  simp only[List.map_cons] at h
  cases hx:f x with
  |none=>simp [hx,cH] at h
  |some b=>
   simp only[hx,cH,mJ] at h;obtain⟨j,e,rfl⟩:=h;obtain⟨g,d⟩:=jD e;refine⟨by simp [g],λi a hi=>?_⟩
   cases i with
   |zero=>simp at hi;subst hi;exact⟨b,rfl,hx⟩
   |succ i=>simpa using d i a (by simpa using hi)
theorem Gf (m:M)(h:Js v=some u):VR m u v:=by
 unfold Js at h;split at h<;>first
  |(cases h;rfl)
  |skip
 ·rename_i s
  cases h;show Value.string s= .string ⟨((s.data.toList.map UInt8.toNat).map UInt8.ofNat).toArray⟩;rw[List.map_map,show (UInt8.ofNat∘UInt8.toNat)=id from funext λx=>by simp,List.map_id]
 ·rename_i f first a
  split at h
  ·rename_i d
   simp at d;cases h;obtain⟨rfl,rfl⟩:=d;exact⟨#[],#[],rfl,trivial,trivial⟩
  ·cases h
 ·cases h
theorem Ju (m:M)(h:Sq v=some u):VR m u v:=by
 unfold Sq at h;split at h
 ·rename_i d
  simp only[mJ] at h;obtain⟨r,k,rfl⟩:=h;obtain⟨l,j⟩:=jD k;refine⟨d,rfl,gZ.mQ (by simpa using l) (λi v f=>?_)⟩
  have a:i<d.toList.length:=by
   have:=(Ax.1 f).1;omega
  obtain⟨b,g,o⟩:=j i d.toList[i] (dD a);rw[f] at g;cases g;exact⟨_,dD a,Gf m o⟩
 ·rename_i d
  split at h
  ·rename_i e;simp at e;subst e;cases h;exact VR.undef m
  ·cases h
 ·exact Gf m h
theorem Mg (h:Js v=some u):u.one=true:=by
 unfold Js at h;split at h<;>first
  |(cases h;rfl)
  |skip
 ·split at h<;>cases h
  rfl
 ·cases h
theorem Ks (h:Sq v=some u)(j:u≠ .tup []): ∀c∈u.cells,c.one=true:=by
 unfold Sq at h;split at h
 ·rename_i e
  simp only[mJ] at h;obtain⟨r,l,rfl⟩:=h;obtain⟨f,k⟩:=jD l;intro c a;simp only[V.cells] at a;obtain⟨i,hi,rfl⟩:=List.getElem_of_mem a;have d:i<e.toList.length:=om
  obtain⟨b,g,o⟩:=k i e.toList[i] (dD d);rw[dD hi] at g;cases g;exact Mg o
 ·split at h<;>cases h
  exact absurd rfl j
 ·intro c a
  have f:=Mg h;cases u<;>simp [V.cells,V.one] at a f ⊢ <;>subst a<;>rfl
structure St (m:M)(nt:Nat)(pv defs:List Nat)(vars loc:List V)(a:Act):Prop where
 vars:jM m nt pv vars a.tmps
 loc:xZ m pv defs loc a.tmps
variable {nt:Nat} {pv defs:List Nat} {vars loc:List V} {a:Act}
theorem aJ (s:St m nt pv defs vars loc a){o:Operand}{x:X}(h:fU pv defs o=some x):VR m (xv vars loc x) (a.eval o):=by
 cases o with
 |tmp t=>
  simp only[fU] at h
  cases hd:idx t defs with
  |some i=>simp only[hd] at h;cases h;exact s.loc.val t i hd
  |none=>
   simp only[hd,mJ] at h;obtain⟨k,e,rfl⟩:=h;exact s.vars.val t k e
 |const v=>
  simp only[fU,mJ] at h;obtain⟨u,d,rfl⟩:=h;exact Ju m d
 |global g=>simp [fU] at h
 |func f=>simp only[fU] at h;cases h;exact⟨#[],#[],rfl,trivial,trivial⟩
theorem iM (s:St m nt pv defs vars loc a){e:List Operand}{xs:List X}(h:rR pv defs e=some xs):gZ m (xs.map (xv vars loc)) (e.map a.eval):=by
 obtain⟨l,k⟩:=jD h;refine gZ.mQ (by simp [l]) (λi v g=>?_);simp only[Ol,mJ] at g;obtain⟨x,f,rfl⟩:=g;have d:i<e.length:=by have:=(Ax.1 f).1;omega
 obtain⟨b,j,o⟩:=k i e[i] (dD d);rw[f] at j;cases j;exact⟨_,by simp [d],aJ s o⟩
theorem sub_eq (h:sub vs off n=some ws):ws=(vs.drop off).take n/\off+n<=vs.length/\ws.length=n:=by
 unfold sub at h;split at h
 ·rename_i d;cases h;refine⟨rfl,d,?_⟩;simp;omega
 ·cases h
theorem Cn (q:HR P m h w){id:Nat}(d:h.row id off n=some ws):
  ∃p c elem fr,m id=some p/\w.heap[p.1]? =some (.cells c elem fr)/\c.size=p.2.2/\p.2.1+off+n<=c.size/\
   gZ m ws ((c.toList.drop (p.2.1+off)).take n)/\(∀v∈ws,v.one=true):=by
 unfold H.row at d
 split at d
 ·rename_i z vs k
  obtain⟨rfl,o,A⟩:=sub_eq d
  obtain⟨p,l,c,elem,fr,r,j,s,g,y⟩:=q.live id _ k
  refine⟨p,c,elem,fr,l,r,j,om,gZ.mQ (by simp;omega) (λi v e=>?_),λv e=>?_⟩
  ·simp only[List.getElem?_take,List.getElem?_drop] at e ⊢
   split at e
   ·rename_i hi
    obtain⟨_,x,f,e⟩:=g _ v e
    refine⟨x,?_,e⟩
    rw[bF hi]
    rw[←Nat.add_assoc] at f
    simpa using f
   ·cases e
  ·obtain⟨i,hi,rfl⟩:=List.getElem_of_mem e
   have:=g (off+i) ((vs.drop off).take n)[i] (by
    rw[←dD]
    ·simp only[List.getElem?_take,List.getElem?_drop];rw[bF (by simp at hi;omega)]
     )
   exact this.1
 ·cases d
theorem aF {w:World}(d:w.heap[b]? =some (.cells c elem fr))(o:Nat):w.cell? ⟨b,o,none⟩=c[o]? :=by
 simp [World.cell?,d]
theorem kS (b o j:Nat):(⟨b,o,none⟩:Addr).add j=⟨b,o+j,none⟩:=by unfold Addr.add;split<;>simp_all
theorem Xm {w:World}(e:w.heap[b]? =some (.cells c elem fr))(o n:Nat):
  ∀j v,((c.toList.drop o).take n)[j]? =some v->w.cell? ((⟨b,o,none⟩:Addr).add j)=some v:=by
 intro j v d
 rw[kS,aF e]
 simp only[List.getElem?_take,List.getElem?_drop] at d
 split at d
 ·simpa using d
 ·cases d
theorem lE {w:World}(e:w.heap[b]? =some (.cells c elem fr)){o:Nat}(f:o+n<=c.size):
  (loadCells ⟨b,o,none⟩ n).run P w= .ok ((c.toList.drop o).take n).toArray w:=by
 have:=run_loadCells_list (P:=P) w ⟨b,o,none⟩ ((c.toList.drop o).take n) (Xm e o n)
 have d:((c.toList.drop o).take n).length=n:=by simp;omega
 rw[d] at this
 exact this
theorem sS {b:Bool}(h:Qv P t=some b):(isAgg t).run P w= .ok b w:=by
 unfold Qv at h;simp only[mJ] at h;obtain⟨d,e,rfl⟩:=h;unfold isAgg;rw[Sem.run_bind,run_underlying e w];cases d<;>rfl
theorem fN (h:iV P t=some n):(sizeOf t).run P w= .ok n w:=by
 unfold iV at h;simp only[mJ] at h;obtain⟨i,hi,rfl⟩:=h;simp [sizeOf,typeInfo,hi]
theorem AG (r:HR P m h w){agg:Bool}(j:Qv P t=some agg)(g:(if agg then iV P t else some 1)=some n)
  {v:V} {x:Value} (o:VR m v x) (e:QW h agg n v=some u): ∃y,(Instr.loadAt t x).run P w= .ok y w/\VR m u y:=by
 cases v<;>simp only[QW] at e<;>try cases e
 rename_i id off
 obtain⟨p,q,rfl⟩:=o
 cases hrow:h.row id off n with
 |none=>simp [hrow] at e
 |some ws=>
  simp only[hrow] at e;obtain⟨z,c,elem,fr,f,l,s,i,d,_⟩:=Cn r hrow;rw[q] at f;cases f
  cases agg with
  |true=>
   simp only[if_true] at e g;cases e;refine⟨_,?_,⟨_,rfl,d⟩⟩;simp [Instr.loadAt,Instr.sureAddr,loadVar,sS j,fN g,lE l i]
  |false=>
   simp only[Bool.false_eq_true,if_false] at e g;cases g;split at e
   ·cases e
    rename_i v
    cases hl:(c.toList.drop (p.2.1+off)).take 1 with
    |nil=>rw[hl] at d;exact d.elim
    |cons y ys=>
     rw[hl] at d;refine⟨y,?_,d.1⟩;have k:=Xm l (p.2.1+off) 1 0 y (by rw[hl];rfl);rw[kS,Nat.add_zero] at k;simp [Instr.loadAt,Instr.sureAddr,loadVar,sS j,k]
   ·cases e
theorem Fy (h:putAt vs off ws=some us):us=vs.take off++ws++vs.drop (off+ws.length)/\off+ws.length<=vs.length:=by
 unfold putAt at h;split at h
 ·cases h;exact⟨rfl,by assumption⟩
 ·cases h
theorem Uy (h:putAt vs off ws=some us):us.length=vs.length:=by
 obtain⟨rfl,d⟩:=Fy h;simp;omega
theorem MN (h:putAt vs off ws=some us)(i:Nat):
  us[i]? =if i<off then vs[i]? else if i<off+ws.length then ws[i-off]? else vs[i]? :=by
 obtain⟨rfl,g⟩:=Fy h
 have f:(vs.take off).length=off:=by simp;omega
 by_cases d:i<off
 ·rw[bF d,Ll,Dv om,List.getElem?_take,bF d]
 ·rw[bI d]
  by_cases e:i<off+ws.length
  ·rw[bF e,Ll,Kk om,f,Dv om]
  ·rw[bI e,Kk (by simp;omega),List.getElem?_drop]
   congr 1
   simp;omega
theorem Od (c:Array Value)(o:Nat)(xs:List Value)(g:o+xs.length<=c.size)(i:Nat):
  ((c.toList.take o++xs++c.toList.drop (o+xs.length)).toArray)[i]? =if i<o then c[i]? else if i<o+xs.length then xs[i-o]? else c[i]? :=by
 simp only[List.getElem?_toArray]
 have f:(c.toList.take o).length=o:=by simp;omega
 by_cases d:i<o
 ·rw[bF d,Ll,Dv om,List.getElem?_take,bF d];simp
 ·rw[bI d]
  by_cases e:i<o+xs.length
  ·rw[bF e,Ll,Kk om,f,Dv om]
  ·rw[bI e,Kk (by simp;omega),List.getElem?_drop]
   have:o+xs.length+(i-(c.toList.take o++xs).length)=i:=by simp;omega
   rw[this];simp
theorem Hy (c:Array Value)(o:Nat)(xs:List Value)(d:o+xs.length<=c.size):((c.toList.take o++xs++c.toList.drop (o+xs.length)).toArray).size=c.size:=by
 simp;omega
theorem Bx (B:HR P m h w)(W:gK m h.next){id:Nat}{xs:List Value}{h':H}(g:h.put id off ws=some h')(r:gZ m ws xs)(K: ∀v∈ws,v.one=true)
  {p:Nat×Nat×Nat} (F:m id=some p): ∃w',(storeCells ⟨p.1,p.2.1+off,none⟩ xs).run P w= .ok () w'/\iO P m h w m h' w':=by
 unfold H.put at g
 split at g
 ·rename_i vs z
  simp only[mJ] at g
  obtain⟨us,e,rfl⟩:=g
  obtain⟨p',j,c,elem,fr,N,Y,R,G,O⟩:=B.live id _ z
  rw[F] at j;cases j
  have s:=O rfl
  subst s
  obtain⟨_,U⟩:=Fy e
  have J:=gZ.length r
  have o: ∀x∈xs,x.oneCell'=true:=by
   intro x Q;obtain⟨i,hi,rfl⟩:=List.getElem_of_mem Q;have k:i<ws.length:=om
   obtain⟨y,l,f⟩:=r.get (dD k);rw[dD hi] at l;cases l;exact f.one (K _ (zG k))
  have iP:=run_storeCells_at P p.1 (p.2.1+off) elem xs 0 c w N om o
  simp only[Nat.add_zero] at iP
  refine⟨_,iP,?_⟩
  have Z:=setRow_heap w p.1 c (c.toList.take (p.2.1+off)++xs++c.toList.drop (p.2.1+off+xs.length)).toArray elem (0,0) N
  refine iO.put B W z rfl rfl F ⟨_,elem,(0,0),Z,?_,?_,λi v d=>?_,λ_=>rfl⟩ rfl rfl rfl (by simp) (λb q=>setRow_other w p.1 b _ q)
  ·rw[Hy _ _ _ om];exact Y
  ·rw[Uy e];exact R
  ·rw[MN e] at d
   rw[Od _ _ _ om]
   by_cases L:i<off
   ·rw[bF L] at d;rw[bF om];exact G i v d
   ·rw[bI L] at d
    by_cases A:i<off+ws.length
    ·rw[bF A] at d
     rw[bI om,bF om]
     obtain⟨y,l,f⟩:=r.get d
     refine⟨K v (AW d),y,?_,f⟩
     rw[show p.2.1+i-(p.2.1+off)=i-off from om];exact l
    ·rw[bI A] at d
     rw[bI om,bI om]
     exact G i v d
 ·cases g
theorem wQ (p:HR P m h w)(r:gK m h.next){xs:List Value}(l:List Value)(k:gZ m ws xs)(q: ∀v∈ws,v.one=true)(elem:TypeId):
  iO P m h w (m.set h.next (w.heap.size,0,xs.length+l.length)) (h.new (.cells false ws)) (w.alloc (.cells (xs++l).toArray elem)):=by
 have e:=gZ.length k
 refine iO.new p r _ _ _ (λs o _=>⟨_,elem,(0,0),heap_alloc_new w _,by simp,by simp [e],λi v d=>?_,λ_=>rfl⟩)
 refine⟨q v (AW d),?_⟩
 obtain⟨y,j,f⟩:=k.get d
 refine⟨y,?_,VR.mono o _ _ f⟩
 have g:i<xs.length:=(Ax.1 j).1
 simp only[Nat.zero_add,List.getElem?_toArray]
 rw[Dv g];exact j
end
end
end Go.Ay
