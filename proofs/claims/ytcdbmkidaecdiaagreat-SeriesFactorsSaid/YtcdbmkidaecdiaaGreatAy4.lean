/- Operands, rows, loads, stores, new blocks: the abstract machine's steps are the model's. -/
import Derived.Test.YtcdbmkidaecdiaaGreatAy3
import Derived.ChangeKeysEq
namespace Go.Ay
open Go
section
variable {v:Value} {u:V} {vs ws us:List V} {off n b:Nat} {c:Array Value} {elem t:TypeId} {fr:Nat×Nat}
section
variable {P:Program} {m:M} {h:H} {w:World}
theorem jD {α β:Type}{f:α->Option β}: ∀{l:List α} {r:List β},cH (l.map f)=some r->r.length=l.length/\ ∀(i:Nat) (a:α),l[i]? =some a-> ∃b,r[i]? =some b/\f a=some b
 | [],r,h=>by simp [cH] at h;subst h;exact⟨rfl,λi a h=>by simp at h⟩
 |x::l,r,h=>by
  simp only[List.map_cons] at h
  cases hx:f x with
  |none=>simp [hx,cH] at h
  |some b=>
   simp only[hx,cH,mJ] at h;obtain⟨o,j,rfl⟩:=h;obtain⟨k,d⟩:=jD j;refine⟨by simp [k],λi a hi=>?_⟩
   cases i with
   |zero=>simp at hi;subst hi;exact⟨b,rfl,hx⟩
   |succ i=>simpa using d i a (by simpa using hi)
theorem Gf (m:M)(h:Js v=some u):VR m u v:=by
 unfold Js at h;split at h<;>first
  |(cases h;rfl)
  |skip
 ·rename_i s
  cases h;show Value.string s= .string ⟨((s.data.toList.map UInt8.toNat).map UInt8.ofNat).toArray⟩;rw[List.map_map,show (UInt8.ofNat∘UInt8.toNat)=id from funext λx=>by simp,List.map_id]
 ·rename_i f first a
  split at h
  ·rename_i d
   simp at d;cases h;obtain⟨rfl,rfl⟩:=d;exact⟨#[],#[],rfl,trivial,trivial⟩
  ·cases h
 ·cases h
theorem Ju (m:M)(h:Sq v=some u):VR m u v:=by
 unfold Sq at h;split at h
 ·rename_i d
  simp only[mJ] at h;obtain⟨r,o,rfl⟩:=h;obtain⟨q,l⟩:=jD o;refine⟨d,rfl,gZ.mQ (by simpa using q) (λi v f=>?_)⟩
  have a:i<d.toList.length:=by
   have:=(Ax.1 f).1;omega
  obtain⟨b,j,p⟩:=l i d.toList[i] (dD a);rw[f] at j;cases j;exact⟨_,dD a,Gf m p⟩
 ·rename_i d
  split at h
  ·rename_i k;simp at k;subst k;cases h;exact VR.undef m
  ·cases h
 ·exact Gf m h
theorem Mg (h:Js v=some u):u.one=true:=by
 unfold Js at h;split at h<;>first
  |(cases h;rfl)
  |skip
 ·split at h<;>cases h
  rfl
 ·cases h
theorem Ks (h:Sq v=some u)(o:u≠ .tup []): ∀c∈u.cells,c.one=true:=by
 unfold Sq at h;split at h
 ·rename_i j
  simp only[mJ] at h;obtain⟨r,p,rfl⟩:=h;obtain⟨k,l⟩:=jD p;intro c a;simp only[V.cells] at a;obtain⟨i,hi,rfl⟩:=List.getElem_of_mem a;have d:i<j.toList.length:=om
  obtain⟨b,f,q⟩:=l i j.toList[i] (dD d);rw[dD hi] at f;cases f;exact Mg q
 ·split at h<;>cases h
  exact absurd rfl o
 ·intro c a
  have k:=Mg h;cases u<;>simp [V.cells,V.one] at a k ⊢ <;>subst a<;>rfl
structure St (m:M)(nt:Nat)(pv defs:List Nat)(vars loc:List V)(a:Act):Prop where
 vars:jM m nt pv vars a.tmps
 loc:xZ m pv defs loc a.tmps
variable {nt:Nat} {pv defs:List Nat} {vars loc:List V} {a:Act}
theorem aJ (s:St m nt pv defs vars loc a){o:Operand}{x:X}(h:fU pv defs o=some x):VR m (xv vars loc x) (a.eval o):=by
 cases o with
 |tmp t=>
  simp only[fU] at h
  cases hd:idx t defs with
  |some i=>simp only[hd] at h;cases h;exact s.loc.val t i hd
  |none=>
   simp only[hd,mJ] at h;obtain⟨k,j,rfl⟩:=h;exact s.vars.val t k j
 |const v=>
  simp only[fU,mJ] at h;obtain⟨u,d,rfl⟩:=h;exact Ju m d
 |global g=>simp [fU] at h
 |func f=>simp only[fU] at h;cases h;exact⟨#[],#[],rfl,trivial,trivial⟩
theorem iM (s:St m nt pv defs vars loc a){f:List Operand}{xs:List X}(h:rR pv defs f=some xs):gZ m (xs.map (xv vars loc)) (f.map a.eval):=by
 obtain⟨q,o⟩:=jD h;refine gZ.mQ (by simp [q]) (λi v j=>?_);simp only[Ol,mJ] at j;obtain⟨x,k,rfl⟩:=j;have d:i<f.length:=by have:=(Ax.1 k).1;omega
 obtain⟨b,l,p⟩:=o i f[i] (dD d);rw[k] at l;cases l;exact⟨_,by simp [d],aJ s p⟩
theorem sub_eq (h:sub vs off n=some ws):ws=(vs.drop off).take n/\off+n<=vs.length/\ws.length=n:=by
 unfold sub at h;split at h
 ·rename_i d;cases h;refine⟨rfl,d,?_⟩;simp;omega
 ·cases h
theorem Cn (y:HR P m h w){id:Nat}(d:h.row id off n=some ws):
  ∃p c elem fr,m id=some p/\w.heap[p.1]? =some (.cells c elem fr)/\c.size=p.2.2/\p.2.1+off+n<=c.size/\
   gZ m ws ((c.toList.drop (p.2.1+off)).take n)/\(∀v∈ws,v.one=true):=by
 unfold H.row at d
 split at d
 ·rename_i A vs r
  obtain⟨rfl,q,F⟩:=sub_eq d
  obtain⟨p,o,c,elem,fr,s,l,B,j,z⟩:=y.live id _ r
  refine⟨p,c,elem,fr,o,s,l,om,gZ.mQ (by simp;omega) (λi v f=>?_),λv f=>?_⟩
  ·simp only[List.getElem?_take,List.getElem?_drop] at f ⊢
   split at f
   ·rename_i hi
    obtain⟨_,x,k,f⟩:=j _ v f
    refine⟨x,?_,f⟩
    rw[bF hi]
    rw[←Nat.add_assoc] at k
    simpa using k
   ·cases f
  ·obtain⟨i,hi,rfl⟩:=List.getElem_of_mem f
   have:=j (off+i) ((vs.drop off).take n)[i] (by
    rw[←dD]
    ·simp only[List.getElem?_take,List.getElem?_drop];rw[bF (by simp at hi;omega)]
     )
   exact this.1
 ·cases d
theorem aF {w:World}(d:w.heap[b]? =some (.cells c elem fr))(o:Nat):w.cell? ⟨b,o,none⟩=c[o]? :=by
 simp [World.cell?,d]
theorem Ew (b o j:Nat):(⟨b,o,none⟩:Addr).add j=⟨b,o+j,none⟩:=by unfold Addr.add;split<;>simp_all
theorem Xm {w:World}(f:w.heap[b]? =some (.cells c elem fr))(o n:Nat):
  ∀j v,((c.toList.drop o).take n)[j]? =some v->w.cell? ((⟨b,o,none⟩:Addr).add j)=some v:=by
 intro j v d
 rw[Ew,aF f]
 simp only[List.getElem?_take,List.getElem?_drop] at d
 split at d
 ·simpa using d
 ·cases d
theorem lE {w:World}(f:w.heap[b]? =some (.cells c elem fr)){o:Nat}(i:o+n<=c.size):
  (loadCells ⟨b,o,none⟩ n).run P w= .ok ((c.toList.drop o).take n).toArray w:=by
 have:=run_loadCells_list (P:=P) w ⟨b,o,none⟩ ((c.toList.drop o).take n) (Xm f o n)
 have d:((c.toList.drop o).take n).length=n:=by simp;omega
 rw[d] at this
 exact this
theorem ahS {b:Bool}(h:Qv P t=some b):(isAgg t).run P w= .ok b w:=by
 unfold Qv at h;simp only[mJ] at h;obtain⟨d,f,rfl⟩:=h;unfold isAgg;rw[Sem.run_bind,run_underlying f w];cases d<;>rfl
theorem uP (h:iV P t=some n):(sizeOf t).run P w= .ok n w:=by
 unfold iV at h;simp only[mJ] at h;obtain⟨i,hi,rfl⟩:=h;simp [sizeOf,typeInfo,hi]
theorem AG (A:HR P m h w){agg:Bool}(o:Qv P t=some agg)(j:(if agg then iV P t else some 1)=some n)
  {v:V} {x:Value} (z:VR m v x) (f:QW h agg n v=some u): ∃y,(Instr.loadAt t x).run P w= .ok y w/\VR m u y:=by
 cases v<;>simp only[QW] at f<;>try cases f
 rename_i id off
 obtain⟨p,s,rfl⟩:=z
 cases hrow:h.row id off n with
 |none=>simp [hrow] at f
 |some ws=>
  simp only[hrow] at f;obtain⟨B,c,elem,fr,i,l,r,k,d,_⟩:=Cn A hrow;rw[s] at i;cases i
  cases agg with
  |true=>
   simp only[if_true] at f j;cases f;refine⟨_,?_,⟨_,rfl,d⟩⟩;simp [Instr.loadAt,Instr.sureAddr,loadVar,ahS o,uP j,lE l k]
  |false=>
   simp only[Bool.false_eq_true,if_false] at f j;cases j;split at f
   ·cases f
    rename_i v
    cases hl:(c.toList.drop (p.2.1+off)).take 1 with
    |nil=>rw[hl] at d;exact d.elim
    |cons y ys=>
     rw[hl] at d;refine⟨y,?_,d.1⟩;have q:=Xm l (p.2.1+off) 1 0 y (by rw[hl];rfl);rw[Ew,Nat.add_zero] at q;simp [Instr.loadAt,Instr.sureAddr,loadVar,ahS o,q]
   ·cases f
theorem Fy (h:putAt vs off ws=some us):us=vs.take off++ws++vs.drop (off+ws.length)/\off+ws.length<=vs.length:=by
 unfold putAt at h;split at h
 ·cases h;exact⟨rfl,by assumption⟩
 ·cases h
theorem Uy (h:putAt vs off ws=some us):us.length=vs.length:=by
 obtain⟨rfl,d⟩:=Fy h;simp;omega
theorem MN (h:putAt vs off ws=some us)(i:Nat):
  us[i]? =if i<off then vs[i]? else if i<off+ws.length then ws[i-off]? else vs[i]? :=by
 obtain⟨rfl,k⟩:=Fy h
 have j:(vs.take off).length=off:=by simp;omega
 by_cases d:i<off
 ·rw[bF d,Ll,Dv om,List.getElem?_take,bF d]
 ·rw[bI d]
  by_cases f:i<off+ws.length
  ·rw[bF f,Ll,Sj om,j,Dv om]
  ·rw[bI f,Sj (by simp;omega),List.getElem?_drop]
   congr 1
   simp;omega
theorem Od (c:Array Value)(o:Nat)(xs:List Value)(j:o+xs.length<=c.size)(i:Nat):
  ((c.toList.take o++xs++c.toList.drop (o+xs.length)).toArray)[i]? =if i<o then c[i]? else if i<o+xs.length then xs[i-o]? else c[i]? :=by
 simp only[List.getElem?_toArray]
 have k:(c.toList.take o).length=o:=by simp;omega
 by_cases d:i<o
 ·rw[bF d,Ll,Dv om,List.getElem?_take,bF d];simp
 ·rw[bI d]
  by_cases f:i<o+xs.length
  ·rw[bF f,Ll,Sj om,k,Dv om]
  ·rw[bI f,Sj (by simp;omega),List.getElem?_drop]
   have:o+xs.length+(i-(c.toList.take o++xs).length)=i:=by simp;omega
   rw[this];simp
theorem Hy (c:Array Value)(o:Nat)(xs:List Value)(d:o+xs.length<=c.size):((c.toList.take o++xs++c.toList.drop (o+xs.length)).toArray).size=c.size:=by
 simp;omega
theorem Bx (Q:HR P m h w)(hf:Al m h.next){id:Nat}{xs:List Value}{h':H}(l:h.put id off ws=some h')(z:gZ m ws xs)(L: ∀v∈ws,v.one=true)
  {p:Nat×Nat×Nat} (G:m id=some p): ∃w',(storeCells ⟨p.1,p.2.1+off,none⟩ xs).run P w= .ok () w'/\iO P m h w m h' w':=by
 unfold H.put at l
 split at l
 ·rename_i vs O
  simp only[mJ] at l
  obtain⟨us,j,rfl⟩:=l
  obtain⟨p',o,c,elem,fr,K,W,U,B,R⟩:=Q.live id _ O
  rw[G] at o;cases o
  have A:=R rfl
  subst A
  obtain⟨_,Z⟩:=Fy j
  have J:=gZ.length z
  have r: ∀x∈xs,x.oneCell'=true:=by
   intro x hx;obtain⟨i,hi,rfl⟩:=List.getElem_of_mem hx;have k:i<ws.length:=om
   obtain⟨y,q,f⟩:=z.get (dD k);rw[dD hi] at q;cases q;exact f.one (L _ (zG k))
  have iP:=run_storeCells_at P p.1 (p.2.1+off) elem xs 0 c w K om r
  simp only[Nat.add_zero] at iP
  refine⟨_,iP,?_⟩
  have Y:=setRow_heap w p.1 c (c.toList.take (p.2.1+off)++xs++c.toList.drop (p.2.1+off+xs.length)).toArray elem (0,0) K
  refine iO.put Q hf O rfl rfl G ⟨_,elem,(0,0),Y,?_,?_,λi v d=>?_,λ_=>rfl⟩ rfl rfl rfl (by simp) (λb s=>setRow_other w p.1 b _ s)
  ·rw[Hy _ _ _ om];exact W
  ·rw[Uy j];exact U
  ·rw[MN j] at d
   rw[Od _ _ _ om]
   by_cases N:i<off
   ·rw[bF N] at d;rw[bF om];exact B i v d
   ·rw[bI N] at d
    by_cases F:i<off+ws.length
    ·rw[bF F] at d
     rw[bI om,bF om]
     obtain⟨y,q,f⟩:=z.get d
     refine⟨L v (AW d),y,?_,f⟩
     rw[show p.2.1+i-(p.2.1+off)=i-off from om];exact q
    ·rw[bI F] at d
     rw[bI om,bI om]
     exact B i v d
 ·cases l
theorem wQ (s:HR P m h w)(r:Al m h.next){xs:List Value}(p:List Value)(l:gZ m ws xs)(x: ∀v∈ws,v.one=true)(elem:TypeId):
  iO P m h w (m.set h.next (w.heap.size,0,xs.length+p.length)) (h.new (.cells false ws)) (w.alloc (.cells (xs++p).toArray elem)):=by
 have f:=gZ.length l
 refine iO.new s r _ _ _ (λz q _=>⟨_,elem,(0,0),heap_alloc_new w _,by simp,by simp [f],λi v d=>?_,λ_=>rfl⟩)
 refine⟨x v (AW d),?_⟩
 obtain⟨y,o,j⟩:=l.get d
 refine⟨y,?_,VR.mono q _ _ j⟩
 have k:i<xs.length:=(Ax.1 o).1
 simp only[Nat.zero_add,List.getElem?_toArray]
 rw[Dv k];exact o
end
end
end Go.Ay
