/- Operands, rows, loads, stores, new blocks: the abstract machine's steps are the model's. -/
import Derived.Test.YtapfcpkecmmagaaGreatAy3
import Derived.ChangeKeysEq
namespace Go.Ay
open Go
section
variable {v:Value} {u:V} {vs ws us:List V} {off n b:Nat} {c:Array Value} {elem t:TypeId} {fr:Nat×Nat}
section
variable {P:Program} {m:M} {h:H} {w:World}
theorem gO {α β:Type}{f:α->Option β}: ∀{l:List α} {r:List β},cV (l.map f)=some r->r.length=l.length/\ ∀(i:Nat) (a:α),l[i]? =some a-> ∃b,r[i]? =some b/\f a=some b
 | [],r,h=>by simp [cV] at h;subst h;exact⟨rfl,λi a h=>by simp at h⟩
 |x::l,r,h=>by
  simp only[List.map_cons] at h
  cases hx:f x with
  |none=>simp [hx,cV] at h
  |some b=>
   simp only[hx,cV,jA] at h;obtain⟨j,g,rfl⟩:=h;obtain⟨d,e⟩:=gO g;refine⟨by simp [d],λi a hi=>?_⟩
   cases i with
   |zero=>simp at hi;subst hi;exact⟨b,rfl,hx⟩
   |succ i=>simpa using e i a (by simpa using hi)
theorem vN (m:M)(h:xE v=some u):VR m u v:=by
 unfold xE at h;split at h<;>first
  |(cases h;rfl)
  |skip
 ·rename_i s
  cases h;show Value.string s= .string ⟨((s.data.toList.map UInt8.toNat).map UInt8.ofNat).toArray⟩;rw[List.map_map,show (UInt8.ofNat∘UInt8.toNat)=id from funext λx=>by simp,List.map_id]
 ·rename_i f first a
  split at h
  ·rename_i d
   simp at d;cases h;obtain⟨rfl,rfl⟩:=d;exact⟨#[],#[],rfl,trivial,trivial⟩
  ·cases h
 ·cases h
theorem yQ (m:M)(h:Dt v=some u):VR m u v:=by
 unfold Dt at h;split at h
 ·rename_i d
  simp only[jA] at h;obtain⟨r,l,rfl⟩:=h;obtain⟨j,o⟩:=gO l;refine⟨d,rfl,fP.iC (by simpa using j) (λi v g=>?_)⟩
  have a:i<d.toList.length:=by
   have:=(xI.1 g).1;omega
  obtain⟨b,f,k⟩:=o i d.toList[i] (eV a);rw[g] at f;cases f;exact⟨_,eV a,vN m k⟩
 ·rename_i d
  split at h
  ·rename_i e;simp at e;subst e;cases h;exact VR.undef m
  ·cases h
 ·exact vN m h
theorem Ac (h:xE v=some u):u.one=true:=by
 unfold xE at h;split at h<;>first
  |(cases h;rfl)
  |skip
 ·split at h<;>cases h
  rfl
 ·cases h
theorem zD (h:Dt v=some u)(k:u≠ .tup []): ∀c∈u.cells,c.one=true:=by
 unfold Dt at h;split at h
 ·rename_i g
  simp only[jA] at h;obtain⟨r,l,rfl⟩:=h;obtain⟨e,o⟩:=gO l;intro c a;simp only[V.cells] at a;obtain⟨i,hi,rfl⟩:=List.getElem_of_mem a;have d:i<g.toList.length:=om
  obtain⟨b,f,j⟩:=o i g.toList[i] (eV d);rw[eV hi] at f;cases f;exact Ac j
 ·split at h<;>cases h
  exact absurd rfl k
 ·intro c a
  have e:=Ac h;cases u<;>simp [V.cells,V.one] at a e ⊢ <;>subst a<;>rfl
structure St (m:M)(nt:Nat)(pv defs:List Nat)(vars loc:List V)(a:Act):Prop where
 vars:iG m nt pv vars a.tmps
 loc:qS m pv defs loc a.tmps
variable {nt:Nat} {pv defs:List Nat} {vars loc:List V} {a:Act}
theorem aJ (s:St m nt pv defs vars loc a){o:Operand}{x:X}(h:fC pv defs o=some x):VR m (xv vars loc x) (a.eval o):=by
 cases o with
 |tmp t=>
  simp only[fC] at h
  cases hd:idx t defs with
  |some i=>simp only[hd] at h;cases h;exact s.loc.val t i hd
  |none=>
   simp only[hd,jA] at h;obtain⟨k,d,rfl⟩:=h;exact s.vars.val t k d
 |const v=>
  simp only[fC,jA] at h;obtain⟨u,e,rfl⟩:=h;exact yQ m e
 |global g=>simp [fC] at h
 |func f=>simp only[fC] at h;cases h;exact⟨#[],#[],rfl,trivial,trivial⟩
theorem fR (s:St m nt pv defs vars loc a){e:List Operand}{xs:List X}(h:mI pv defs e=some xs):fP m (xs.map (xv vars loc)) (e.map a.eval):=by
 obtain⟨k,o⟩:=gO h;refine fP.iC (by simp [k]) (λi v j=>?_);simp only[Lc,jA] at j;obtain⟨x,g,rfl⟩:=j;have d:i<e.length:=by have:=(xI.1 g).1;omega
 obtain⟨b,f,l⟩:=o i e[i] (eV d);rw[g] at f;cases f;exact⟨_,by simp [d],aJ s l⟩
theorem sub_eq (h:sub vs off n=some ws):ws=(vs.drop off).take n/\off+n<=vs.length/\ws.length=n:=by
 unfold sub at h;split at h
 ·rename_i d;cases h;refine⟨rfl,d,?_⟩;simp;omega
 ·cases h
theorem sH (k:HR P m h w){id:Nat}(d:h.row id off n=some ws):
  ∃p c elem fr,m id=some p/\w.heap[p.1]? =some (.cells c elem fr)/\c.size=p.2.2/\p.2.1+off+n<=c.size/\
   fP m ws ((c.toList.drop (p.2.1+off)).take n)/\(∀v∈ws,v.one=true):=by
 unfold H.row at d
 split at d
 ·rename_i y vs o
  obtain⟨rfl,j,A⟩:=sub_eq d
  obtain⟨p,l,c,elem,fr,q,r,z,g,s⟩:=k.live id _ o
  refine⟨p,c,elem,fr,l,q,r,om,fP.iC (by simp;omega) (λi v e=>?_),λv e=>?_⟩
  ·simp only[List.getElem?_take,List.getElem?_drop] at e ⊢
   split at e
   ·rename_i hi
    obtain⟨_,x,f,e⟩:=g _ v e
    refine⟨x,?_,e⟩
    rw[aV hi]
    rw[←Nat.add_assoc] at f
    simpa using f
   ·cases e
  ·obtain⟨i,hi,rfl⟩:=List.getElem_of_mem e
   have:=g (off+i) ((vs.drop off).take n)[i] (by
    rw[←eV]
    ·simp only[List.getElem?_take,List.getElem?_drop];rw[aV (by simp at hi;omega)]
     )
   exact this.1
 ·cases d
theorem aG {w:World}(d:w.heap[b]? =some (.cells c elem fr))(o:Nat):w.cell? ⟨b,o,none⟩=c[o]? :=by
 simp [World.cell?,d]
theorem iU (b o j:Nat):(⟨b,o,none⟩:Addr).add j=⟨b,o+j,none⟩:=by unfold Addr.add;split<;>simp_all
theorem Ie {w:World}(e:w.heap[b]? =some (.cells c elem fr))(o n:Nat):
  ∀j v,((c.toList.drop o).take n)[j]? =some v->w.cell? ((⟨b,o,none⟩:Addr).add j)=some v:=by
 intro j v d
 rw[iU,aG e]
 simp only[List.getElem?_take,List.getElem?_drop] at d
 split at d
 ·simpa using d
 ·cases d
theorem iY {w:World}(e:w.heap[b]? =some (.cells c elem fr)){o:Nat}(f:o+n<=c.size):
  (loadCells ⟨b,o,none⟩ n).run P w= .ok ((c.toList.drop o).take n).toArray w:=by
 have:=run_loadCells_list (P:=P) w ⟨b,o,none⟩ ((c.toList.drop o).take n) (Ie e o n)
 have d:((c.toList.drop o).take n).length=n:=by simp;omega
 rw[d] at this
 exact this
theorem mK {b:Bool}(h:Eh P t=some b):(isAgg t).run P w= .ok b w:=by
 unfold Eh at h;simp only[jA] at h;obtain⟨d,e,rfl⟩:=h;unfold isAgg;rw[Sem.run_bind,run_underlying e w];cases d<;>rfl
theorem eQ (h:gE P t=some n):(sizeOf t).run P w= .ok n w:=by
 unfold gE at h;simp only[jA] at h;obtain⟨i,hi,rfl⟩:=h;simp [sizeOf,typeInfo,hi]
theorem Je (q:HR P m h w){agg:Bool}(k:Eh P t=some agg)(g:(if agg then gE P t else some 1)=some n)
  {v:V} {x:Value} (o:VR m v x) (e:Wa h agg n v=some u): ∃y,(Instr.loadAt t x).run P w= .ok y w/\VR m u y:=by
 cases v<;>simp only[Wa] at e<;>try cases e
 rename_i id off
 obtain⟨p,r,rfl⟩:=o
 cases hrow:h.row id off n with
 |none=>simp [hrow] at e
 |some ws=>
  simp only[hrow] at e;obtain⟨z,c,elem,fr,f,l,s,i,d,_⟩:=sH q hrow;rw[r] at f;cases f
  cases agg with
  |true=>
   simp only[if_true] at e g;cases e;refine⟨_,?_,⟨_,rfl,d⟩⟩;simp [Instr.loadAt,Instr.sureAddr,loadVar,mK k,eQ g,iY l i]
  |false=>
   simp only[Bool.false_eq_true,if_false] at e g;cases g;split at e
   ·cases e
    rename_i v
    cases hl:(c.toList.drop (p.2.1+off)).take 1 with
    |nil=>rw[hl] at d;exact d.elim
    |cons y ys=>
     rw[hl] at d;refine⟨y,?_,d.1⟩;have j:=Ie l (p.2.1+off) 1 0 y (by rw[hl];rfl);rw[iU,Nat.add_zero] at j;simp [Instr.loadAt,Instr.sureAddr,loadVar,mK k,j]
   ·cases e
theorem vU (h:putAt vs off ws=some us):us=vs.take off++ws++vs.drop (off+ws.length)/\off+ws.length<=vs.length:=by
 unfold putAt at h;split at h
 ·cases h;exact⟨rfl,by assumption⟩
 ·cases h
theorem Ha (h:putAt vs off ws=some us):us.length=vs.length:=by
 obtain⟨rfl,d⟩:=vU h;simp;omega
theorem Tg (h:putAt vs off ws=some us)(i:Nat):
  us[i]? =if i<off then vs[i]? else if i<off+ws.length then ws[i-off]? else vs[i]? :=by
 obtain⟨rfl,d⟩:=vU h
 have e:(vs.take off).length=off:=by simp;omega
 by_cases d:i<off
 ·rw[aV d,oF,wE om,List.getElem?_take,aV d]
 ·rw[aZ d]
  by_cases d:i<off+ws.length
  ·rw[aV d,oF,Cq om,e,wE om]
  ·rw[aZ d,Cq (by simp;omega),List.getElem?_drop]
   congr 1
   simp;omega
theorem Bj (c:Array Value)(o:Nat)(xs:List Value)(e:o+xs.length<=c.size)(i:Nat):
  ((c.toList.take o++xs++c.toList.drop (o+xs.length)).toArray)[i]? =if i<o then c[i]? else if i<o+xs.length then xs[i-o]? else c[i]? :=by
 simp only[List.getElem?_toArray]
 have f:(c.toList.take o).length=o:=by simp;omega
 by_cases d:i<o
 ·rw[aV d,oF,wE om,List.getElem?_take,aV d];simp
 ·rw[aZ d]
  by_cases d:i<o+xs.length
  ·rw[aV d,oF,Cq om,f,wE om]
  ·rw[aZ d,Cq (by simp;omega),List.getElem?_drop]
   have:o+xs.length+(i-(c.toList.take o++xs).length)=i:=by simp;omega
   rw[this];simp
theorem uM (c:Array Value)(o:Nat)(xs:List Value)(d:o+xs.length<=c.size):((c.toList.take o++xs++c.toList.drop (o+xs.length)).toArray).size=c.size:=by
 simp;omega
theorem sP (K:HR P m h w)(R:fL m h.next){id:Nat}{xs:List Value}{h':H}(j:h.put id off ws=some h')(q:fP m ws xs)(N: ∀v∈ws,v.one=true)
  {p:Nat×Nat×Nat} (L:m id=some p): ∃w',(storeCells ⟨p.1,p.2.1+off,none⟩ xs).run P w= .ok () w'/\fY P m h w m h' w':=by
 unfold H.put at j
 split at j
 ·rename_i vs B
  simp only[jA] at j
  obtain⟨us,e,rfl⟩:=j
  obtain⟨p',g,c,elem,fr,J,U,Q,F,O⟩:=K.live id _ B
  rw[L] at g;cases g
  have r:=O rfl
  subst r
  obtain⟨_,W⟩:=vU e
  have z:=fP.length q
  have o: ∀x∈xs,x.oneCell'=true:=by
   intro x Y;obtain⟨i,hi,rfl⟩:=List.getElem_of_mem Y;have k:i<ws.length:=om
   obtain⟨y,l,f⟩:=q.get (eV k);rw[eV hi] at l;cases l;exact f.one (N _ (xR k))
  have iA:=run_storeCells_at P p.1 (p.2.1+off) elem xs 0 c w J om o
  simp only[Nat.add_zero] at iA
  refine⟨_,iA,?_⟩
  have Z:=setRow_heap w p.1 c (c.toList.take (p.2.1+off)++xs++c.toList.drop (p.2.1+off+xs.length)).toArray elem (0,0) J
  refine fY.put K R B rfl rfl L ⟨_,elem,(0,0),Z,?_,?_,λi v d=>?_,λ_=>rfl⟩ rfl rfl rfl (by simp) (λb s=>setRow_other w p.1 b _ s)
  ·rw[uM _ _ _ om];exact U
  ·rw[Ha e];exact Q
  ·rw[Tg e] at d
   rw[Bj _ _ _ om]
   by_cases A:i<off
   ·rw[aV A] at d;rw[aV om];exact F i v d
   ·rw[aZ A] at d
    by_cases G:i<off+ws.length
    ·rw[aV G] at d
     rw[aZ om,aV om]
     obtain⟨y,l,f⟩:=q.get d
     refine⟨N v (Sg d),y,?_,f⟩
     rw[show p.2.1+i-(p.2.1+off)=i-off from om];exact l
    ·rw[aZ G] at d
     rw[aZ om,aZ om]
     exact F i v d
 ·cases j
theorem pP (p:HR P m h w)(l:fL m h.next){xs:List Value}(g:List Value)(j:fP m ws xs)(k: ∀v∈ws,v.one=true)(elem:TypeId):
  fY P m h w (m.set h.next (w.heap.size,0,xs.length+g.length)) (h.new (.cells false ws)) (w.alloc (.cells (xs++g).toArray elem)):=by
 have d:=fP.length j
 refine fY.new p l _ _ _ (λf o _=>⟨_,elem,(0,0),heap_alloc_new w _,by simp,by simp [d],λi v e=>?_,λ_=>rfl⟩)
 refine⟨k v (Sg e),?_⟩
 obtain⟨y,f,d⟩:=j.get e
 refine⟨y,?_,VR.mono o _ _ d⟩
 have d:i<xs.length:=(xI.1 f).1
 simp only[Nat.zero_add,List.getElem?_toArray]
 rw[wE d];exact f
end
end
end Go.Ay
