/- Operands, rows, loads, stores, new blocks: the abstract machine's steps are the model's. -/
import Derived.Test.YtapfcpkecmmagaaGreatAy3
import Derived.ChangeKeysEq
namespace Go.Ay
open Go
section
variable {v:Value} {u:V} {vs ws us:List V} {off n b:Nat} {c:Array Value} {elem t:TypeId} {fr:Nat×Nat}
section
variable {P:Program} {m:M} {h:H} {w:World}
theorem gW {α β:Type}{f:α->Option β}: ∀{l:List α} {r:List β},cU (l.map f)=some r->r.length=l.length/\ ∀(i:Nat) (a:α),l[i]? =some a-> ∃b,r[i]? =some b/\f a=some b
 | [],r,h=>by simp [cU] at h;subst h;exact⟨rfl,λi a h=>by simp at h⟩
 |x::l,r,h=>by
  simp only[List.map_cons] at h
  cases hx:f x with
  |none=>simp [hx,cU] at h
  |some b=>
   simp only[hx,cU,jB] at h;obtain⟨j,g,rfl⟩:=h;obtain⟨d,e⟩:=gW g;refine⟨by simp [d],λi a hi=>?_⟩
   cases i with
   |zero=>simp at hi;subst hi;exact⟨b,rfl,hx⟩
   |succ i=>simpa using e i a (by simpa using hi)
theorem vV (m:M)(h:xO v=some u):VR m u v:=by
 unfold xO at h;split at h<;>first
  |(cases h;rfl)
  |skip
 ·rename_i s
  cases h;show Value.string s= .string ⟨((s.data.toList.map UInt8.toNat).map UInt8.ofNat).toArray⟩;rw[List.map_map,show (UInt8.ofNat∘UInt8.toNat)=id from funext λx=>by simp,List.map_id]
 ·rename_i f first a
  split at h
  ·rename_i d
   simp at d;cases h;obtain⟨rfl,rfl⟩:=d;exact⟨#[],#[],rfl,trivial,trivial⟩
  ·cases h
 ·cases h
theorem yG (m:M)(h:Dv v=some u):VR m u v:=by
 unfold Dv at h;split at h
 ·rename_i d
  simp only[jB] at h;obtain⟨r,o,rfl⟩:=h;obtain⟨j,k⟩:=gW o;refine⟨d,rfl,fL.iC (by simpa using j) (λi v f=>?_)⟩
  have a:i<d.toList.length:=by
   have:=(xQ.1 f).1;omega
  obtain⟨b,e,l⟩:=k i d.toList[i] (eX a);rw[f] at e;cases e;exact⟨_,eX a,vV m l⟩
 ·rename_i d
  split at h
  ·rename_i g;simp at g;subst g;cases h;exact VR.undef m
  ·cases h
 ·exact vV m h
theorem Bf (h:xO v=some u):u.one=true:=by
 unfold xO at h;split at h<;>first
  |(cases h;rfl)
  |skip
 ·split at h<;>cases h
  rfl
 ·cases h
theorem yP (h:Dv v=some u)(j:u≠ .tup []): ∀c∈u.cells,c.one=true:=by
 unfold Dv at h;split at h
 ·rename_i g
  simp only[jB] at h;obtain⟨r,o,rfl⟩:=h;obtain⟨e,k⟩:=gW o;intro c a;simp only[V.cells] at a;obtain⟨i,hi,rfl⟩:=List.getElem_of_mem a;have d:i<g.toList.length:=om
  obtain⟨b,f,l⟩:=k i g.toList[i] (eX d);rw[eX hi] at f;cases f;exact Bf l
 ·split at h<;>cases h
  exact absurd rfl j
 ·intro c a
  have e:=Bf h;cases u<;>simp [V.cells,V.one] at a e ⊢ <;>subst a<;>rfl
structure St (m:M)(nt:Nat)(pv defs:List Nat)(vars loc:List V)(a:Act):Prop where
 vars:iG m nt pv vars a.tmps
 loc:qK m pv defs loc a.tmps
variable {nt:Nat} {pv defs:List Nat} {vars loc:List V} {a:Act}
theorem aJ (s:St m nt pv defs vars loc a){o:Operand}{x:X}(h:fC pv defs o=some x):VR m (xv vars loc x) (a.eval o):=by
 cases o with
 |tmp t=>
  simp only[fC] at h
  cases hd:idx t defs with
  |some i=>simp only[hd] at h;cases h;exact s.loc.val t i hd
  |none=>
   simp only[hd,jB] at h;obtain⟨k,e,rfl⟩:=h;exact s.vars.val t k e
 |const v=>
  simp only[fC,jB] at h;obtain⟨u,d,rfl⟩:=h;exact yG m d
 |global g=>simp [fC] at h
 |func f=>simp only[fC] at h;cases h;exact⟨#[],#[],rfl,trivial,trivial⟩
theorem fP (s:St m nt pv defs vars loc a){e:List Operand}{xs:List X}(h:mL pv defs e=some xs):fL m (xs.map (xv vars loc)) (e.map a.eval):=by
 obtain⟨k,l⟩:=gW h;refine fL.iC (by simp [k]) (λi v g=>?_);simp only[Kt,jB] at g;obtain⟨x,j,rfl⟩:=g;have d:i<e.length:=by have:=(xQ.1 j).1;omega
 obtain⟨b,f,o⟩:=l i e[i] (eX d);rw[j] at f;cases f;exact⟨_,by simp [d],aJ s o⟩
theorem sub_eq (h:sub vs off n=some ws):ws=(vs.drop off).take n/\off+n<=vs.length/\ws.length=n:=by
 unfold sub at h;split at h
 ·rename_i d;cases h;refine⟨rfl,d,?_⟩;simp;omega
 ·cases h
theorem sF (q:HR P m h w){id:Nat}(d:h.row id off n=some ws):
  ∃p c elem fr,m id=some p/\w.heap[p.1]? =some (.cells c elem fr)/\c.size=p.2.2/\p.2.1+off+n<=c.size/\
   fL m ws ((c.toList.drop (p.2.1+off)).take n)/\(∀v∈ws,v.one=true):=by
 unfold H.row at d
 split at d
 ·rename_i z vs o
  obtain⟨rfl,k,s⟩:=sub_eq d
  obtain⟨p,r,c,elem,fr,j,l,A,f,y⟩:=q.live id _ o
  refine⟨p,c,elem,fr,r,j,l,om,fL.iC (by simp;omega) (λi v e=>?_),λv e=>?_⟩
  ·simp only[List.getElem?_take,List.getElem?_drop] at e ⊢
   split at e
   ·rename_i hi
    obtain⟨_,x,g,e⟩:=f _ v e
    refine⟨x,?_,e⟩
    rw[aV hi]
    rw[←Nat.add_assoc] at g
    simpa using g
   ·cases e
  ·obtain⟨i,hi,rfl⟩:=List.getElem_of_mem e
   have:=f (off+i) ((vs.drop off).take n)[i] (by
    rw[←eX]
    ·simp only[List.getElem?_take,List.getElem?_drop];rw[aV (by simp at hi;omega)]
     )
   exact this.1
 ·cases d
theorem aG {w:World}(d:w.heap[b]? =some (.cells c elem fr))(o:Nat):w.cell? ⟨b,o,none⟩=c[o]? :=by
 simp [World.cell?,d]
theorem iS (b o j:Nat):(⟨b,o,none⟩:Addr).add j=⟨b,o+j,none⟩:=by unfold Addr.add;split<;>simp_all
theorem Hz {w:World}(e:w.heap[b]? =some (.cells c elem fr))(o n:Nat):
  ∀j v,((c.toList.drop o).take n)[j]? =some v->w.cell? ((⟨b,o,none⟩:Addr).add j)=some v:=by
 intro j v d
 rw[iS,aG e]
 simp only[List.getElem?_take,List.getElem?_drop] at d
 split at d
 ·simpa using d
 ·cases d
theorem iX {w:World}(e:w.heap[b]? =some (.cells c elem fr)){o:Nat}(f:o+n<=c.size):
  (loadCells ⟨b,o,none⟩ n).run P w= .ok ((c.toList.drop o).take n).toArray w:=by
 have:=run_loadCells_list (P:=P) w ⟨b,o,none⟩ ((c.toList.drop o).take n) (Hz e o n)
 have d:((c.toList.drop o).take n).length=n:=by simp;omega
 rw[d] at this
 exact this
theorem mM {b:Bool}(h:Ez P t=some b):(isAgg t).run P w= .ok b w:=by
 unfold Ez at h;simp only[jB] at h;obtain⟨d,e,rfl⟩:=h;unfold isAgg;rw[Sem.run_bind,run_underlying e w];cases d<;>rfl
theorem eS (h:fX P t=some n):(sizeOf t).run P w= .ok n w:=by
 unfold fX at h;simp only[jB] at h;obtain⟨i,hi,rfl⟩:=h;simp [sizeOf,typeInfo,hi]
theorem Kc (o:HR P m h w){agg:Bool}(k:Ez P t=some agg)(g:(if agg then fX P t else some 1)=some n)
  {v:V} {x:Value} (s:VR m v x) (e:Yc h agg n v=some u): ∃y,(Instr.loadAt t x).run P w= .ok y w/\VR m u y:=by
 cases v<;>simp only[Yc] at e<;>try cases e
 rename_i id off
 obtain⟨p,r,rfl⟩:=s
 cases hrow:h.row id off n with
 |none=>simp [hrow] at e
 |some ws=>
  simp only[hrow] at e;obtain⟨z,c,elem,fr,f,j,q,i,d,_⟩:=sF o hrow;rw[r] at f;cases f
  cases agg with
  |true=>
   simp only[if_true] at e g;cases e;refine⟨_,?_,⟨_,rfl,d⟩⟩;simp [Instr.loadAt,Instr.sureAddr,loadVar,mM k,eS g,iX j i]
  |false=>
   simp only[Bool.false_eq_true,if_false] at e g;cases g;split at e
   ·cases e
    rename_i v
    cases hl:(c.toList.drop (p.2.1+off)).take 1 with
    |nil=>rw[hl] at d;exact d.elim
    |cons y ys=>
     rw[hl] at d;refine⟨y,?_,d.1⟩;have l:=Hz j (p.2.1+off) 1 0 y (by rw[hl];rfl);rw[iS,Nat.add_zero] at l;simp [Instr.loadAt,Instr.sureAddr,loadVar,mM k,l]
   ·cases e
theorem uG (h:putAt vs off ws=some us):us=vs.take off++ws++vs.drop (off+ws.length)/\off+ws.length<=vs.length:=by
 unfold putAt at h;split at h
 ·cases h;exact⟨rfl,by assumption⟩
 ·cases h
theorem Ge (h:putAt vs off ws=some us):us.length=vs.length:=by
 obtain⟨rfl,d⟩:=uG h;simp;omega
theorem Qu (h:putAt vs off ws=some us)(i:Nat):
  us[i]? =if i<off then vs[i]? else if i<off+ws.length then ws[i-off]? else vs[i]? :=by
 obtain⟨rfl,d⟩:=uG h
 have e:(vs.take off).length=off:=by simp;omega
 by_cases d:i<off
 ·rw[aV d,oH,vY om,List.getElem?_take,aV d]
 ·rw[aZ d]
  by_cases d:i<off+ws.length
  ·rw[aV d,oH,Dw om,e,vY om]
  ·rw[aZ d,Dw (by simp;omega),List.getElem?_drop]
   congr 1
   simp;omega
theorem Am (c:Array Value)(o:Nat)(xs:List Value)(e:o+xs.length<=c.size)(i:Nat):
  ((c.toList.take o++xs++c.toList.drop (o+xs.length)).toArray)[i]? =if i<o then c[i]? else if i<o+xs.length then xs[i-o]? else c[i]? :=by
 simp only[List.getElem?_toArray]
 have f:(c.toList.take o).length=o:=by simp;omega
 by_cases d:i<o
 ·rw[aV d,oH,vY om,List.getElem?_take,aV d];simp
 ·rw[aZ d]
  by_cases d:i<o+xs.length
  ·rw[aV d,oH,Dw om,f,vY om]
  ·rw[aZ d,Dw (by simp;omega),List.getElem?_drop]
   have:o+xs.length+(i-(c.toList.take o++xs).length)=i:=by simp;omega
   rw[this];simp
theorem vT (c:Array Value)(o:Nat)(xs:List Value)(d:o+xs.length<=c.size):((c.toList.take o++xs++c.toList.drop (o+xs.length)).toArray).size=c.size:=by
 simp;omega
theorem sK (z:HR P m h w)(Q:fK m h.next){id:Nat}{xs:List Value}{h':H}(j:h.put id off ws=some h')(o:fL m ws xs)(K: ∀v∈ws,v.one=true)
  {p:Nat×Nat×Nat} (N:m id=some p): ∃w',(storeCells ⟨p.1,p.2.1+off,none⟩ xs).run P w= .ok () w'/\fU P m h w m h' w':=by
 unfold H.put at j
 split at j
 ·rename_i vs L
  simp only[jB] at j
  obtain⟨us,f,rfl⟩:=j
  obtain⟨p',g,c,elem,fr,J,W,Y,F,R⟩:=z.live id _ L
  rw[N] at g;cases g
  have r:=R rfl
  subst r
  obtain⟨_,U⟩:=uG f
  have B:=fL.length o
  have s: ∀x∈xs,x.oneCell'=true:=by
   intro x Z;obtain⟨i,hi,rfl⟩:=List.getElem_of_mem Z;have k:i<ws.length:=om
   obtain⟨y,l,e⟩:=o.get (eX k);rw[eX hi] at l;cases l;exact e.one (K _ (wT k))
  have gY:=run_storeCells_at P p.1 (p.2.1+off) elem xs 0 c w J om s
  simp only[Nat.add_zero] at gY
  refine⟨_,gY,?_⟩
  have O:=setRow_heap w p.1 c (c.toList.take (p.2.1+off)++xs++c.toList.drop (p.2.1+off+xs.length)).toArray elem (0,0) J
  refine fU.put z Q L rfl rfl N ⟨_,elem,(0,0),O,?_,?_,λi v d=>?_,λ_=>rfl⟩ rfl rfl rfl (by simp) (λb q=>setRow_other w p.1 b _ q)
  ·rw[vT _ _ _ om];exact W
  ·rw[Ge f];exact Y
  ·rw[Qu f] at d
   rw[Am _ _ _ om]
   by_cases A:i<off
   ·rw[aV A] at d;rw[aV om];exact F i v d
   ·rw[aZ A] at d
    by_cases G:i<off+ws.length
    ·rw[aV G] at d
     rw[aZ om,aV om]
     obtain⟨y,l,e⟩:=o.get d
     refine⟨K v (Rm d),y,?_,e⟩
     rw[show p.2.1+i-(p.2.1+off)=i-off from om];exact l
    ·rw[aZ G] at d
     rw[aZ om,aZ om]
     exact F i v d
 ·cases j
theorem oZ (o:HR P m h w)(l:fK m h.next){xs:List Value}(j:List Value)(f:fL m ws xs)(k: ∀v∈ws,v.one=true)(elem:TypeId):
  fU P m h w (m.set h.next (w.heap.size,0,xs.length+j.length)) (h.new (.cells false ws)) (w.alloc (.cells (xs++j).toArray elem)):=by
 have d:=fL.length f
 refine fU.new o l _ _ _ (λg p _=>⟨_,elem,(0,0),heap_alloc_new w _,by simp,by simp [d],λi v e=>?_,λ_=>rfl⟩)
 refine⟨k v (Rm e),?_⟩
 obtain⟨y,g,d⟩:=f.get e
 refine⟨y,?_,VR.mono p _ _ d⟩
 have d:i<xs.length:=(xQ.1 g).1
 simp only[Nat.zero_add,List.getElem?_toArray]
 rw[vY d];exact g
end
end
end Go.Ay
