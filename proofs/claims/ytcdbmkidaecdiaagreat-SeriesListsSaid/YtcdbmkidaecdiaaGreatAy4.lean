/- Operands, rows, loads, stores, new blocks: the abstract machine's steps are the model's. -/
import Derived.Test.YtcdbmkidaecdiaaGreatAy3
import Derived.ChangeKeysEq
namespace Go.Ay
open Go
section
variable {v:Value} {u:V} {vs ws us:List V} {off n b:Nat} {c:Array Value} {elem t:TypeId} {fr:Nat×Nat}
section
variable {P:Program} {m:M} {h:H} {w:World}
theorem iO {α β:Type}{f:α->Option β}: ∀{l:List α} {r:List β},cI (l.map f)=some r->r.length=l.length/\ ∀(i:Nat) (a:α),l[i]? =some a-> ∃b,r[i]? =some b/\f a=some b
 | [],r,h=>by simp [cI] at h;subst h;exact⟨rfl,λi a h=>by simp at h⟩
 |x::l,r,h=>by
  simp only[List.map_cons] at h
  cases hx:f x with
  |none=>simp [hx,cI] at h
  |some b=>
   simp only[hx,cI,lT] at h;obtain⟨j,g,rfl⟩:=h;obtain⟨d,e⟩:=iO g;refine⟨by simp [d],λi a hi=>?_⟩
   cases i with
   |zero=>simp at hi;subst hi;exact⟨b,rfl,hx⟩
   |succ i=>simpa using e i a (by simpa using hi)
theorem He (m:M)(h:Jx v=some u):VR m u v:=by
 unfold Jx at h;split at h<;>first
  |(cases h;rfl)
  |skip
 ·rename_i s
  cases h;show Value.string s= .string ⟨((s.data.toList.map UInt8.toNat).map UInt8.ofNat).toArray⟩;rw[List.map_map,show (UInt8.ofNat∘UInt8.toNat)=id from funext λx=>by simp,List.map_id]
 ·rename_i f first a
  split at h
  ·rename_i d
   simp at d;cases h;obtain⟨rfl,rfl⟩:=d;exact⟨#[],#[],rfl,trivial,trivial⟩
  ·cases h
 ·cases h
theorem Kr (m:M)(h:Sw v=some u):VR m u v:=by
 unfold Sw at h;split at h
 ·rename_i d
  simp only[lT] at h;obtain⟨r,o,rfl⟩:=h;obtain⟨j,l⟩:=iO o;refine⟨d,rfl,gJ.kH (by simpa using j) (λi v f=>?_)⟩
  have a:i<d.toList.length:=by
   have:=(zG.1 f).1;omega
  obtain⟨b,g,k⟩:=l i d.toList[i] (dF a);rw[f] at g;cases g;exact⟨_,dF a,He m k⟩
 ·rename_i d
  split at h
  ·rename_i e;simp at e;subst e;cases h;exact VR.undef m
  ·cases h
 ·exact He m h
theorem Nz (h:Jx v=some u):u.one=true:=by
 unfold Jx at h;split at h<;>first
  |(cases h;rfl)
  |skip
 ·split at h<;>cases h
  rfl
 ·cases h
theorem Lj (h:Sw v=some u)(l:u≠ .tup []): ∀c∈u.cells,c.one=true:=by
 unfold Sw at h;split at h
 ·rename_i g
  simp only[lT] at h;obtain⟨r,o,rfl⟩:=h;obtain⟨e,k⟩:=iO o;intro c a;simp only[V.cells] at a;obtain⟨i,hi,rfl⟩:=List.getElem_of_mem a;have d:i<g.toList.length:=om
  obtain⟨b,f,j⟩:=k i g.toList[i] (dF d);rw[dF hi] at f;cases f;exact Nz j
 ·split at h<;>cases h
  exact absurd rfl l
 ·intro c a
  have e:=Nz h;cases u<;>simp [V.cells,V.one] at a e ⊢ <;>subst a<;>rfl
structure St (m:M)(nt:Nat)(pv defs:List Nat)(vars loc:List V)(a:Act):Prop where
 vars:jA m nt pv vars a.tmps
 loc:xT m pv defs loc a.tmps
variable {nt:Nat} {pv defs:List Nat} {vars loc:List V} {a:Act}
theorem aJ (s:St m nt pv defs vars loc a){o:Operand}{x:X}(h:fL pv defs o=some x):VR m (xv vars loc x) (a.eval o):=by
 cases o with
 |tmp t=>
  simp only[fL] at h
  cases hd:idx t defs with
  |some i=>simp only[hd] at h;cases h;exact s.loc.val t i hd
  |none=>
   simp only[hd,lT] at h;obtain⟨k,d,rfl⟩:=h;exact s.vars.val t k d
 |const v=>
  simp only[fL,lT] at h;obtain⟨u,e,rfl⟩:=h;exact Kr m e
 |global g=>simp [fL] at h
 |func f=>simp only[fL] at h;cases h;exact⟨#[],#[],rfl,trivial,trivial⟩
theorem gY (s:St m nt pv defs vars loc a){e:List Operand}{xs:List X}(h:rO pv defs e=some xs):gJ m (xs.map (xv vars loc)) (e.map a.eval):=by
 obtain⟨k,o⟩:=iO h;refine gJ.kH (by simp [k]) (λi v f=>?_);simp only[Wy,lT] at f;obtain⟨x,j,rfl⟩:=f;have d:i<e.length:=by have:=(zG.1 j).1;omega
 obtain⟨b,g,l⟩:=o i e[i] (dF d);rw[j] at g;cases g;exact⟨_,by simp [d],aJ s l⟩
theorem sub_eq (h:sub vs off n=some ws):ws=(vs.drop off).take n/\off+n<=vs.length/\ws.length=n:=by
 unfold sub at h;split at h
 ·rename_i d;cases h;refine⟨rfl,d,?_⟩;simp;omega
 ·cases h
theorem Bt (j:HR P m h w){id:Nat}(d:h.row id off n=some ws):
  ∃p c elem fr,m id=some p/\w.heap[p.1]? =some (.cells c elem fr)/\c.size=p.2.2/\p.2.1+off+n<=c.size/\
   gJ m ws ((c.toList.drop (p.2.1+off)).take n)/\(∀v∈ws,v.one=true):=by
 unfold H.row at d
 split at d
 ·rename_i y vs q
  obtain⟨rfl,o,s⟩:=sub_eq d
  obtain⟨p,l,c,elem,fr,k,r,A,g,z⟩:=j.live id _ q
  refine⟨p,c,elem,fr,l,k,r,om,gJ.kH (by simp;omega) (λi v e=>?_),λv e=>?_⟩
  ·simp only[List.getElem?_take,List.getElem?_drop] at e ⊢
   split at e
   ·rename_i hi
    obtain⟨_,x,f,e⟩:=g _ v e
    refine⟨x,?_,e⟩
    rw[bJ hi]
    rw[←Nat.add_assoc] at f
    simpa using f
   ·cases e
  ·obtain⟨i,hi,rfl⟩:=List.getElem_of_mem e
   have:=g (off+i) ((vs.drop off).take n)[i] (by
    rw[←dF]
    ·simp only[List.getElem?_take,List.getElem?_drop];rw[bJ (by simp at hi;omega)]
     )
   exact this.1
 ·cases d
theorem aF {w:World}(d:w.heap[b]? =some (.cells c elem fr))(o:Nat):w.cell? ⟨b,o,none⟩=c[o]? :=by
 simp [World.cell?,d]
theorem jW (b o j:Nat):(⟨b,o,none⟩:Addr).add j=⟨b,o+j,none⟩:=by unfold Addr.add;split<;>simp_all
theorem BG {w:World}(e:w.heap[b]? =some (.cells c elem fr))(o n:Nat):
  ∀j v,((c.toList.drop o).take n)[j]? =some v->w.cell? ((⟨b,o,none⟩:Addr).add j)=some v:=by
 intro j v d
 rw[jW,aF e]
 simp only[List.getElem?_take,List.getElem?_drop] at d
 split at d
 ·simpa using d
 ·cases d
theorem kM {w:World}(d:w.heap[b]? =some (.cells c elem fr)){o:Nat}(f:o+n<=c.size):
  (loadCells ⟨b,o,none⟩ n).run P w= .ok ((c.toList.drop o).take n).toArray w:=by
 have:=run_loadCells_list (P:=P) w ⟨b,o,none⟩ ((c.toList.drop o).take n) (BG d o n)
 have e:((c.toList.drop o).take n).length=n:=by simp;omega
 rw[e] at this
 exact this
theorem sM {b:Bool}(h:Sd P t=some b):(isAgg t).run P w= .ok b w:=by
 unfold Sd at h;simp only[lT] at h;obtain⟨d,e,rfl⟩:=h;unfold isAgg;rw[Sem.run_bind,run_underlying e w];cases d<;>rfl
theorem fE (h:iG P t=some n):(sizeOf t).run P w= .ok n w:=by
 unfold iG at h;simp only[lT] at h;obtain⟨i,hi,rfl⟩:=h;simp [sizeOf,typeInfo,hi]
theorem AS (s:HR P m h w){agg:Bool}(l:Sd P t=some agg)(g:(if agg then iG P t else some 1)=some n)
  {v:V} {x:Value} (r:VR m v x) (e:RV h agg n v=some u): ∃y,(Instr.loadAt t x).run P w= .ok y w/\VR m u y:=by
 cases v<;>simp only[RV] at e<;>try cases e
 rename_i id off
 obtain⟨p,q,rfl⟩:=r
 cases hrow:h.row id off n with
 |none=>simp [hrow] at e
 |some ws=>
  simp only[hrow] at e;obtain⟨z,c,elem,fr,f,k,o,i,d,_⟩:=Bt s hrow;rw[q] at f;cases f
  cases agg with
  |true=>
   simp only[if_true] at e g;cases e;refine⟨_,?_,⟨_,rfl,d⟩⟩;simp [Instr.loadAt,Instr.sureAddr,loadVar,sM l,fE g,kM k i]
  |false=>
   simp only[Bool.false_eq_true,if_false] at e g;cases g;split at e
   ·cases e
    rename_i v
    cases hl:(c.toList.drop (p.2.1+off)).take 1 with
    |nil=>rw[hl] at d;exact d.elim
    |cons y ys=>
     rw[hl] at d;refine⟨y,?_,d.1⟩;have j:=BG k (p.2.1+off) 1 0 y (by rw[hl];rfl);rw[jW,Nat.add_zero] at j;simp [Instr.loadAt,Instr.sureAddr,loadVar,sM l,j]
   ·cases e
theorem Ge (h:putAt vs off ws=some us):us=vs.take off++ws++vs.drop (off+ws.length)/\off+ws.length<=vs.length:=by
 unfold putAt at h;split at h
 ·cases h;exact⟨rfl,by assumption⟩
 ·cases h
theorem Xa (h:putAt vs off ws=some us):us.length=vs.length:=by
 obtain⟨rfl,d⟩:=Ge h;simp;omega
theorem KZ (h:putAt vs off ws=some us)(i:Nat):
  us[i]? =if i<off then vs[i]? else if i<off+ws.length then ws[i-off]? else vs[i]? :=by
 obtain⟨rfl,f⟩:=Ge h
 have g:(vs.take off).length=off:=by simp;omega
 by_cases d:i<off
 ·rw[bJ d,rS,Ej om,List.getElem?_take,bJ d]
 ·rw[bL d]
  by_cases e:i<off+ws.length
  ·rw[bJ e,rS,Eb om,g,Ej om]
  ·rw[bL e,Eb (by simp;omega),List.getElem?_drop]
   congr 1
   simp;omega
theorem Oo (c:Array Value)(o:Nat)(xs:List Value)(f:o+xs.length<=c.size)(i:Nat):
  ((c.toList.take o++xs++c.toList.drop (o+xs.length)).toArray)[i]? =if i<o then c[i]? else if i<o+xs.length then xs[i-o]? else c[i]? :=by
 simp only[List.getElem?_toArray]
 have g:(c.toList.take o).length=o:=by simp;omega
 by_cases d:i<o
 ·rw[bJ d,rS,Ej om,List.getElem?_take,bJ d];simp
 ·rw[bL d]
  by_cases e:i<o+xs.length
  ·rw[bJ e,rS,Eb om,g,Ej om]
  ·rw[bL e,Eb (by simp;omega),List.getElem?_drop]
   have:o+xs.length+(i-(c.toList.take o++xs).length)=i:=by simp;omega
   rw[this];simp
theorem Hm (c:Array Value)(o:Nat)(xs:List Value)(d:o+xs.length<=c.size):((c.toList.take o++xs++c.toList.drop (o+xs.length)).toArray).size=c.size:=by
 simp;omega
theorem Cc (N:HR P m h w)(Y:fW m h.next){id:Nat}{xs:List Value}{h':H}(j:h.put id off ws=some h')(s:gJ m ws xs)(A: ∀v∈ws,v.one=true)
  {p:Nat×Nat×Nat} (F:m id=some p): ∃w',(storeCells ⟨p.1,p.2.1+off,none⟩ xs).run P w= .ok () w'/\iC P m h w m h' w':=by
 unfold H.put at j
 split at j
 ·rename_i vs K
  simp only[lT] at j
  obtain⟨us,f,rfl⟩:=j
  obtain⟨p',g,c,elem,fr,z,Q,W,G,R⟩:=N.live id _ K
  rw[F] at g;cases g
  have q:=R rfl
  subst q
  obtain⟨_,U⟩:=Ge f
  have B:=gJ.length s
  have o: ∀x∈xs,x.oneCell'=true:=by
   intro x Z;obtain⟨i,hi,rfl⟩:=List.getElem_of_mem Z;have k:i<ws.length:=om
   obtain⟨y,l,e⟩:=s.get (dF k);rw[dF hi] at l;cases l;exact e.one (A _ (Bu k))
  have iB:=run_storeCells_at P p.1 (p.2.1+off) elem xs 0 c w z om o
  simp only[Nat.add_zero] at iB
  refine⟨_,iB,?_⟩
  have O:=setRow_heap w p.1 c (c.toList.take (p.2.1+off)++xs++c.toList.drop (p.2.1+off+xs.length)).toArray elem (0,0) z
  refine iC.put N Y K rfl rfl F ⟨_,elem,(0,0),O,?_,?_,λi v d=>?_,λ_=>rfl⟩ rfl rfl rfl (by simp) (λb r=>setRow_other w p.1 b _ r)
  ·rw[Hm _ _ _ om];exact Q
  ·rw[Xa f];exact W
  ·rw[KZ f] at d
   rw[Oo _ _ _ om]
   by_cases J:i<off
   ·rw[bJ J] at d;rw[bJ om];exact G i v d
   ·rw[bL J] at d
    by_cases L:i<off+ws.length
    ·rw[bJ L] at d
     rw[bL om,bJ om]
     obtain⟨y,l,e⟩:=s.get d
     refine⟨A v (EV d),y,?_,e⟩
     rw[show p.2.1+i-(p.2.1+off)=i-off from om];exact l
    ·rw[bL L] at d
     rw[bL om,bL om]
     exact G i v d
 ·cases j
theorem wU (r:HR P m h w)(p:fW m h.next){xs:List Value}(k:List Value)(j:gJ m ws xs)(o: ∀v∈ws,v.one=true)(elem:TypeId):
  iC P m h w (m.set h.next (w.heap.size,0,xs.length+k.length)) (h.new (.cells false ws)) (w.alloc (.cells (xs++k).toArray elem)):=by
 have e:=gJ.length j
 refine iC.new r p _ _ _ (λs q _=>⟨_,elem,(0,0),heap_alloc_new w _,by simp,by simp [e],λi v d=>?_,λ_=>rfl⟩)
 refine⟨o v (EV d),?_⟩
 obtain⟨y,l,f⟩:=j.get d
 refine⟨y,?_,VR.mono q _ _ f⟩
 have g:i<xs.length:=(zG.1 l).1
 simp only[Nat.zero_add,List.getElem?_toArray]
 rw[Ej g];exact l
end
end
end Go.Ay
