/- Operands, rows, loads, stores, new blocks: the abstract machine's steps are the model's. -/
import Derived.Test.YtcdbmkidaecdiaaGreatAy3
import Derived.ChangeKeysEq
namespace Go.Ay
open Go
section
variable {v:Value} {u:V} {vs ws us:List V} {off n b:Nat} {c:Array Value} {elem t:TypeId} {fr:Nat×Nat}
section
variable {P:Program} {m:M} {h:H} {w:World}
theorem jC {α β:Type}{f:α->Option β}: ∀{l:List α} {r:List β},dG (l.map f)=some r->r.length=l.length/\ ∀(i:Nat) (a:α),l[i]? =some a-> ∃b,r[i]? =some b/\f a=some b
 | [],r,h=>by simp [dG] at h;subst h;exact⟨rfl,λi a h=>by simp at h⟩
 |x::l,r,h=>by
  simp only[List.map_cons] at h
  cases hx:f x with
  |none=>simp [hx,dG] at h
  |some b=>
   simp only[hx,dG,oU] at h;obtain⟨j,g,rfl⟩:=h;obtain⟨d,e⟩:=jC g;refine⟨by simp [d],λi a hi=>?_⟩
   cases i with
   |zero=>simp at hi;subst hi;exact⟨b,rfl,hx⟩
   |succ i=>simpa using e i a (by simpa using hi)
theorem Ig (m:M)(h:Kl v=some u):VR m u v:=by
 unfold Kl at h;split at h<;>first
  |(cases h;rfl)
  |skip
 ·rename_i s
  cases h;show Value.string s= .string ⟨((s.data.toList.map UInt8.toNat).map UInt8.ofNat).toArray⟩;rw[List.map_map,show (UInt8.ofNat∘UInt8.toNat)=id from funext λx=>by simp,List.map_id]
 ·rename_i f first a
  split at h
  ·rename_i d
   simp at d;cases h;obtain⟨rfl,rfl⟩:=d;exact⟨#[],#[],rfl,trivial,trivial⟩
  ·cases h
 ·cases h
theorem Li (m:M)(h:Tt v=some u):VR m u v:=by
 unfold Tt at h;split at h
 ·rename_i d
  simp only[oU] at h;obtain⟨r,l,rfl⟩:=h;obtain⟨j,k⟩:=jC l;refine⟨d,rfl,iR.eM (by simpa using j) (λi v e=>?_)⟩
  have a:i<d.toList.length:=by
   have:=(vJ.1 e).1;omega
  obtain⟨b,f,o⟩:=k i d.toList[i] (dD a);rw[e] at f;cases f;exact⟨_,dD a,Ig m o⟩
 ·rename_i d
  split at h
  ·rename_i g;simp at g;subst g;cases h;exact VR.undef m
  ·cases h
 ·exact Ig m h
theorem Qf (h:Kl v=some u):u.one=true:=by
 unfold Kl at h;split at h<;>first
  |(cases h;rfl)
  |skip
 ·split at h<;>cases h
  rfl
 ·cases h
theorem Mg (h:Tt v=some u)(o:u≠ .tup []): ∀c∈u.cells,c.one=true:=by
 unfold Tt at h;split at h
 ·rename_i f
  simp only[oU] at h;obtain⟨r,k,rfl⟩:=h;obtain⟨e,j⟩:=jC k;intro c a;simp only[V.cells] at a;obtain⟨i,hi,rfl⟩:=List.getElem_of_mem a;have d:i<f.toList.length:=om
  obtain⟨b,g,l⟩:=j i f.toList[i] (dD d);rw[dD hi] at g;cases g;exact Qf l
 ·split at h<;>cases h
  exact absurd rfl o
 ·intro c a
  have e:=Qf h;cases u<;>simp [V.cells,V.one] at a e ⊢ <;>subst a<;>rfl
structure St (m:M)(nt:Nat)(pv defs:List Nat)(vars loc:List V)(a:Act):Prop where
 vars:jW m nt pv vars a.tmps
 loc:Dy m pv defs loc a.tmps
variable {nt:Nat} {pv defs:List Nat} {vars loc:List V} {a:Act}
theorem aQ (s:St m nt pv defs vars loc a){o:Operand}{x:X}(h:iM pv defs o=some x):VR m (xv vars loc x) (a.eval o):=by
 cases o with
 |tmp t=>
  simp only[iM] at h
  cases hd:idx t defs with
  |some i=>simp only[hd] at h;cases h;exact s.loc.val t i hd
  |none=>
   simp only[hd,oU] at h;obtain⟨k,d,rfl⟩:=h;exact s.vars.val t k d
 |const v=>
  simp only[iM,oU] at h;obtain⟨u,e,rfl⟩:=h;exact Li m e
 |global g=>simp [iM] at h
 |func f=>simp only[iM] at h;cases h;exact⟨#[],#[],rfl,trivial,trivial⟩
theorem tH (s:St m nt pv defs vars loc a){e:List Operand}{xs:List X}(h:Ew pv defs e=some xs):iR m (xs.map (xv vars loc)) (e.map a.eval):=by
 obtain⟨k,l⟩:=jC h;refine iR.eM (by simp [k]) (λi v f=>?_);simp only[Qy,oU] at f;obtain⟨x,j,rfl⟩:=f;have d:i<e.length:=by have:=(vJ.1 j).1;omega
 obtain⟨b,g,o⟩:=l i e[i] (dD d);rw[j] at g;cases g;exact⟨_,by simp [d],aQ s o⟩
theorem sub_eq (h:sub vs off n=some ws):ws=(vs.drop off).take n/\off+n<=vs.length/\ws.length=n:=by
 unfold sub at h;split at h
 ·rename_i d;cases h;refine⟨rfl,d,?_⟩;simp;omega
 ·cases h
theorem Cv (r:HR P m h w){id:Nat}(d:h.row id off n=some ws):
  ∃p c elem fr,m id=some p/\w.heap[p.1]? =some (.cells c elem fr)/\c.size=p.2.2/\p.2.1+off+n<=c.size/\
   iR m ws ((c.toList.drop (p.2.1+off)).take n)/\(∀v∈ws,v.one=true):=by
 unfold H.row at d
 split at d
 ·rename_i y vs q
  obtain⟨rfl,o,z⟩:=sub_eq d
  obtain⟨p,k,c,elem,fr,j,l,s,g,A⟩:=r.live id _ q
  refine⟨p,c,elem,fr,k,j,l,om,iR.eM (by simp;omega) (λi v e=>?_),λv e=>?_⟩
  ·simp only[List.getElem?_take,List.getElem?_drop] at e ⊢
   split at e
   ·rename_i hi
    obtain⟨_,x,f,e⟩:=g _ v e
    refine⟨x,?_,e⟩
    rw[bJ hi]
    rw[←Nat.add_assoc] at f
    simpa using f
   ·cases e
  ·obtain⟨i,hi,rfl⟩:=List.getElem_of_mem e
   have:=g (off+i) ((vs.drop off).take n)[i] (by
    rw[←dD]
    ·simp only[List.getElem?_take,List.getElem?_drop];rw[bJ (by simp at hi;omega)]
     )
   exact this.1
 ·cases d
theorem cell_of {w:World}(d:w.heap[b]? =some (.cells c elem fr))(o:Nat):w.cell? ⟨b,o,none⟩=c[o]? :=by
 simp [World.cell?,d]
theorem mD (b o j:Nat):(⟨b,o,none⟩:Addr).add j=⟨b,o+j,none⟩:=by unfold Addr.add;split<;>simp_all
theorem Zb {w:World}(e:w.heap[b]? =some (.cells c elem fr))(o n:Nat):
  ∀j v,((c.toList.drop o).take n)[j]? =some v->w.cell? ((⟨b,o,none⟩:Addr).add j)=some v:=by
 intro j v d
 rw[mD,cell_of e]
 simp only[List.getElem?_take,List.getElem?_drop] at d
 split at d
 ·simpa using d
 ·cases d
theorem lU {w:World}(e:w.heap[b]? =some (.cells c elem fr)){o:Nat}(f:o+n<=c.size):
  (loadCells ⟨b,o,none⟩ n).run P w= .ok ((c.toList.drop o).take n).toArray w:=by
 have:=run_loadCells_list (P:=P) w ⟨b,o,none⟩ ((c.toList.drop o).take n) (Zb e o n)
 have d:((c.toList.drop o).take n).length=n:=by simp;omega
 rw[d] at this
 exact this
theorem Ii {b:Bool}(h:Xg P t=some b):(isAgg t).run P w= .ok b w:=by
 unfold Xg at h;simp only[oU] at h;obtain⟨d,e,rfl⟩:=h;unfold isAgg;rw[Sem.run_bind,run_underlying e w];cases d<;>rfl
theorem iO (h:jL P t=some n):(sizeOf t).run P w= .ok n w:=by
 unfold jL at h;simp only[oU] at h;obtain⟨i,hi,rfl⟩:=h;simp [sizeOf,typeInfo,hi]
theorem BH (r:HR P m h w){agg:Bool}(j:Xg P t=some agg)(g:(if agg then jL P t else some 1)=some n)
  {v:V} {x:Value} (q:VR m v x) (e:YG h agg n v=some u): ∃y,(Instr.loadAt t x).run P w= .ok y w/\VR m u y:=by
 cases v<;>simp only[YG] at e<;>try cases e
 rename_i id off
 obtain⟨p,o,rfl⟩:=q
 cases hrow:h.row id off n with
 |none=>simp [hrow] at e
 |some ws=>
  simp only[hrow] at e;obtain⟨z,c,elem,fr,f,k,s,i,d,_⟩:=Cv r hrow;rw[o] at f;cases f
  cases agg with
  |true=>
   simp only[if_true] at e g;cases e;refine⟨_,?_,⟨_,rfl,d⟩⟩;simp [Instr.loadAt,Instr.sureAddr,loadVar,Ii j,iO g,lU k i]
  |false=>
   simp only[Bool.false_eq_true,if_false] at e g;cases g;split at e
   ·cases e
    rename_i v
    cases hl:(c.toList.drop (p.2.1+off)).take 1 with
    |nil=>rw[hl] at d;exact d.elim
    |cons y ys=>
     rw[hl] at d;refine⟨y,?_,d.1⟩;have l:=Zb k (p.2.1+off) 1 0 y (by rw[hl];rfl);rw[mD,Nat.add_zero] at l;simp [Instr.loadAt,Instr.sureAddr,loadVar,Ii j,l]
   ·cases e
theorem Hb (h:putAt vs off ws=some us):us=vs.take off++ws++vs.drop (off+ws.length)/\off+ws.length<=vs.length:=by
 unfold putAt at h;split at h
 ·cases h;exact⟨rfl,by assumption⟩
 ·cases h
theorem Wt (h:putAt vs off ws=some us):us.length=vs.length:=by
 obtain⟨rfl,d⟩:=Hb h;simp;omega
theorem MS (h:putAt vs off ws=some us)(i:Nat):
  us[i]? =if i<off then vs[i]? else if i<off+ws.length then ws[i-off]? else vs[i]? :=by
 obtain⟨rfl,g⟩:=Hb h
 have f:(vs.take off).length=off:=by simp;omega
 by_cases d:i<off
 ·rw[bJ d,Lz,Dt om,List.getElem?_take,bJ d]
 ·rw[bU d]
  by_cases e:i<off+ws.length
  ·rw[bJ e,Lz,Jg om,f,Dt om]
  ·rw[bU e,Jg (by simp;omega),List.getElem?_drop]
   congr 1
   simp;omega
theorem Nj (c:Array Value)(o:Nat)(xs:List Value)(f:o+xs.length<=c.size)(i:Nat):
  ((c.toList.take o++xs++c.toList.drop (o+xs.length)).toArray)[i]? =if i<o then c[i]? else if i<o+xs.length then xs[i-o]? else c[i]? :=by
 simp only[List.getElem?_toArray]
 have g:(c.toList.take o).length=o:=by simp;omega
 by_cases d:i<o
 ·rw[bJ d,Lz,Dt om,List.getElem?_take,bJ d];simp
 ·rw[bU d]
  by_cases e:i<o+xs.length
  ·rw[bJ e,Lz,Jg om,g,Dt om]
  ·rw[bU e,Jg (by simp;omega),List.getElem?_drop]
   have:o+xs.length+(i-(c.toList.take o++xs).length)=i:=by simp;omega
   rw[this];simp
theorem Iz (c:Array Value)(o:Nat)(xs:List Value)(d:o+xs.length<=c.size):((c.toList.take o++xs++c.toList.drop (o+xs.length)).toArray).size=c.size:=by
 simp;omega
theorem Dq (B:HR P m h w)(O:iY m h.next){id:Nat}{xs:List Value}{h':H}(g:h.put id off ws=some h')(q:iR m ws xs)(z: ∀v∈ws,v.one=true)
  {p:Nat×Nat×Nat} (L:m id=some p): ∃w',(storeCells ⟨p.1,p.2.1+off,none⟩ xs).run P w= .ok () w'/\jR P m h w m h' w':=by
 unfold H.put at g
 split at g
 ·rename_i vs K
  simp only[oU] at g
  obtain⟨us,e,rfl⟩:=g
  obtain⟨p',k,c,elem,fr,F,Y,R,A,W⟩:=B.live id _ K
  rw[L] at k;cases k
  have s:=W rfl
  subst s
  obtain⟨_,U⟩:=Hb e
  have J:=iR.length q
  have r: ∀x∈xs,x.oneCell'=true:=by
   intro x Q;obtain⟨i,hi,rfl⟩:=List.getElem_of_mem Q;have j:i<ws.length:=om
   obtain⟨y,l,f⟩:=q.get (dD j);rw[dD hi] at l;cases l;exact f.one (z _ (xG j))
  have jI:=run_storeCells_at P p.1 (p.2.1+off) elem xs 0 c w F om r
  simp only[Nat.add_zero] at jI
  refine⟨_,jI,?_⟩
  have Z:=setRow_heap w p.1 c (c.toList.take (p.2.1+off)++xs++c.toList.drop (p.2.1+off+xs.length)).toArray elem (0,0) F
  refine jR.put B O K rfl rfl L ⟨_,elem,(0,0),Z,?_,?_,λi v d=>?_,λ_=>rfl⟩ rfl rfl rfl (by simp) (λb o=>setRow_other w p.1 b _ o)
  ·rw[Iz _ _ _ om];exact Y
  ·rw[Wt e];exact R
  ·rw[MS e] at d
   rw[Nj _ _ _ om]
   by_cases N:i<off
   ·rw[bJ N] at d;rw[bJ om];exact A i v d
   ·rw[bU N] at d
    by_cases G:i<off+ws.length
    ·rw[bJ G] at d
     rw[bU om,bJ om]
     obtain⟨y,l,f⟩:=q.get d
     refine⟨z v (Xu d),y,?_,f⟩
     rw[show p.2.1+i-(p.2.1+off)=i-off from om];exact l
    ·rw[bU G] at d
     rw[bU om,bU om]
     exact A i v d
 ·cases g
theorem xU (q:HR P m h w)(r:iY m h.next){xs:List Value}(l:List Value)(j:iR m ws xs)(p: ∀v∈ws,v.one=true)(elem:TypeId):
  jR P m h w (m.set h.next (w.heap.size,0,xs.length+l.length)) (h.new (.cells false ws)) (w.alloc (.cells (xs++l).toArray elem)):=by
 have e:=iR.length j
 refine jR.new q r _ _ _ (λs o _=>⟨_,elem,(0,0),heap_alloc_new w _,by simp,by simp [e],λi v d=>?_,λ_=>rfl⟩)
 refine⟨p v (Xu d),?_⟩
 obtain⟨y,k,g⟩:=j.get d
 refine⟨y,?_,VR.mono o _ _ g⟩
 have f:i<xs.length:=(vJ.1 k).1
 simp only[Nat.zero_add,List.getElem?_toArray]
 rw[Dt f];exact k
end
end
end Go.Ay
