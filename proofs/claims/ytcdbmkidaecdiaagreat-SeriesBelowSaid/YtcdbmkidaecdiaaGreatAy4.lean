/- Operands, rows, loads, stores, new blocks: the abstract machine's steps are the model's. -/
import Derived.Test.YtcdbmkidaecdiaaGreatAy3
import Derived.ChangeKeysEq
namespace Go.Ay
open Go
section
variable {v:Value} {u:V} {vs ws us:List V} {off n b:Nat} {c:Array Value} {elem t:TypeId} {fr:Nat×Nat}
section
variable {P:Program} {m:M} {h:H} {w:World}
theorem jC {α β:Type}{f:α->Option β}: ∀{l:List α} {r:List β},dG (l.map f)=some r->r.length=l.length/\ ∀(i:Nat) (a:α),l[i]? =some a-> ∃b,r[i]? =some b/\f a=some b
 | [],r,h=>by simp [dG] at h;subst h;exact⟨rfl,λi a h=>by simp at h⟩
 |x::l,r,h=>by
  simp only[List.map_cons] at h
  cases hx:f x with
  |none=>simp [hx,dG] at h
  |some b=>
   simp only[hx,dG,oU] at h;obtain⟨o,j,rfl⟩:=h;obtain⟨d,k⟩:=jC j;refine⟨by simp [d],λi a hi=>?_⟩
   cases i with
   |zero=>simp at hi;subst hi;exact⟨b,rfl,hx⟩
   |succ i=>simpa using k i a (by simpa using hi)
theorem Ig (m:M)(h:Kl v=some u):VR m u v:=by
 unfold Kl at h;split at h<;>first
  |(cases h;rfl)
  |skip
 ·rename_i s
  cases h;show Value.string s= .string ⟨((s.data.toList.map UInt8.toNat).map UInt8.ofNat).toArray⟩;rw[List.map_map,show (UInt8.ofNat∘UInt8.toNat)=id from funext λx=>by simp,List.map_id]
 ·rename_i f first a
  split at h
  ·rename_i d
   simp at d;cases h;obtain⟨rfl,rfl⟩:=d;exact⟨#[],#[],rfl,trivial,trivial⟩
  ·cases h
 ·cases h
theorem Li (m:M)(h:Tt v=some u):VR m u v:=by
 unfold Tt at h;split at h
 ·rename_i cs
  simp only[oU] at h;obtain⟨r,l,rfl⟩:=h;obtain⟨k,o⟩:=jC l;refine⟨cs,rfl,iR.lI (by simpa using k) (λi v d=>?_)⟩
  have a:i<cs.toList.length:=by
   have:=(vJ.1 d).1;omega
  obtain⟨b,j,p⟩:=o i cs.toList[i] (dD a);rw[d] at j;cases j;exact⟨_,dD a,Ig m p⟩
 ·rename_i cs
  split at h
  ·rename_i f;simp at f;subst f;cases h;exact VR.undef m
  ·cases h
 ·exact Ig m h
theorem Qf (h:Kl v=some u):u.one=true:=by
 unfold Kl at h;split at h<;>first
  |(cases h;rfl)
  |skip
 ·split at h<;>cases h
  rfl
 ·cases h
theorem Mg (h:Tt v=some u)(k:u≠ .tup []): ∀c∈u.cells,c.one=true:=by
 unfold Tt at h;split at h
 ·rename_i cs
  simp only[oU] at h;obtain⟨r,l,rfl⟩:=h;obtain⟨f,o⟩:=jC l;intro c a;simp only[V.cells] at a;obtain⟨i,hi,rfl⟩:=List.getElem_of_mem a;have d:i<cs.toList.length:=om
  obtain⟨b,j,p⟩:=o i cs.toList[i] (dD d);rw[dD hi] at j;cases j;exact Qf p
 ·split at h<;>cases h
  exact absurd rfl k
 ·intro c a
  have f:=Qf h;cases u<;>simp [V.cells,V.one] at a f ⊢ <;>subst a<;>rfl
structure St (m:M)(nt:Nat)(pv defs:List Nat)(vars loc:List V)(a:Act):Prop where
 vars:jW m nt pv vars a.tmps
 loc:Dy m pv defs loc a.tmps
variable {nt:Nat} {pv defs:List Nat} {vars loc:List V} {a:Act}
theorem aQ (s:St m nt pv defs vars loc a){o:Operand}{x:X}(h:iM pv defs o=some x):VR m (xv vars loc x) (a.eval o):=by
 cases o with
 |tmp t=>
  simp only[iM] at h
  cases hd:idx t defs with
  |some i=>simp only[hd] at h;cases h;exact s.loc.val t i hd
  |none=>
   simp only[hd,oU] at h;obtain⟨k,d,rfl⟩:=h;exact s.vars.val t k d
 |const v=>
  simp only[iM,oU] at h;obtain⟨u,j,rfl⟩:=h;exact Li m j
 |global g=>simp [iM] at h
 |func f=>simp only[iM] at h;cases h;exact⟨#[],#[],rfl,trivial,trivial⟩
theorem tH (s:St m nt pv defs vars loc a){f:List Operand}{xs:List X}(h:Ew pv defs f=some xs):iR m (xs.map (xv vars loc)) (f.map a.eval):=by
 obtain⟨o,p⟩:=jC h;refine iR.lI (by simp [o]) (λi v k=>?_);simp only[Qy,oU] at k;obtain⟨x,j,rfl⟩:=k;have d:i<f.length:=by have:=(vJ.1 j).1;omega
 obtain⟨b,l,q⟩:=p i f[i] (dD d);rw[j] at l;cases l;exact⟨_,by simp [d],aQ s q⟩
theorem sub_eq (h:sub vs off n=some ws):ws=(vs.drop off).take n/\off+n<=vs.length/\ws.length=n:=by
 unfold sub at h;split at h
 ·rename_i d;cases h;refine⟨rfl,d,?_⟩;simp;omega
 ·cases h
theorem Cv (q:HR P m h w){id:Nat}(d:h.row id off n=some ws):
  ∃p c elem fr,m id=some p/\w.heap[p.1]? =some (.cells c elem fr)/\c.size=p.2.2/\p.2.1+off+n<=c.size/\
   iR m ws ((c.toList.drop (p.2.1+off)).take n)/\(∀v∈ws,v.one=true):=by
 unfold H.row at d
 split at d
 ·rename_i F vs y
  obtain⟨rfl,s,z⟩:=sub_eq d
  obtain⟨p,o,c,elem,fr,l,r,B,j,A⟩:=q.live id _ y
  refine⟨p,c,elem,fr,o,l,r,om,iR.lI (by simp;omega) (λi v f=>?_),λv f=>?_⟩
  ·simp only[List.getElem?_take,List.getElem?_drop] at f ⊢
   split at f
   ·rename_i hi
    obtain⟨_,x,k,f⟩:=j _ v f
    refine⟨x,?_,f⟩
    rw[bJ hi]
    rw[←Nat.add_assoc] at k
    simpa using k
   ·cases f
  ·obtain⟨i,hi,rfl⟩:=List.getElem_of_mem f
   have:=j (off+i) ((vs.drop off).take n)[i] (by
    rw[←dD]
    ·simp only[List.getElem?_take,List.getElem?_drop];rw[bJ (by simp at hi;omega)]
     )
   exact this.1
 ·cases d
theorem aF {w:World}(d:w.heap[b]? =some (.cells c elem fr))(o:Nat):w.cell? ⟨b,o,none⟩=c[o]? :=by
 simp [World.cell?,d]
theorem mD (b o j:Nat):(⟨b,o,none⟩:Addr).add j=⟨b,o+j,none⟩:=by unfold Addr.add;split<;>simp_all
theorem Zb {w:World}(f:w.heap[b]? =some (.cells c elem fr))(o n:Nat):
  ∀j v,((c.toList.drop o).take n)[j]? =some v->w.cell? ((⟨b,o,none⟩:Addr).add j)=some v:=by
 intro j v d
 rw[mD,aF f]
 simp only[List.getElem?_take,List.getElem?_drop] at d
 split at d
 ·simpa using d
 ·cases d
theorem lU {w:World}(d:w.heap[b]? =some (.cells c elem fr)){o:Nat}(i:o+n<=c.size):
  (loadCells ⟨b,o,none⟩ n).run P w= .ok ((c.toList.drop o).take n).toArray w:=by
 have:=run_loadCells_list (P:=P) w ⟨b,o,none⟩ ((c.toList.drop o).take n) (Zb d o n)
 have f:((c.toList.drop o).take n).length=n:=by simp;omega
 rw[f] at this
 exact this
theorem Ii {b:Bool}(h:Xg P t=some b):(isAgg t).run P w= .ok b w:=by
 unfold Xg at h;simp only[oU] at h;obtain⟨d,f,rfl⟩:=h;unfold isAgg;rw[Sem.run_bind,run_underlying f w];cases d<;>rfl
theorem iO (h:jL P t=some n):(sizeOf t).run P w= .ok n w:=by
 unfold jL at h;simp only[oU] at h;obtain⟨i,hi,rfl⟩:=h;simp [sizeOf,typeInfo,hi]
theorem BH (A:HR P m h w){agg:Bool}(o:Xg P t=some agg)(j:(if agg then jL P t else some 1)=some n)
  {v:V} {x:Value} (z:VR m v x) (f:YG h agg n v=some u): ∃y,(Instr.loadAt t x).run P w= .ok y w/\VR m u y:=by
 cases v<;>simp only[YG] at f<;>try cases f
 rename_i id off
 obtain⟨p,s,rfl⟩:=z
 cases hrow:h.row id off n with
 |none=>simp [hrow] at f
 |some ws=>
  simp only[hrow] at f;obtain⟨B,c,elem,fr,i,l,r,k,d,_⟩:=Cv A hrow;rw[s] at i;cases i
  cases agg with
  |true=>
   simp only[if_true] at f j;cases f;refine⟨_,?_,⟨_,rfl,d⟩⟩;simp [Instr.loadAt,Instr.sureAddr,loadVar,Ii o,iO j,lU l k]
  |false=>
   simp only[Bool.false_eq_true,if_false] at f j;cases j;split at f
   ·cases f
    rename_i v
    cases hl:(c.toList.drop (p.2.1+off)).take 1 with
    |nil=>rw[hl] at d;exact d.elim
    |cons y ys=>
     rw[hl] at d;refine⟨y,?_,d.1⟩;have q:=Zb l (p.2.1+off) 1 0 y (by rw[hl];rfl);rw[mD,Nat.add_zero] at q;simp [Instr.loadAt,Instr.sureAddr,loadVar,Ii o,q]
   ·cases f
theorem Hb (h:putAt vs off ws=some us):us=vs.take off++ws++vs.drop (off+ws.length)/\off+ws.length<=vs.length:=by
 unfold putAt at h;split at h
 ·cases h;exact⟨rfl,by assumption⟩
 ·cases h
theorem Wt (h:putAt vs off ws=some us):us.length=vs.length:=by
 obtain⟨rfl,d⟩:=Hb h;simp;omega
theorem MS (h:putAt vs off ws=some us)(i:Nat):
  us[i]? =if i<off then vs[i]? else if i<off+ws.length then ws[i-off]? else vs[i]? :=by
 obtain⟨rfl,j⟩:=Hb h
 have k:(vs.take off).length=off:=by simp;omega
 by_cases d:i<off
 ·rw[bJ d,Lz,Dt om,List.getElem?_take,bJ d]
 ·rw[bU d]
  by_cases f:i<off+ws.length
  ·rw[bJ f,Lz,Jg om,k,Dt om]
  ·rw[bU f,Jg (by simp;omega),List.getElem?_drop]
   congr 1
   simp;omega
theorem Nj (c:Array Value)(o:Nat)(xs:List Value)(k:o+xs.length<=c.size)(i:Nat):
  ((c.toList.take o++xs++c.toList.drop (o+xs.length)).toArray)[i]? =if i<o then c[i]? else if i<o+xs.length then xs[i-o]? else c[i]? :=by
 simp only[List.getElem?_toArray]
 have j:(c.toList.take o).length=o:=by simp;omega
 by_cases d:i<o
 ·rw[bJ d,Lz,Dt om,List.getElem?_take,bJ d];simp
 ·rw[bU d]
  by_cases f:i<o+xs.length
  ·rw[bJ f,Lz,Jg om,j,Dt om]
  ·rw[bU f,Jg (by simp;omega),List.getElem?_drop]
   have:o+xs.length+(i-(c.toList.take o++xs).length)=i:=by simp;omega
   rw[this];simp
theorem Iz (c:Array Value)(o:Nat)(xs:List Value)(d:o+xs.length<=c.size):((c.toList.take o++xs++c.toList.drop (o+xs.length)).toArray).size=c.size:=by
 simp;omega
theorem Dq (O:HR P m h w)(W:iY m h.next){id:Nat}{xs:List Value}{h':H}(k:h.put id off ws=some h')(A:iR m ws xs)(B: ∀v∈ws,v.one=true)
  {p:Nat×Nat×Nat} (L:m id=some p): ∃w',(storeCells ⟨p.1,p.2.1+off,none⟩ xs).run P w= .ok () w'/\jR P m h w m h' w':=by
 unfold H.put at k
 split at k
 ·rename_i vs K
  simp only[oU] at k
  obtain⟨us,j,rfl⟩:=k
  obtain⟨p',o,c,elem,fr,N,e2,Z,Q,e5⟩:=O.live id _ K
  rw[L] at o;cases o
  have r:=e5 rfl
  subst r
  obtain⟨_,U⟩:=Hb j
  have J:=iR.length A
  have s: ∀x∈xs,x.oneCell'=true:=by
   intro x Y;obtain⟨i,hi,rfl⟩:=List.getElem_of_mem Y;have l:i<ws.length:=om
   obtain⟨y,q,f⟩:=A.get (dD l);rw[dD hi] at q;cases q;exact f.one (B _ (xG l))
  have jI:=run_storeCells_at P p.1 (p.2.1+off) elem xs 0 c w N om s
  simp only[Nat.add_zero] at jI
  refine⟨_,jI,?_⟩
  have R:=setRow_heap w p.1 c (c.toList.take (p.2.1+off)++xs++c.toList.drop (p.2.1+off+xs.length)).toArray elem (0,0) N
  refine jR.put O W K rfl rfl L ⟨_,elem,(0,0),R,?_,?_,λi v d=>?_,λ_=>rfl⟩ rfl rfl rfl (by simp) (λb z=>setRow_other w p.1 b _ z)
  ·rw[Iz _ _ _ om];exact e2
  ·rw[Wt j];exact Z
  ·rw[MS j] at d
   rw[Nj _ _ _ om]
   by_cases F:i<off
   ·rw[bJ F] at d;rw[bJ om];exact Q i v d
   ·rw[bU F] at d
    by_cases G:i<off+ws.length
    ·rw[bJ G] at d
     rw[bU om,bJ om]
     obtain⟨y,q,f⟩:=A.get d
     refine⟨B v (Xu d),y,?_,f⟩
     rw[show p.2.1+i-(p.2.1+off)=i-off from om];exact q
    ·rw[bU G] at d
     rw[bU om,bU om]
     exact Q i v d
 ·cases k
theorem xU (r:HR P m h w)(x:iY m h.next){xs:List Value}(l:List Value)(p:iR m ws xs)(q: ∀v∈ws,v.one=true)(elem:TypeId):
  jR P m h w (m.set h.next (w.heap.size,0,xs.length+l.length)) (h.new (.cells false ws)) (w.alloc (.cells (xs++l).toArray elem)):=by
 have f:=iR.length p
 refine jR.new r x _ _ _ (λz s _=>⟨_,elem,(0,0),heap_alloc_new w _,by simp,by simp [f],λi v d=>?_,λ_=>rfl⟩)
 refine⟨q v (Xu d),?_⟩
 obtain⟨y,o,j⟩:=p.get d
 refine⟨y,?_,VR.mono s _ _ j⟩
 have k:i<xs.length:=(vJ.1 o).1
 simp only[Nat.zero_add,List.getElem?_toArray]
 rw[Dt k];exact o
end
end
end Go.Ay
