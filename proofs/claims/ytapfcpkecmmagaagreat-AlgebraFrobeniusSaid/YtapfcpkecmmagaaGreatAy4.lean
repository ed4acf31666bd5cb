/- Operands, rows, loads, stores, new blocks: the abstract machine's steps are the model's. -/
import Derived.Test.YtapfcpkecmmagaaGreatAy3
import Derived.ChangeKeysEq
namespace Go.Ay
open Go
section
variable {v:Value} {u:V} {vs ws us:List V} {off n b:Nat} {c:Array Value} {elem t:TypeId} {fr:Nat×Nat}
section
variable {P:Program} {m:M} {h:H} {w:World}
theorem fE {α β:Type}{f:α->Option β}: ∀{l:List α} {r:List β},bY (l.map f)=some r->r.length=l.length/\ ∀(i:Nat) (a:α),l[i]? =some a-> ∃b,r[i]? =some b/\f a=some b
 | [],r,h=>by simp [bY] at h;subst h;exact⟨rfl,λi a h=>by simp at h⟩
 |x::l,r,h=>by
  simp only[List.map_cons] at h
  cases hx:f x with
  |none=>simp [hx,bY] at h
  |some b=>
   simp only[hx,bY,gJ] at h;obtain⟨r',hr,rfl⟩:=h;obtain⟨h1,h2⟩:=fE hr;refine⟨by simp [h1],λi a hi=>?_⟩
   cases i with
   |zero=>simp at hi;subst hi;exact⟨b,rfl,hx⟩
   |succ i=>simpa using h2 i a (by simpa using hi)
theorem rO (m:M)(h:tK v=some u):VR m u v:=by
 unfold tK at h;split at h<;>first
  |(cases h;rfl)
  |skip
 ·rename_i s
  cases h;show Value.string s= .string ⟨((s.data.toList.map UInt8.toNat).map UInt8.ofNat).toArray⟩;rw[List.map_map,show (UInt8.ofNat∘UInt8.toNat)=id from funext λx=>by simp,List.map_id]
 ·rename_i f first captured
  split at h
  ·rename_i hc
   simp at hc;cases h;obtain⟨rfl,rfl⟩:=hc;exact⟨#[],#[],rfl,trivial,trivial⟩
  ·cases h
 ·cases h
theorem uC (m:M)(h:yZ v=some u):VR m u v:=by
 unfold yZ at h;split at h
 ·rename_i cs
  simp only[gJ] at h;obtain⟨r,hr,rfl⟩:=h;obtain⟨h1,h2⟩:=fE hr;refine⟨cs,rfl,eG.iS (by simpa using h1) (λi v hv=>?_)⟩
  have hlt:i<cs.toList.length:=by
   have:=(List.getElem?_eq_some_iff.1 hv).1;omega
  obtain⟨b,hb,hf⟩:=h2 i cs.toList[i] (eQ hlt);rw[hv] at hb;cases hb;exact⟨_,eQ hlt,rO m hf⟩
 ·rename_i cs
  split at h
  ·rename_i hc;simp at hc;subst hc;cases h;exact VR.undef m
  ·cases h
 ·exact rO m h
theorem uT (h:tK v=some u):u.one=true:=by
 unfold tK at h;split at h<;>first
  |(cases h;rfl)
  |skip
 ·split at h<;>cases h
  rfl
 ·cases h
theorem uG (h:yZ v=some u)(hz:u≠ .tup []): ∀c∈u.cells,c.one=true:=by
 unfold yZ at h;split at h
 ·rename_i cs
  simp only[gJ] at h;obtain⟨r,hr,rfl⟩:=h;obtain⟨h1,h2⟩:=fE hr;intro c hc;simp only[V.cells] at hc;obtain⟨i,hi,rfl⟩:=List.getElem_of_mem hc;have hlt:i<cs.toList.length:=by omega
  obtain⟨b,hb,hf⟩:=h2 i cs.toList[i] (eQ hlt);rw[eQ hi] at hb;cases hb;exact uT hf
 ·split at h<;>cases h
  exact absurd rfl hz
 ·intro c hc
  have h1:=uT h;cases u<;>simp [V.cells,V.one] at hc h1 ⊢ <;>subst hc<;>rfl
structure St (m:M)(nt:Nat)(pv defs:List Nat)(vars loc:List V)(a:Act):Prop where
 vars:fL m nt pv vars a.tmps
 loc:nW m pv defs loc a.tmps
variable {nt:Nat} {pv defs:List Nat} {vars loc:List V} {a:Act}
theorem aG (s:St m nt pv defs vars loc a){o:Operand}{x:X}(h:dW pv defs o=some x):VR m (xv vars loc x) (a.eval o):=by
 cases o with
 |tmp t=>
  simp only[dW] at h
  cases hd:idx t defs with
  |some i=>simp only[hd] at h;cases h;exact s.loc.val t i hd
  |none=>
   simp only[hd,gJ] at h;obtain⟨k,hk,rfl⟩:=h;exact s.vars.val t k hk
 |const v=>
  simp only[dW,gJ] at h;obtain⟨u,hu,rfl⟩:=h;exact uC m hu
 |global g=>simp [dW] at h
 |func f=>simp only[dW] at h;cases h;exact⟨#[],#[],rfl,trivial,trivial⟩
theorem eM (s:St m nt pv defs vars loc a){os:List Operand}{xs:List X}(h:kO pv defs os=some xs):eG m (xs.map (xv vars loc)) (os.map a.eval):=by
 obtain⟨h1,h2⟩:=fE h;refine eG.iS (by simp [h1]) (λi v hv=>?_);simp only[List.getElem?_map,gJ] at hv;obtain⟨x,hx,rfl⟩:=hv;have hlt:i<os.length:=by have:=(List.getElem?_eq_some_iff.1 hx).1;omega
 obtain⟨b,hb,hf⟩:=h2 i os[i] (eQ hlt);rw[hx] at hb;cases hb;exact⟨_,by simp [hlt],aG s hf⟩
theorem sub_eq (h:sub vs off n=some ws):ws=(vs.drop off).take n/\off+n<=vs.length/\ws.length=n:=by
 unfold sub at h;split at h
 ·rename_i hle;cases h;refine⟨rfl,hle,?_⟩;simp;omega
 ·cases h
theorem pZ (hr:HR P m h w){id:Nat}(hrow:h.row id off n=some ws):
  ∃p c elem fr,m id=some p/\w.heap[p.1]? =some (.cells c elem fr)/\c.size=p.2.2/\p.2.1+off+n<=c.size/\
   eG m ws ((c.toList.drop (p.2.1+off)).take n)/\(∀v∈ws,v.one=true):=by
 unfold H.row at hrow
 split at hrow
 ·rename_i ro vs hg
  obtain⟨rfl,hle,hl⟩:=sub_eq hrow
  obtain⟨p,hp,c,elem,fr,h1,h2,h3,h4,h5⟩:=hr.live id _ hg
  refine⟨p,c,elem,fr,hp,h1,h2,by omega,eG.iS (by simp;omega) (λi v hv=>?_),λv hv=>?_⟩
  ·simp only[List.getElem?_take,List.getElem?_drop] at hv ⊢
   split at hv
   ·rename_i hi
    obtain⟨_,x,hx,hv⟩:=h4 _ v hv
    refine⟨x,?_,hv⟩
    rw[if_pos hi]
    rw[←Nat.add_assoc] at hx
    simpa using hx
   ·cases hv
  ·obtain⟨i,hi,rfl⟩:=List.getElem_of_mem hv
   have:=h4 (off+i) ((vs.drop off).take n)[i] (by
    rw[←eQ]
    ·simp only[List.getElem?_take,List.getElem?_drop];rw[if_pos (by simp at hi;omega)]
     )
   exact this.1
 ·cases hrow
theorem aF {w:World}(hb:w.heap[b]? =some (.cells c elem fr))(o:Nat):w.cell? ⟨b,o,none⟩=c[o]? :=by
 simp [World.cell?,hb]
theorem fX (b o j:Nat):(⟨b,o,none⟩:Addr).add j=⟨b,o+j,none⟩:=by unfold Addr.add;split<;>simp_all
theorem Cw {w:World}(hb:w.heap[b]? =some (.cells c elem fr))(o n:Nat):
  ∀j v,((c.toList.drop o).take n)[j]? =some v->w.cell? ((⟨b,o,none⟩:Addr).add j)=some v:=by
 intro j v hj
 rw[fX,aF hb]
 simp only[List.getElem?_take,List.getElem?_drop] at hj
 split at hj
 ·simpa using hj
 ·cases hj
theorem gG {w:World}(hb:w.heap[b]? =some (.cells c elem fr)){o:Nat}(hn:o+n<=c.size):
  (loadCells ⟨b,o,none⟩ n).run P w= .ok ((c.toList.drop o).take n).toArray w:=by
 have:=run_loadCells_list (P:=P) w ⟨b,o,none⟩ ((c.toList.drop o).take n) (Cw hb o n)
 have hl:((c.toList.drop o).take n).length=n:=by simp;omega
 rw[hl] at this
 exact this
theorem kX {b:Bool}(h:yG P t=some b):(isAgg t).run P w= .ok b w:=by
 unfold yG at h;simp only[gJ] at h;obtain⟨d,hd,rfl⟩:=h;unfold isAgg;rw[Sem.run_bind,run_underlying hd w];cases d<;>rfl
theorem dR (h:eU P t=some n):(sizeOf t).run P w= .ok n w:=by
 unfold eU at h;simp only[gJ] at h;obtain⟨i,hi,rfl⟩:=h;simp [sizeOf,typeInfo,hi]
theorem Cx (hr:HR P m h w){agg:Bool}(ha:yG P t=some agg)(hn:(if agg then eU P t else some 1)=some n)
  {v:V} {x:Value} (hx:VR m v x) (he:Pl h agg n v=some u): ∃y,(Instr.loadAt t x).run P w= .ok y w/\VR m u y:=by
 cases v<;>simp only[Pl] at he<;>try cases he
 rename_i id off
 obtain⟨p,hp,rfl⟩:=hx
 cases hrow:h.row id off n with
 |none=>simp [hrow] at he
 |some ws=>
  simp only[hrow] at he;obtain⟨p',c,elem,fr,hp',hb,hcs,hle,hvr,_⟩:=pZ hr hrow;rw[hp] at hp';cases hp'
  cases agg with
  |true=>
   simp only[if_true] at he hn;cases he;refine⟨_,?_,⟨_,rfl,hvr⟩⟩;simp [Instr.loadAt,Instr.sureAddr,loadVar,kX ha,dR hn,gG hb hle]
  |false=>
   simp only[Bool.false_eq_true,if_false] at he hn;cases hn;split at he
   ·cases he
    rename_i v
    cases hl:(c.toList.drop (p.2.1+off)).take 1 with
    |nil=>rw[hl] at hvr;exact hvr.elim
    |cons y ys=>
     rw[hl] at hvr;refine⟨y,?_,hvr.1⟩;have hc:=Cw hb (p.2.1+off) 1 0 y (by rw[hl];rfl);rw[fX,Nat.add_zero] at hc;simp [Instr.loadAt,Instr.sureAddr,loadVar,kX ha,hc]
   ·cases he
theorem rN (h:putAt vs off ws=some us):us=vs.take off++ws++vs.drop (off+ws.length)/\off+ws.length<=vs.length:=by
 unfold putAt at h;split at h
 ·cases h;exact⟨rfl,by assumption⟩
 ·cases h
theorem Ad (h:putAt vs off ws=some us):us.length=vs.length:=by
 obtain⟨rfl,hle⟩:=rN h;simp;omega
theorem La (h:putAt vs off ws=some us)(i:Nat):
  us[i]? =if i<off then vs[i]? else if i<off+ws.length then ws[i-off]? else vs[i]? :=by
 obtain⟨rfl,hle⟩:=rN h
 have ht:(vs.take off).length=off:=by simp;omega
 by_cases h1:i<off
 ·rw[if_pos h1,List.append_assoc,wY (by omega),List.getElem?_take,if_pos h1]
 ·rw[if_neg h1]
  by_cases h2:i<off+ws.length
  ·rw[if_pos h2,List.append_assoc,List.getElem?_append_right (by omega),ht,wY (by omega)]
  ·rw[if_neg h2,List.getElem?_append_right (by simp;omega),List.getElem?_drop]
   congr 1
   simp;omega
theorem wG (c:Array Value)(o:Nat)(xs:List Value)(hle:o+xs.length<=c.size)(i:Nat):
  ((c.toList.take o++xs++c.toList.drop (o+xs.length)).toArray)[i]? =if i<o then c[i]? else if i<o+xs.length then xs[i-o]? else c[i]? :=by
 simp only[List.getElem?_toArray]
 have ht:(c.toList.take o).length=o:=by simp;omega
 by_cases h1:i<o
 ·rw[if_pos h1,List.append_assoc,wY (by omega),List.getElem?_take,if_pos h1];simp
 ·rw[if_neg h1]
  by_cases h2:i<o+xs.length
  ·rw[if_pos h2,List.append_assoc,List.getElem?_append_right (by omega),ht,wY (by omega)]
  ·rw[if_neg h2,List.getElem?_append_right (by simp;omega),List.getElem?_drop]
   have:o+xs.length+(i-(c.toList.take o++xs).length)=i:=by simp;omega
   rw[this];simp
theorem rW (c:Array Value)(o:Nat)(xs:List Value)(hle:o+xs.length<=c.size):((c.toList.take o++xs++c.toList.drop (o+xs.length)).toArray).size=c.size:=by
 simp;omega
theorem qB (hr:HR P m h w)(hf:eD m h.next){id:Nat}{xs:List Value}{h':H}(hp:h.put id off ws=some h')(hv:eG m ws xs)(h1: ∀v∈ws,v.one=true)
  {p:Nat×Nat×Nat} (hm:m id=some p): ∃w',(storeCells ⟨p.1,p.2.1+off,none⟩ xs).run P w= .ok () w'/\eS P m h w m h' w':=by
 unfold H.put at hp
 split at hp
 ·rename_i vs hg
  simp only[gJ] at hp
  obtain⟨us,hus,rfl⟩:=hp
  obtain⟨p',hp',c,elem,fr,e1,e2,e3,e4,e5⟩:=hr.live id _ hg
  rw[hm] at hp';cases hp'
  have hfr:=e5 rfl
  subst hfr
  obtain⟨_,hle⟩:=rN hus
  have hlen:=eG.length hv
  have hx1: ∀x∈xs,x.oneCell'=true:=by
   intro x hx;obtain⟨i,hi,rfl⟩:=List.getElem_of_mem hx;have hwi:i<ws.length:=by omega
   obtain⟨y,hy,hvy⟩:=hv.get (eQ hwi);rw[eQ hi] at hy;cases hy;exact hvy.one (h1 _ (List.getElem_mem hwi))
  have fG:=run_storeCells_at P p.1 (p.2.1+off) elem xs 0 c w e1 (by omega) hx1
  simp only[Nat.add_zero] at fG
  refine⟨_,fG,?_⟩
  have hb:=setRow_heap w p.1 c (c.toList.take (p.2.1+off)++xs++c.toList.drop (p.2.1+off+xs.length)).toArray elem (0,0) e1
  refine eS.put hr hf hg rfl rfl hm ⟨_,elem,(0,0),hb,?_,?_,λi v hv'=>?_,λ_=>rfl⟩ rfl rfl rfl (by simp) (λb hne=>setRow_other w p.1 b _ hne)
  ·rw[rW _ _ _ (by omega)];exact e2
  ·rw[Ad hus];exact e3
  ·rw[La hus] at hv'
   rw[wG _ _ _ (by omega)]
   by_cases c1:i<off
   ·rw[if_pos c1] at hv';rw[if_pos (by omega)];exact e4 i v hv'
   ·rw[if_neg c1] at hv'
    by_cases c2:i<off+ws.length
    ·rw[if_pos c2] at hv'
     rw[if_neg (by omega),if_pos (by omega)]
     obtain⟨y,hy,hvy⟩:=hv.get hv'
     refine⟨h1 v (List.mem_of_getElem? hv'),y,?_,hvy⟩
     rw[show p.2.1+i-(p.2.1+off)=i-off from by omega];exact hy
    ·rw[if_neg c2] at hv'
     rw[if_neg (by omega),if_neg (by omega)]
     exact e4 i v hv'
 ·cases hp
theorem mT (hr:HR P m h w)(hf:eD m h.next){xs:List Value}(ys:List Value)(hv:eG m ws xs)(h1: ∀v∈ws,v.one=true)(elem:TypeId):
  eS P m h w (m.set h.next (w.heap.size,0,xs.length+ys.length)) (h.new (.cells false ws)) (w.alloc (.cells (xs++ys).toArray elem)):=by
 have hlen:=eG.length hv
 refine eS.new hr hf _ _ _ (λm' he _=>⟨_,elem,(0,0),heap_alloc_new w _,by simp,by simp [hlen],λi v hv'=>?_,λ_=>rfl⟩)
 refine⟨h1 v (List.mem_of_getElem? hv'),?_⟩
 obtain⟨y,hy,hvy⟩:=hv.get hv'
 refine⟨y,?_,VR.mono he _ _ hvy⟩
 have hlt:i<xs.length:=(List.getElem?_eq_some_iff.1 hy).1
 simp only[Nat.zero_add,List.getElem?_toArray]
 rw[wY hlt];exact hy
end
end
end Go.Ay
