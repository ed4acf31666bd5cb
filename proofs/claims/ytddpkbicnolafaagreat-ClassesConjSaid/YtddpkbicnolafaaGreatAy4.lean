/- Operands, rows, loads, stores, new blocks: the abstract machine's steps are the model's. -/
import Derived.Test.YtddpkbicnolafaaGreatAy3
import Derived.ChangeKeysEq
namespace Go.Ay
open Go
section
variable {P:Program} {m:M} {h:H} {w:World}
theorem jW {α β:Type} {f:α->Option β}: ∀ {l:List α} {r:List β},cI (l.map f)=some r->r.length=l.length/\ ∀ (i:Nat) (a:α),l[i]? =some a-> ∃ b,r[i]? =some b/\f a=some b
 | [],r,h=>by simp [cI] at h;subst h;exact ⟨rfl,λ i a h=>by simp at h⟩
 |x::l,r,h=>by
  simp only [List.map_cons] at h
  cases hx:f x with
  |none=>simp [hx,cI] at h
  |some b=>
   simp only [hx,cI,oE] at h
   obtain ⟨r',hr,rfl⟩:=h
   obtain ⟨h1,h2⟩:=jW hr
   refine ⟨by simp [h1],λ i a hi=>?_⟩
   cases i with
   |zero=>simp at hi;subst hi;exact ⟨b,rfl,hx⟩
   |succ i=>simpa using h2 i a (by simpa using hi)
theorem Km (m:M) {v:Value} {u:V} (h:Oc v=some u):VR m u v:=by
 unfold Oc at h
 split at h<;>first
  |(cases h;rfl)
  |skip
 ·rename_i s
  cases h
  show Value.string s= .string ⟨((s.data.toList.map UInt8.toNat).map UInt8.ofNat).toArray⟩
  rw [List.map_map,show (UInt8.ofNat∘UInt8.toNat)=id from funext λ x=>by simp,List.map_id]
 ·rename_i f first captured
  split at h
  ·rename_i hc
   simp at hc
   cases h
   obtain ⟨rfl,rfl⟩:=hc
   exact ⟨#[],#[],rfl,trivial,trivial⟩
  ·cases h
 ·cases h
theorem Pa (m:M) {v:Value} {u:V} (h:Yk v=some u):VR m u v:=by
 unfold Yk at h
 split at h
 ·rename_i cs
  simp only [oE] at h
  obtain ⟨r,hr,rfl⟩:=h
  obtain ⟨h1,h2⟩:=jW hr
  refine ⟨cs,rfl,iB.oT (by simpa using h1) (λ i v hv=>?_)⟩
  have hlt:i<cs.toList.length:=by
   have:=(List.getElem?_eq_some_iff.1 hv).1;omega
  obtain ⟨b,hb,hf⟩:=h2 i cs.toList[i] (iH hlt)
  rw [hv] at hb;cases hb
  exact ⟨_,iH hlt,Km m hf⟩
 ·rename_i cs
  split at h
  ·rename_i hc;simp at hc;subst hc;cases h;exact VR.undef m
  ·cases h
 ·exact Km m h
theorem Uk {v:Value} {u:V} (h:Oc v=some u):u.one=true:=by
 unfold Oc at h
 split at h<;>first
  |(cases h;rfl)
  |skip
 ·split at h<;>cases h
  rfl
 ·cases h
theorem Qh {v:Value} {u:V} (h:Yk v=some u) (hz:u≠ .tup []): ∀ c∈u.cells,c.one=true:=by
 unfold Yk at h
 split at h
 ·rename_i cs
  simp only [oE] at h
  obtain ⟨r,hr,rfl⟩:=h
  obtain ⟨h1,h2⟩:=jW hr
  intro c hc
  simp only [V.cells] at hc
  obtain ⟨i,hi,rfl⟩:=List.getElem_of_mem hc
  have hlt:i<cs.toList.length:=by omega
  obtain ⟨b,hb,hf⟩:=h2 i cs.toList[i] (iH hlt)
  rw [iH hi] at hb;cases hb
  exact Uk hf
 ·split at h<;>cases h
  exact absurd rfl hz
 ·intro c hc
  have h1:=Uk h
  cases u<;>simp [V.cells,V.one] at hc h1 ⊢ <;>subst hc<;>rfl
structure St (m:M) (nt:Nat) (pv defs:List Nat) (vars loc:List V) (a:Act):Prop where
 vars:kC m nt pv vars a.tmps
 loc:Bs m pv defs loc a.tmps
variable {nt:Nat} {pv defs:List Nat} {vars loc:List V} {a:Act}
theorem aI (s:St m nt pv defs vars loc a) {o:Operand} {x:X} (h:fU pv defs o=some x):VR m (xv vars loc x) (a.eval o):=by
 cases o with
 |tmp t=>
  simp only [fU] at h
  cases hd:idx t defs with
  |some i=>simp only [hd] at h;cases h;exact s.loc.val t i hd
  |none=>
   simp only [hd,oE] at h
   obtain ⟨k,hk,rfl⟩:=h
   exact s.vars.val t k hk
 |const v=>
  simp only [fU,oE] at h
  obtain ⟨u,hu,rfl⟩:=h
  exact Pa m hu
 |global g=>simp [fU] at h
 |func f=>simp only [fU] at h;cases h;exact ⟨#[],#[],rfl,trivial,trivial⟩
theorem iQ (s:St m nt pv defs vars loc a) {os:List Operand} {xs:List X} (h:uY pv defs os=some xs):iB m (xs.map (xv vars loc)) (os.map a.eval):=by
 obtain ⟨h1,h2⟩:=jW h
 refine iB.oT (by simp [h1]) (λ i v hv=>?_)
 simp only [List.getElem?_map,oE] at hv
 obtain ⟨x,hx,rfl⟩:=hv
 have hlt:i<os.length:=by have:=(List.getElem?_eq_some_iff.1 hx).1;omega
 obtain ⟨b,hb,hf⟩:=h2 i os[i] (iH hlt)
 rw [hx] at hb;cases hb
 exact ⟨_,by simp [hlt],aI s hf⟩
theorem sub_eq {vs ws:List V} {off n:Nat} (h:sub vs off n=some ws):ws=(vs.drop off).take n/\off+n<=vs.length/\ws.length=n:=by
 unfold sub at h
 split at h
 ·rename_i hle;cases h;refine ⟨rfl,hle,?_⟩;simp;omega
 ·cases h
theorem Fw (hr:HR P m h w) {id off n:Nat} {ws:List V} (hrow:h.row id off n=some ws):
  ∃ p c elem fr,m id=some p/\w.heap[p.1]? =some (.cells c elem fr)/\c.size=p.2.2/\p.2.1+off+n<=c.size/\
   iB m ws ((c.toList.drop (p.2.1+off)).take n)/\(∀ v∈ws,v.one=true):=by
 unfold H.row at hrow
 split at hrow
 ·rename_i ro vs hg
  obtain ⟨rfl,hle,hl⟩:=sub_eq hrow
  obtain ⟨p,hp,c,elem,fr,h1,h2,h3,h4,h5⟩:=hr.live id _ hg
  refine ⟨p,c,elem,fr,hp,h1,h2,by omega,iB.oT (by simp;omega) (λ i v hv=>?_),λ v hv=>?_⟩
  ·simp only [List.getElem?_take,List.getElem?_drop] at hv ⊢
   split at hv
   ·rename_i hi
    obtain ⟨_,x,hx,hv⟩:=h4 _ v hv
    refine ⟨x,?_,hv⟩
    rw [if_pos hi]
    rw [←Nat.add_assoc] at hx
    simpa using hx
   ·cases hv
  ·obtain ⟨i,hi,rfl⟩:=List.getElem_of_mem hv
   have:=h4 (off+i) ((vs.drop off).take n)[i] (by
    rw [←iH]
    ·simp only [List.getElem?_take,List.getElem?_drop];rw [if_pos (by simp at hi;omega)]
     )
   exact this.1
 ·cases hrow
theorem aG {w:World} {b:Nat} {c:Array Value} {elem:TypeId} {fr:Nat×Nat} (hb:w.heap[b]? =some (.cells c elem fr)) (o:Nat):w.cell? ⟨b,o,none⟩=c[o]? :=by
 simp [World.cell?,hb]
theorem mF (b o j:Nat):(⟨b,o,none⟩:Addr).add j=⟨b,o+j,none⟩:=by unfold Addr.add;split<;>simp_all
theorem HY {w:World} {b:Nat} {c:Array Value} {elem:TypeId} {fr:Nat×Nat} (hb:w.heap[b]? =some (.cells c elem fr)) (o n:Nat):
  ∀ j v,((c.toList.drop o).take n)[j]? =some v->w.cell? ((⟨b,o,none⟩:Addr).add j)=some v:=by
 intro j v hj
 rw [mF,aG hb]
 simp only [List.getElem?_take,List.getElem?_drop] at hj
 split at hj
 ·simpa using hj
 ·cases hj
theorem mV {w:World} {b:Nat} {c:Array Value} {elem:TypeId} {fr:Nat×Nat} (hb:w.heap[b]? =some (.cells c elem fr)) {o n:Nat} (hn:o+n<=c.size):
  (loadCells ⟨b,o,none⟩ n).run P w= .ok ((c.toList.drop o).take n).toArray w:=by
 have:=run_loadCells_list (P:=P) w ⟨b,o,none⟩ ((c.toList.drop o).take n) (HY hb o n)
 have hl:((c.toList.drop o).take n).length=n:=by simp;omega
 rw [hl] at this
 exact this
theorem wE {t:TypeId} {b:Bool} (h:Zs P t=some b):(isAgg t).run P w= .ok b w:=by
 unfold Zs at h
 simp only [oE] at h
 obtain ⟨d,hd,rfl⟩:=h
 unfold isAgg
 rw [Sem.run_bind,run_underlying hd w]
 cases d<;>rfl
theorem fJ {t:TypeId} {n:Nat} (h:iY P t=some n):(sizeOf t).run P w= .ok n w:=by
 unfold iY at h
 simp only [oE] at h
 obtain ⟨i,hi,rfl⟩:=h
 simp [sizeOf,typeInfo,hi]
theorem HW (hr:HR P m h w) {t:TypeId} {agg:Bool} {n:Nat} (ha:Zs P t=some agg) (hn:(if agg then iY P t else some 1)=some n)
  {v u:V} {x:Value} (hx:VR m v x) (he:ldV h agg n v=some u): ∃ y,(Instr.loadAt t x).run P w= .ok y w/\VR m u y:=by
 cases v<;>simp only [ldV] at he<;>try cases he
 rename_i id off
 obtain ⟨p,hp,rfl⟩:=hx
 cases hrow:h.row id off n with
 |none=>simp [hrow] at he
 |some ws=>
  simp only [hrow] at he
  obtain ⟨p',c,elem,fr,hp',hb,hcs,hle,hvr,_⟩:=Fw hr hrow
  rw [hp] at hp';cases hp'
  cases agg with
  |true=>
   simp only [if_true] at he hn
   cases he
   refine ⟨_,?_,⟨_,rfl,hvr⟩⟩
   simp [Instr.loadAt,Instr.sureAddr,loadVar,wE ha,fJ hn,mV hb hle]
  |false=>
   simp only [Bool.false_eq_true,if_false] at he hn
   cases hn
   split at he
   ·cases he
    rename_i v
    cases hl:(c.toList.drop (p.2.1+off)).take 1 with
    |nil=>rw [hl] at hvr;exact hvr.elim
    |cons y ys=>
     rw [hl] at hvr
     refine ⟨y,?_,hvr.1⟩
     have hc:=HY hb (p.2.1+off) 1 0 y (by rw [hl];rfl)
     rw [mF,Nat.add_zero] at hc
     simp [Instr.loadAt,Instr.sureAddr,loadVar,wE ha,hc]
   ·cases he
theorem Jt {vs ws us:List V} {off:Nat} (h:putAt vs off ws=some us):us=vs.take off++ws++vs.drop (off+ws.length)/\off+ws.length<=vs.length:=by
 unfold putAt at h
 split at h
 ·cases h;exact ⟨rfl,by assumption⟩
 ·cases h
theorem BD {vs ws us:List V} {off:Nat} (h:putAt vs off ws=some us):us.length=vs.length:=by
 obtain ⟨rfl,hle⟩:=Jt h
 simp;omega
theorem RK {vs ws us:List V} {off:Nat} (h:putAt vs off ws=some us) (i:Nat):
  us[i]? =if i<off then vs[i]? else if i<off+ws.length then ws[i-off]? else vs[i]? :=by
 obtain ⟨rfl,hle⟩:=Jt h
 have ht:(vs.take off).length=off:=by simp;omega
 by_cases h1:i<off
 ·rw [if_pos h1,List.append_assoc,List.getElem?_append_left (by omega),List.getElem?_take,if_pos h1]
 ·rw [if_neg h1]
  by_cases h2:i<off+ws.length
  ·rw [if_pos h2,List.append_assoc,List.getElem?_append_right (by omega),ht,List.getElem?_append_left (by omega)]
  ·rw [if_neg h2,List.getElem?_append_right (by simp;omega),List.getElem?_drop]
   congr 1
   simp;omega
theorem Un (c:Array Value) (o:Nat) (xs:List Value) (hle:o+xs.length<=c.size) (i:Nat):
  ((c.toList.take o++xs++c.toList.drop (o+xs.length)).toArray)[i]? =if i<o then c[i]? else if i<o+xs.length then xs[i-o]? else c[i]? :=by
 simp only [List.getElem?_toArray]
 have ht:(c.toList.take o).length=o:=by simp;omega
 by_cases h1:i<o
 ·rw [if_pos h1,List.append_assoc,List.getElem?_append_left (by omega),List.getElem?_take,if_pos h1];simp
 ·rw [if_neg h1]
  by_cases h2:i<o+xs.length
  ·rw [if_pos h2,List.append_assoc,List.getElem?_append_right (by omega),ht,List.getElem?_append_left (by omega)]
  ·rw [if_neg h2,List.getElem?_append_right (by simp;omega),List.getElem?_drop]
   have:o+xs.length+(i-(c.toList.take o++xs).length)=i:=by simp;omega
   rw [this];simp
theorem Kb (c:Array Value) (o:Nat) (xs:List Value) (hle:o+xs.length<=c.size):((c.toList.take o++xs++c.toList.drop (o+xs.length)).toArray).size=c.size:=by
 simp;omega
theorem Fz (hr:HR P m h w) (hf:iA m h.next) {id off:Nat} {ws:List V} {xs:List Value} {h':H} (hp:h.put id off ws=some h') (hv:iB m ws xs) (h1: ∀ v∈ws,v.one=true)
  {p:Nat×Nat×Nat} (hm:m id=some p): ∃ w',(storeCells ⟨p.1,p.2.1+off,none⟩ xs).run P w= .ok () w'/\iW P m h w m h' w':=by
 unfold H.put at hp
 split at hp
 ·rename_i vs hg
  simp only [oE] at hp
  obtain ⟨us,hus,rfl⟩:=hp
  obtain ⟨p',hp',c,elem,fr,e1,e2,e3,e4,e5⟩:=hr.live id _ hg
  rw [hm] at hp';cases hp'
  have hfr:=e5 rfl
  subst hfr
  obtain ⟨_,hle⟩:=Jt hus
  have hlen:=iB.length hv
  have hx1: ∀ x∈xs,x.oneCell'=true:=by
   intro x hx
   obtain ⟨i,hi,rfl⟩:=List.getElem_of_mem hx
   have hwi:i<ws.length:=by omega
   obtain ⟨y,hy,hvy⟩:=hv.get (iH hwi)
   rw [iH hi] at hy;cases hy
   exact hvy.one (h1 _ (List.getElem_mem hwi))
  have jH:=run_storeCells_at P p.1 (p.2.1+off) elem xs 0 c w e1 (by omega) hx1
  simp only [Nat.add_zero] at jH
  refine ⟨_,jH,?_⟩
  have hb:=setRow_heap w p.1 c (c.toList.take (p.2.1+off)++xs++c.toList.drop (p.2.1+off+xs.length)).toArray elem (0,0) e1
  refine iW.put hr hf hg rfl rfl hm ⟨_,elem,(0,0),hb,?_,?_,λ i v hv'=>?_,λ _=>rfl⟩ rfl rfl rfl (by simp) (λ b hne=>setRow_other w p.1 b _ hne)
  ·rw [Kb _ _ _ (by omega)];exact e2
  ·rw [BD hus];exact e3
  ·rw [RK hus] at hv'
   rw [Un _ _ _ (by omega)]
   by_cases c1:i<off
   ·rw [if_pos c1] at hv';rw [if_pos (by omega)];exact e4 i v hv'
   ·rw [if_neg c1] at hv'
    by_cases c2:i<off+ws.length
    ·rw [if_pos c2] at hv'
     rw [if_neg (by omega),if_pos (by omega)]
     obtain ⟨y,hy,hvy⟩:=hv.get hv'
     refine ⟨h1 v (List.mem_of_getElem? hv'),y,?_,hvy⟩
     rw [show p.2.1+i-(p.2.1+off)=i-off from by omega];exact hy
    ·rw [if_neg c2] at hv'
     rw [if_neg (by omega),if_neg (by omega)]
     exact e4 i v hv'
 ·cases hp
theorem zW (hr:HR P m h w) (hf:iA m h.next) {ws:List V} {xs:List Value} (ys:List Value) (hv:iB m ws xs) (h1: ∀ v∈ws,v.one=true) (elem:TypeId):
  iW P m h w (m.set h.next (w.heap.size,0,xs.length+ys.length)) (h.new (.cells false ws)) (w.alloc (.cells (xs++ys).toArray elem)):=by
 have hlen:=iB.length hv
 refine iW.new hr hf _ _ _ (λ m' he _=>⟨_,elem,(0,0),heap_alloc_new w _,by simp,by simp [hlen],λ i v hv'=>?_,λ _=>rfl⟩)
 refine ⟨h1 v (List.mem_of_getElem? hv'),?_⟩
 obtain ⟨y,hy,hvy⟩:=hv.get hv'
 refine ⟨y,?_,VR.mono he _ _ hvy⟩
 have hlt:i<xs.length:=(List.getElem?_eq_some_iff.1 hy).1
 simp only [Nat.zero_add,List.getElem?_toArray]
 rw [List.getElem?_append_left hlt];exact hy
end
end Go.Ay
