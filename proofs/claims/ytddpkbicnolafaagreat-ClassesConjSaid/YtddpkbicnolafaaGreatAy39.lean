/- Appends, once more: where the new block lies. Cells of a block of cells. -/
import Derived.Test.YtddpkbicnolafaaGreatAy38
namespace Go.Ay
open Go
section
variable {W:Nat->Prop} {a b c h h':H}
structure xU (h:H) (x:V) (n m:Nat) (sz:Nat) (ws us:List V) (h':H):Prop where
 get:h'.get h.next=some (.cells false (ws++us))
 next:h'.next=h.next+1
 old: ∀ k,k≠h.next->eC x k->h'.get k=h.get k
theorem eL.push {x y:V} {sz bytes b:Nat} {ws us:List V} (o:eL h x sz ws b) (hy:SV h y sz us) {n m:Nat} (hn:ws.length=n*sz) (hm:us.length=m*sz) (hz:0<sz) (h0:0<m) (room:(2*(n+m)+1000)*bytes<=2^48/\n+m<2^62):
  ∃ h',Lc h sz bytes x y=some (.sl h.next 0 (n+m) (.un sz),h')/\xU h x n m sz ws us h':=by
 have e1:Lc h sz bytes x y=Ay.Di h sz bytes x m us:=by
  simp only [Lc,hy.len hm hz,hy.slice]
 rw [e1]
 have hx:=o.sv
 have hlen:=hx.len hn hz
 have hsl:=hx.slice
 unfold Ay.Di
 simp only [hlen,hsl]
 rw [if_neg (by omega),if_pos room]
 have key: ∀ g:H,g.next=h.next->(∀ k,k≠h.next->eC x k->g.get k=h.get k)-> ∃ h',some (V.sl h.next 0 (n+m) (.un sz),g.new (.cells false (ws++us)))=some (.sl h.next 0 (n+m) (.un sz),h')/\xU h x n m sz ws us h':=by
  intro g gn gg
  refine ⟨_,rfl,by rw [←gn,H.aQ],by rw [H.bD,gn],λ k hk ha=>?_⟩
  rw [H.bM g (by omega)]
  exact gg k hk ha
 rcases o with ⟨rfl,rfl⟩|⟨id,n',cap,rest,rfl,h1,h2,h3,h4,h5⟩
 ·exact key h rfl (λ _ _ _=>rfl)
 ·have:n'=n:=Nat.eq_of_mul_eq_mul_right hz (h1.symm.trans hn)
  subst this
  rcases h2 with rfl|⟨rfl,rfl⟩
  ·simp only [h5,if_true]
   exact key (h.set id none) rfl (λ k hk ha=>H.aH h (ha id 0 n' _ rfl) none)
  ·simp only
   rw [if_neg (by omega)]
   exact key h rfl (λ _ _ _=>rfl)
theorem xU.own {x:V} {n m sz:Nat} {ws us:List V} (p:xU h x n m sz ws us h') (hn:ws.length=n*sz) (hm:us.length=m*sz) {b:Nat} (hb:b<=h.next):eL h' (.sl h.next 0 (n+m) (.un sz)) sz (ws++us) b:=
 .inr ⟨h.next,n+m,_, [],rfl,by rw [vA,hn,hm,Nat.add_mul],.inl rfl,hb,by rw [p.next];omega,by rw [List.append_nil];exact p.get⟩
theorem xU.fx {x:V} {n m sz:Nat} {ws us:List V} (p:xU h x n m sz ws us h') (hW: ∀ id off len cap,x= .sl id off len cap->W id):Fx W h h':=
 ⟨by rw [p.next];omega,λ id h1 h2=>p.old id (by omega) λ id' off n c e=>λ e2=>h2 (e2▸hW _ _ _ _ e)⟩
theorem eL.Bi {v:V} {sz:Nat} {ws:List V} {b:Nat} (o:eL h v sz ws b) (hn:h.next<=h'.next) (hg: ∀ id off n c,v= .sl id off n c->id<h.next->h'.get id=h.get id):eL h' v sz ws b:=
 o.mono hn λ id off n c e _ hid=>hg id off n c e hid
theorem eL.in {v:V} {sz:Nat} {ws:List V} {b:Nat} (o:eL h v sz ws b): ∀ id off len cap,v= .sl id off len cap->id<h.next/\b<=id/\off=0:=by
 rcases o with ⟨rfl,_⟩|⟨id,n,cap,rest,rfl,_,_,h1,h2,_⟩
 ·intro _ _ _ _ e;cases e
 ·intro _ _ _ _ e;cases e;exact ⟨h2,h1,rfl⟩
theorem PV.sl {v:V} {l:List Nat} (p:PV W h v l) (hl:l≠ []): ∃ id off len cap,v= .sl id off len cap/\id<h.next/\ ¬W id:=by
 rcases p.si with ⟨_,h0⟩|⟨id,off,len,cap,ro,vs,h1,_,h3,_⟩
 ·exfalso
  cases l with
  |nil=>exact hl rfl
  |cons x l=>simp [zi,ints] at h0
 ·exact ⟨id,off,len,cap,h1,h3,by have:=p.off;rw [h1] at this;exact this⟩
theorem PV.mono {v:V} {l:List Nat} (p:PV W h v l) (f:Fr h h'):PV W h' v l:=p.fx (Fx.of f)
theorem bI.ne {n:Nat} {l:List Nat} (hn:0<n) (L:Pm.bI n l):l≠ []:=λ e=>by
 have:=L.len
 rw [e] at this
 simp at this
 omega
theorem Kv {v:V} {l:List Nat} (p:PV W h v l) (hl:l≠ []) (neg:Bool):Rn neg v=some (.bool neg):=by
 obtain ⟨id,off,len,cap,rfl,_⟩:=p.sl hl
 rfl
abbrev jL (W:Nat->Prop) (h:H) (vs:List V) (ls:List (List Nat)):Prop:=bJ (PV W h) vs ls
theorem jL.fx {vs:List V} {ls:List (List Nat)} (p:jL W h vs ls) (f:Fx W h h'):jL W h' vs ls:=p.mono λ _ _ x=>x.fx f
theorem jL.zU {W':Nat->Prop} {vs:List V} {ls:List (List Nat)} (p:jL W h vs ls) (hw: ∀ id,id<h.next->W' id->W id):jL W' h vs ls:=p.mono λ _ _ x=>x.zU hw
theorem jL.at {vs:List V} {ls:List (List Nat)} (p:jL W h vs ls) {i:Nat} (hi:i<ls.length): ∃ v,vs[i]? =some v/\PV W h v (ls.getD i []):=by
 have hl:=bJ.length p
 refine ⟨vs[i]'(by omega),iH (by omega),?_⟩
 have:=bJ.get p i (by omega) hi
 simpa [List.getD,hi] using this
theorem jL.one {v:V} {l:List Nat} (p:PV W h v l):jL W h [v] [l]:=⟨p,trivial⟩
end
theorem PV.eP {W:Nat->Prop} {h:H} {v:V} {l:List Nat} (p:PV W h v l):v.cells= [v]/\v.one=true:=⟨(SV.bP p.si).1,(SV.bP p.si).2.1⟩
theorem dN (h:H) {z v:V} (hc:v.cells= [v]) (ho:v.one=true):rV h 1 [z] 1 [(0,1,v)]=some (.sl h.next 0 1 (.kn 1),h.new (.cells false [v])):=by
 have e1:putAt [z] 0 [v]=some [v]:=by simp [putAt]
 simp [rV,jJ,dQ,hc,ho,e1]
theorem SV.one {h:H} {id:Nat} {v:V} {ro:Bool} (hid:id<h.next) (hg:h.get id=some (.cells ro [v])) (cap:uO):SV h (.sl id 0 1 cap) 1 [v]:=SV.all rfl hid hg cap
theorem dS (h:H) (id off:Nat) {v u w:V} (hv1:v.one=true) (hu1:u.one=true) (hw1:w.one=true):DY h 3 (.ptr id off) (.agg [v,u,w])=fI (h.get id) h id off [v,u,w]:=Qz h id off 3 _ rfl (by simp [hv1,hu1,hw1])
theorem dX {x y z v u w:V} (h:H) (id:Nat):fI (some (.cells false [x,y,z])) h id 0 [v,u,w]=some (h.set id (some (.cells false [v,u,w]))):=by
 simp [fI,putAt]
theorem aX {h:H} {id:Nat} {ro:Bool} {v u w:V} (hg:h.get id=some (.cells ro [v,u,w])):h.row id 0 3=some [v,u,w]:=by
 simp [H.row,hg,sub]
theorem dM (h:H) {v u w:V} (hv1:v.one=true) (hu1:u.one=true) (hw1:w.one=true):Qa h (.agg [v,u,w])=some (.ptr h.next 0,h.new (.cells false [v,u,w])):=Ew h _ (by simp [hv1,hu1,hw1])
theorem H.IA (h:H) (n k off m:Nat):(H.mk h.tr n).row k off m=h.row k off m:=rfl
theorem iK {h:H} {ID:Nat} (hid:h.next=ID) (c:List V): ∃ x,h.new (.cells false c)=x/\x.next=ID+1/\x.get ID=some (.cells false c)/\(∀ k,k≠ID->x.get k=h.get k)/\Fr h x:=
 ⟨_,rfl,by rw [H.bD,hid],by rw [←hid,H.aQ],λ k hk=>H.bM h (by omega) _,(Fr.refl h).new _⟩
theorem Ca (h:H) (ID:Nat) (c:List V): ∃ x,h.set ID (some (.cells false c))=x/\x.next=h.next/\x.get ID=some (.cells false c)/\ ∀ k,k≠ID->x.get k=h.get k:=
 ⟨_,rfl,rfl,H.aW ..,λ k hk=>H.aH h hk _⟩
def wQ (r:fV):fV:={r with st:= .busy}
def yR (r:fV) (e:E):fV:={r with st:= .done,pend:=some e}
theorem wW {p:Nat->Option Fn} {id:Nat} {args:List V} {h:H} {r:fV} {Q:V->H->Prop} (hr:h.get id=some (.loop r)) (hl:args.length=r.pars.length) (jH:r.st= .ready)
  (hw: ∀ h1,h1.get id=some (.loop (wQ r))->h1.next=h.next->(∀ k,k≠id->h1.get k=h.get k)->Wp p (some id) r.assign ((r.pars.zip args).foldl (λ vs q=>vs.set q.1 q.2) r.vars) h (λ e vars h'=>e= .norm/\h'=h/\Wp p (some id) r.body vars h1 (Vt id Q))):Ey p id args h Q:=by
 refine akT hr hl ((hw _ (H.aW h id _) rfl λ k hk=>H.aH h hk _).mono ?_)
 rintro e vars h' ⟨rfl,rfl,w⟩
 exact ⟨rfl,r,hr,jH,w⟩
theorem xM {id:Nat} {vars:List V} {h:H} {r:fV} {Q:V->H->Prop} (jH:r.st= .ready) (hp:r.pend=none) (hr:h.get id=some (.loop (wQ r))) (q:Q (.bool true) (h.set id (some (.loop r)))):Vt id Q .norm vars h:=by
 refine ⟨_,hr,?_⟩
 have e:({wQ r with st:= .ready,pend:=none}:fV)=r:=by
  cases r
  simp only at jH hp
  subst jH hp
  rfl
 show Q (.bool true) (h.set id (some (.loop {wQ r with st:= .ready,pend:=none})))
 rw [e]
 exact q
theorem Mt {id:Nat} {vars:List V} {h:H} {r:fV} {Q:V->H->Prop} (hr:h.get id=some (.loop (wQ r))) (q:Q (.bool false) (h.set id (some (.loop (yR r .ret))))):Vt id Q .ret vars h:=⟨_,hr,q⟩
theorem Bp {p:Nat->Option Fn} {g:Nat} {args:List V} {h:H} {r:fV} {Q:V->H->Prop} (k: ∀ r',r'=r->Ev p g args (h.new (.loop r')) Q):Ev p g args (h.new (.loop r)) Q:=k r rfl
theorem Rb {p:Nat->Option Fn} {rd:Option Nat} {a c:C} {vars:List V} {h:H} {Q:E->List V->H->Prop} (J:List V->H->Prop) (h1:Wp p rd a vars h (λ e v h'=>e= .norm/\J v h'∨e≠ .norm/\Q e v h')) (h2: ∀ v h',J v h'->Wp p rd c v h' Q):Wp p rd (.seq a c) vars h Q:=by
 rw [VC]
 refine h1.mono λ e v h' x=>?_
 rcases x with ⟨rfl,x⟩|⟨hne,x⟩
 ·exact h2 v h' x
 ·cases e
  ·exact absurd rfl hne
  ·exact x
  ·exact x
theorem bV {p:Nat->Option Fn} {rd:Option Nat} {a c:C} {k:Nat} {vars:List V} {h:H} {Q:E->List V->H->Prop} (J:List V->H->Prop) (h1:Wp p rd (.loop a) vars h (λ e v h'=>e= .exit k/\J v h')) (h2: ∀ v h',J v h'->Wp p rd c v h' Q):Wp p rd (.loop a) vars h (yZ k (Vv p rd c Q)):=
 h1.mono λ e v h' x=>by
  obtain ⟨rfl,x⟩:=x
  rw [Eu,Ul]
  exact h2 v h' x
theorem oH {p:Nat->Option Ay.Fn} {rd:Option Nat} {a b c:C} {vars:List V} {h:H} {Q:E->List V->H->Prop} {v:V} (J:List V->H->Prop) (h1:Tp p rd a b vars h (λ e vs h'=>e= .norm/\J vs h'∨e≠ .norm/\Q e vs h') v) (h2: ∀ vs h',J vs h'->Wp p rd c vs h' Q):Tp p rd a b vars h (Vv p rd c Q) v:=by
 have key: ∀ e vs h',(e= .norm/\J vs h'∨e≠ .norm/\Q e vs h')->Vv p rd c Q e vs h':=λ e vs h' q=>by
  rcases q with ⟨rfl,q⟩|⟨hne,q⟩
  ·exact h2 vs h' q
  ·cases e
   ·exact absurd rfl hne
   ·exact q
   ·exact q
 cases v with
 |bool t=>
  cases t
  ·exact Wp.mono (show Wp p rd b vars h _ from h1) key
  ·exact Wp.mono (show Wp p rd a vars h _ from h1) key
 |_=>exact (show False from h1).elim
end Go.Ay
