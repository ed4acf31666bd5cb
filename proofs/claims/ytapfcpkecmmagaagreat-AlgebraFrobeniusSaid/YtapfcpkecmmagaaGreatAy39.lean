/- Appends, once more: where the new block lies. Cells of a block of cells. -/
import Derived.Test.YtapfcpkecmmagaaGreatAy38
namespace Go.Ay
open Go
section
variable {x v u w:V} {sz n m id:Nat} {ws us vs vars:List V} {l:List Nat} {ls:List (List Nat)} {p:Nat->Option Fn} {Q:V->H->Prop} {rd:Option Nat}
section
variable {W:Nat->Prop} {a b c h h':H}
structure Pushd (h:H)(x:V)(n m:Nat)(sz:Nat)(ws us:List V)(h':H):Prop where
 get:h'.get h.next=some (.cells false (ws++us))
 next:h'.next=h.next+1
 old: ∀k,k≠h.next->dA x k->h'.get k=h.get k
theorem Own.push {y:V}{bytes b:Nat}(o:Own h x sz ws b)(hy:SV h y sz us)(hn:ws.length=n*sz)(hm:us.length=m*sz)(hz:0<sz)(h0:0<m)(room:(2*(n+m)+1000)*bytes<=2^48/\n+m<2^62):
  ∃h',qX h sz bytes x y=some (.sl h.next 0 (n+m) (.un sz),h')/\Pushd h x n m sz ws us h':=by
 have e1:qX h sz bytes x y=Ay.oE h sz bytes x m us:=by
  simp only[qX,hy.len hm hz,hy.slice]
 rw[e1]
 have hx:=o.sv
 have hlen:=hx.len hn hz
 have hsl:=hx.slice
 unfold Ay.oE
 simp only[hlen,hsl]
 rw[if_neg (by omega),if_pos room]
 have key: ∀g:H,g.next=h.next->(∀k,k≠h.next->dA x k->g.get k=h.get k)-> ∃h',some (V.sl h.next 0 (n+m) (.un sz),g.new (.cells false (ws++us)))=some (.sl h.next 0 (n+m) (.un sz),h')/\Pushd h x n m sz ws us h':=by
  intro g gn gg;refine⟨_,rfl,by rw[←gn,H.aM],by rw[H.aV,gn],λk hk ha=>?_⟩;rw[H.bG g (by omega)];exact gg k hk ha
 rcases o with ⟨rfl,rfl⟩|⟨id,n',cap,rest,rfl,h1,h2,h3,h4,h5⟩
 ·exact key h rfl (λ_ _ _=>rfl)
 ·have:n'=n:=Nat.eq_of_mul_eq_mul_right hz (h1.symm.trans hn)
  subst this
  rcases h2 with rfl|⟨rfl,rfl⟩
  ·simp only[h5,if_true]
   exact key (h.set id none) rfl (λk hk ha=>H.aH h (ha id 0 n' _ rfl) none)
  ·simp only
   rw[if_neg (by omega)]
   exact key h rfl (λ_ _ _=>rfl)
theorem Pushd.own (p:Pushd h x n m sz ws us h')(hn:ws.length=n*sz)(hm:us.length=m*sz){b:Nat}(hb:b<=h.next):Own h' (.sl h.next 0 (n+m) (.un sz)) sz (ws++us) b:=
 .inr ⟨h.next,n+m,_, [],rfl,by rw[jD,hn,hm,Nat.add_mul],.inl rfl,hb,by rw[p.next];omega,by rw[List.append_nil];exact p.get⟩
theorem Pushd.fx (p:Pushd h x n m sz ws us h')(hW: ∀id off len cap,x= .sl id off len cap->W id):Fx W h h':=
 ⟨by rw[p.next];omega,λid h1 h2=>p.old id (by omega) λid' off n c e=>λe2=>h2 (e2▸hW _ _ _ _ e)⟩
theorem Own.keep {b:Nat}(o:Own h v sz ws b)(hn:h.next<=h'.next)(hg: ∀id off n c,v= .sl id off n c->id<h.next->h'.get id=h.get id):Own h' v sz ws b:=
 o.mono hn λid off n c e _ hid=>hg id off n c e hid
theorem Own.in {b:Nat}(o:Own h v sz ws b): ∀id off len cap,v= .sl id off len cap->id<h.next/\b<=id/\off=0:=by
 rcases o with ⟨rfl,_⟩|⟨id,n,cap,rest,rfl,_,_,h1,h2,_⟩
 ·intro _ _ _ _ e;cases e
 ·intro _ _ _ _ e;cases e;exact⟨h2,h1,rfl⟩
theorem PV.sl (p:PV W h v l)(hl:l≠ []): ∃id off len cap,v= .sl id off len cap/\id<h.next/\ ¬W id:=by
 rcases p.si with ⟨_,h0⟩|⟨id,off,len,cap,ro,vs,h1,_,h3,_⟩
 ·exfalso
  cases l with
  |nil=>exact hl rfl
  |cons x l=>simp [zi,ints] at h0
 ·exact⟨id,off,len,cap,h1,h3,by have:=p.off;rw[h1] at this;exact this⟩
theorem PV.mono (p:PV W h v l)(f:Fr h h'):PV W h' v l:=p.fx (Fx.of f)
theorem aX.ne (hn:0<n)(L:Pm.aX n l):l≠ []:=λe=>by
 have:=L.len;rw[e] at this;simp at this;omega
theorem Hz (p:PV W h v l)(hl:l≠ [])(neg:Bool):wQ neg v=some (.bool neg):=by
 obtain⟨id,off,len,cap,rfl,_⟩:=p.sl hl
 rfl
abbrev PVs (W:Nat->Prop)(h:H)(vs:List V)(ls:List (List Nat)):Prop:=All2 (PV W h) vs ls
theorem PVs.fx (p:PVs W h vs ls)(f:Fx W h h'):PVs W h' vs ls:=p.mono λ_ _ x=>x.fx f
theorem PVs.weak {W':Nat->Prop}(p:PVs W h vs ls)(hw: ∀id,id<h.next->W' id->W id):PVs W' h vs ls:=p.mono λ_ _ x=>x.weak hw
theorem PVs.at (p:PVs W h vs ls){i:Nat}(hi:i<ls.length): ∃v,vs[i]? =some v/\PV W h v (ls.getD i []):=by
 have hl:=All2.length p;refine⟨vs[i]'(by omega),eQ (by omega),?_⟩;have:=All2.get p i (by omega) hi;simpa [List.getD,hi] using this
theorem PVs.one (p:PV W h v l):PVs W h [v] [l]:=⟨p,trivial⟩
end
theorem PV.eN {W:Nat->Prop}{h:H}(p:PV W h v l):v.cells= [v]/\v.one=true:=⟨(SV.cW p.si).1,(SV.cW p.si).2.1⟩
theorem dC (h:H){z:V}(hc:v.cells= [v])(ho:v.one=true):nG h 1 [z] 1 [(0,1,v)]=some (.sl h.next 0 1 (.kn 1),h.new (.cells false [v])):=by
 have e1:putAt [z] 0 [v]=some [v]:=by simp [putAt]
 simp [nG,fU,dG,hc,ho,e1]
theorem SV.one {h:H}{ro:Bool}(hid:id<h.next)(hg:h.get id=some (.cells ro [v]))(cap:kL):SV h (.sl id 0 1 cap) 1 [v]:=SV.all rfl hid hg cap
theorem iM (h:H)(id off:Nat)(hv1:v.one=true)(hu1:u.one=true)(hw1:w.one=true):Hg h 3 (.ptr id off) (.agg [v,u,w])=dV (h.get id) h id off [v,u,w]:=pU h id off 3 _ rfl (by simp [hv1,hu1,hw1])
theorem fH {y z:V}(h:H)(id:Nat):dV (some (.cells false [x,y,z])) h id 0 [v,u,w]=some (h.set id (some (.cells false [v,u,w]))):=by
 simp [dV,putAt]
theorem bU {h:H}{ro:Bool}(hg:h.get id=some (.cells ro [v,u,w])):h.row id 0 3=some [v,u,w]:=by
 simp [H.row,hg,sub]
theorem dQ (h:H)(hv1:v.one=true)(hu1:u.one=true)(hw1:w.one=true):uI h (.agg [v,u,w])=some (.ptr h.next 0,h.new (.cells false [v,u,w])):=nP h _ (by simp [hv1,hu1,hw1])
theorem H.Ck (h:H)(n k off m:Nat):(H.mk h.tr n).row k off m=h.row k off m:=rfl
theorem fC {h:H}{ID:Nat}(hid:h.next=ID)(c:List V): ∃x,h.new (.cells false c)=x/\x.next=ID+1/\x.get ID=some (.cells false c)/\(∀k,k≠ID->x.get k=h.get k)/\Fr h x:=
 ⟨_,rfl,by rw[H.aV,hid],by rw[←hid,H.aM],λk hk=>H.bG h (by omega) _,(Fr.refl h).new _⟩
theorem uB (h:H)(ID:Nat)(c:List V): ∃x,h.set ID (some (.cells false c))=x/\x.next=h.next/\x.get ID=some (.cells false c)/\ ∀k,k≠ID->x.get k=h.get k:=
 ⟨_,rfl,rfl,H.aT ..,λk hk=>H.aH h hk _⟩
def lZ (r:eH):eH:={r with st:= .busy}
def sF (r:eH)(e:E):eH:={r with st:= .done,pend:=some e}
theorem mV {args:List V}{h:H}{r:eH}(hr:h.get id=some (.loop r))(hl:args.length=r.pars.length)(fG:r.st= .ready)
  (hw: ∀h1,h1.get id=some (.loop (lZ r))->h1.next=h.next->(∀k,k≠id->h1.get k=h.get k)->Wp p (some id) r.assign ((r.pars.zip args).foldl (λvs q=>vs.set q.1 q.2) r.vars) h (λe vars h'=>e= .norm/\h'=h/\Wp p (some id) r.body vars h1 (vJ id Q))):Ey p id args h Q:=by
 refine Ya hr hl ((hw _ (H.aT h id _) rfl λk hk=>H.aH h hk _).mono ?_)
 rintro e vars h' ⟨rfl,rfl,w⟩
 exact⟨rfl,r,hr,fG,w⟩
theorem mU {h:H}{r:eH}(fG:r.st= .ready)(hp:r.pend=none)(hr:h.get id=some (.loop (lZ r)))(q:Q (.bool true) (h.set id (some (.loop r)))):vJ id Q .norm vars h:=by
 refine⟨_,hr,?_⟩
 have e:({lZ r with st:= .ready,pend:=none}:eH)=r:=by
  cases r;simp only at fG hp;subst fG hp
  rfl
 show Q (.bool true) (h.set id (some (.loop {lZ r with st:= .ready,pend:=none})));rw[e];exact q
theorem xV {h:H}{r:eH}(hr:h.get id=some (.loop (lZ r)))(q:Q (.bool false) (h.set id (some (.loop (sF r .ret))))):vJ id Q .ret vars h:=⟨_,hr,q⟩
theorem pY {g:Nat}{args:List V}{h:H}{r:eH}(k: ∀r',r'=r->Ev p g args (h.new (.loop r')) Q):Ev p g args (h.new (.loop r)) Q:=k r rfl
theorem uO {a c:C}{h:H}{Q:E->List V->H->Prop}(J:List V->H->Prop)(h1:Wp p rd a vars h (λe v h'=>e= .norm/\J v h'∨e≠ .norm/\Q e v h'))(h2: ∀v h',J v h'->Wp p rd c v h' Q):Wp p rd (.seq a c) vars h Q:=by
 rw[Ol];refine h1.mono λe v h' x=>?_
 rcases x with ⟨rfl,x⟩|⟨hne,x⟩
 ·exact h2 v h' x
 ·cases e
  ·exact absurd rfl hne
  ·exact x
  ·exact x
theorem cF {a c:C}{k:Nat}{h:H}{Q:E->List V->H->Prop}(J:List V->H->Prop)(h1:Wp p rd (.loop a) vars h (λe v h'=>e= .exit k/\J v h'))(h2: ∀v h',J v h'->Wp p rd c v h' Q):Wp p rd (.loop a) vars h (mN k (vF p rd c Q)):=
 h1.mono λe v h' x=>by
  obtain⟨rfl,x⟩:=x;rw[pI,wV];exact h2 v h' x
theorem jQ {p:Nat->Option Ay.Fn}{a b c:C}{h:H}{Q:E->List V->H->Prop}(J:List V->H->Prop)(h1:wM p rd a b vars h (λe vs h'=>e= .norm/\J vs h'∨e≠ .norm/\Q e vs h') v)(h2: ∀vs h',J vs h'->Wp p rd c vs h' Q):wM p rd a b vars h (vF p rd c Q) v:=by
 have key: ∀e vs h',(e= .norm/\J vs h'∨e≠ .norm/\Q e vs h')->vF p rd c Q e vs h':=λe vs h' q=>by
  rcases q with ⟨rfl,q⟩|⟨hne,q⟩
  ·exact h2 vs h' q
  ·cases e
   ·exact absurd rfl hne
   ·exact q
   ·exact q
 cases v with
 |bool t=>
  cases t
  ·exact Wp.mono (show Wp p rd b vars h _ from h1) key
  ·exact Wp.mono (show Wp p rd a vars h _ from h1) key
 |_=>exact (show False from h1).elim
end
end Go.Ay
