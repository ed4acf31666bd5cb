/- Appends, once more: where the new block lies. Cells of a block of cells. -/
import Derived.Test.YtddpkbicnolafaaGreatAy38
namespace Go.Ay
open Go
section
variable {W:Nat->Prop} {a b c h h':H}
structure zB (h:H)(x:V)(n m:Nat)(sz:Nat)(ws us:List V)(h':H):Prop where
 get:h'.get h.next=some (.cells false (ws++us))
 next:h'.next=h.next+1
 old: ∀k,k≠h.next->eA x k->h'.get k=h.get k
theorem eJ.push {x y:V}{sz bytes b:Nat}{ws us:List V}(o:eJ h x sz ws b)(hy:SV h y sz us){n m:Nat}(hn:ws.length=n*sz)(hm:us.length=m*sz)(hz:0<sz)(h0:0<m)(room:(2*(n+m)+1000)*bytes<=2^48/\n+m<2^62):
  ∃h',Ep h sz bytes x y=some (.sl h.next 0 (n+m) (.un sz),h')/\zB h x n m sz ws us h':=by
 have e1:Ep h sz bytes x y=Ay.Cj h sz bytes x m us:=by
  simp only[Ep,hy.len hm hz,hy.slice]
 rw[e1]
 have hx:=o.sv
 have hlen:=hx.len hn hz
 have hsl:=hx.slice
 unfold Ay.Cj
 simp only[hlen,hsl]
 rw[if_neg (by omega),if_pos room]
 have key: ∀g:H,g.next=h.next->(∀k,k≠h.next->eA x k->g.get k=h.get k)-> ∃h',some (V.sl h.next 0 (n+m) (.un sz),g.new (.cells false (ws++us)))=some (.sl h.next 0 (n+m) (.un sz),h')/\zB h x n m sz ws us h':=by
  intro g gn gg
  refine⟨_,rfl,by rw[←gn,H.aQ],by rw[H.aY,gn],λk hk ha=>?_⟩
  rw[H.bN g (by omega)]
  exact gg k hk ha
 rcases o with ⟨rfl,rfl⟩|⟨id,n',cap,rest,rfl,h1,h2,h3,h4,h5⟩
 ·exact key h rfl (λ_ _ _=>rfl)
 ·have:n'=n:=Nat.eq_of_mul_eq_mul_right hz (h1.symm.trans hn)
  subst this
  rcases h2 with rfl|⟨rfl,rfl⟩
  ·simp only[h5,if_true]
   exact key (h.set id none) rfl (λk hk ha=>H.aH h (ha id 0 n' _ rfl) none)
  ·simp only
   rw[if_neg (by omega)]
   exact key h rfl (λ_ _ _=>rfl)
theorem zB.own {x:V}{n m sz:Nat}{ws us:List V}(p:zB h x n m sz ws us h')(hn:ws.length=n*sz)(hm:us.length=m*sz){b:Nat}(hb:b<=h.next):eJ h' (.sl h.next 0 (n+m) (.un sz)) sz (ws++us) b:=
 .inr ⟨h.next,n+m,_, [],rfl,by rw[qU,hn,hm,Nat.add_mul],.inl rfl,hb,by rw[p.next];omega,by rw[List.append_nil];exact p.get⟩
theorem zB.fx {x:V}{n m sz:Nat}{ws us:List V}(p:zB h x n m sz ws us h')(hW: ∀id off len cap,x= .sl id off len cap->W id):Fx W h h':=
 ⟨by rw[p.next];omega,λid h1 h2=>p.old id (by omega) λid' off n c e=>λe2=>h2 (e2▸hW _ _ _ _ e)⟩
theorem eJ.uB {v:V}{sz:Nat}{ws:List V}{b:Nat}(o:eJ h v sz ws b)(hn:h.next<=h'.next)(hg: ∀id off n c,v= .sl id off n c->id<h.next->h'.get id=h.get id):eJ h' v sz ws b:=
 o.mono hn λid off n c e _ hid=>hg id off n c e hid
theorem eJ.in {v:V}{sz:Nat}{ws:List V}{b:Nat}(o:eJ h v sz ws b): ∀id off len cap,v= .sl id off len cap->id<h.next/\b<=id/\off=0:=by
 rcases o with ⟨rfl,_⟩|⟨id,n,cap,rest,rfl,_,_,h1,h2,_⟩
 ·intro _ _ _ _ e;cases e
 ·intro _ _ _ _ e;cases e;exact⟨h2,h1,rfl⟩
theorem PV.sl {v:V}{l:List Nat}(p:PV W h v l)(hl:l≠ []): ∃id off len cap,v= .sl id off len cap/\id<h.next/\ ¬W id:=by
 rcases p.si with ⟨_,h0⟩|⟨id,off,len,cap,ro,vs,h1,_,h3,_⟩
 ·exfalso
  cases l with
  |nil=>exact hl rfl
  |cons x l=>simp [zi,ints] at h0
 ·exact⟨id,off,len,cap,h1,h3,by have:=p.off;rw[h1] at this;exact this⟩
theorem PV.mono {v:V}{l:List Nat}(p:PV W h v l)(f:Fr h h'):PV W h' v l:=p.fx (Fx.of f)
theorem bM.ne {n:Nat}{l:List Nat}(hn:0<n)(L:Pm.bM n l):l≠ []:=λe=>by
 have:=L.len
 rw[e] at this
 simp at this
 omega
theorem Nk {v:V}{l:List Nat}(p:PV W h v l)(hl:l≠ [])(neg:Bool):Vp neg v=some (.bool neg):=by
 obtain⟨id,off,len,cap,rfl,_⟩:=p.sl hl
 rfl
abbrev gI (W:Nat->Prop)(h:H)(vs:List V)(ls:List (List Nat)):Prop:=bH (PV W h) vs ls
theorem gI.fx {vs:List V}{ls:List (List Nat)}(p:gI W h vs ls)(f:Fx W h h'):gI W h' vs ls:=p.mono λ_ _ x=>x.fx f
theorem gI.xH {W':Nat->Prop}{vs:List V}{ls:List (List Nat)}(p:gI W h vs ls)(hw: ∀id,id<h.next->W' id->W id):gI W' h vs ls:=p.mono λ_ _ x=>x.xH hw
theorem gI.at {vs:List V}{ls:List (List Nat)}(p:gI W h vs ls){i:Nat}(hi:i<ls.length): ∃v,vs[i]? =some v/\PV W h v (ls.getD i []):=by
 have hl:=bH.length p
 refine⟨vs[i]'(by omega),iH (by omega),?_⟩
 have:=bH.get p i (by omega) hi
 simpa [List.getD,hi] using this
theorem gI.one {v:V}{l:List Nat}(p:PV W h v l):gI W h [v] [l]:=⟨p,trivial⟩
end
theorem PV.eV {W:Nat->Prop}{h:H}{v:V}{l:List Nat}(p:PV W h v l):v.cells= [v]/\v.one=true:=⟨(SV.cY p.si).1,(SV.cY p.si).2.1⟩
theorem dG (h:H){z v:V}(hc:v.cells= [v])(ho:v.one=true):sD h 1 [z] 1 [(0,1,v)]=some (.sl h.next 0 1 (.kn 1),h.new (.cells false [v])):=by
 have e1:putAt [z] 0 [v]=some [v]:=by simp [putAt]
 simp [sD,jH,dP,hc,ho,e1]
theorem SV.one {h:H}{id:Nat}{v:V}{ro:Bool}(hid:id<h.next)(hg:h.get id=some (.cells ro [v]))(cap:uQ):SV h (.sl id 0 1 cap) 1 [v]:=SV.all rfl hid hg cap
theorem dR (h:H)(id off:Nat){v u w:V}(hv1:v.one=true)(hu1:u.one=true)(hw1:w.one=true):FL h 3 (.ptr id off) (.agg [v,u,w])=fJ (h.get id) h id off [v,u,w]:=Rs h id off 3 _ rfl (by simp [hv1,hu1,hw1])
theorem dX {x y z v u w:V}(h:H)(id:Nat):fJ (some (.cells false [x,y,z])) h id 0 [v,u,w]=some (h.set id (some (.cells false [v,u,w]))):=by
 simp [fJ,putAt]
theorem aW {h:H}{id:Nat}{ro:Bool}{v u w:V}(hg:h.get id=some (.cells ro [v,u,w])):h.row id 0 3=some [v,u,w]:=by
 simp [H.row,hg,sub]
theorem dM (h:H){v u w:V}(hv1:v.one=true)(hu1:u.one=true)(hw1:w.one=true):Qq h (.agg [v,u,w])=some (.ptr h.next 0,h.new (.cells false [v,u,w])):=Fm h _ (by simp [hv1,hu1,hw1])
theorem H.HC (h:H)(n k off m:Nat):(H.mk h.tr n).row k off m=h.row k off m:=rfl
theorem iB {h:H}{ID:Nat}(hid:h.next=ID)(c:List V): ∃x,h.new (.cells false c)=x/\x.next=ID+1/\x.get ID=some (.cells false c)/\(∀k,k≠ID->x.get k=h.get k)/\Fr h x:=
 ⟨_,rfl,by rw[H.aY,hid],by rw[←hid,H.aQ],λk hk=>H.bN h (by omega) _,(Fr.refl h).new _⟩
theorem zY (h:H)(ID:Nat)(c:List V): ∃x,h.set ID (some (.cells false c))=x/\x.next=h.next/\x.get ID=some (.cells false c)/\ ∀k,k≠ID->x.get k=h.get k:=
 ⟨_,rfl,rfl,H.aV ..,λk hk=>H.aH h hk _⟩
def yB (r:fW):fW:={r with st:= .busy}
def yP (r:fW)(e:E):fW:={r with st:= .done,pend:=some e}
theorem xV {p:Nat->Option Fn}{id:Nat}{args:List V}{h:H}{r:fW}{Q:V->H->Prop}(hr:h.get id=some (.loop r))(hl:args.length=r.pars.length)(jG:r.st= .ready)
  (hw: ∀h1,h1.get id=some (.loop (yB r))->h1.next=h.next->(∀k,k≠id->h1.get k=h.get k)->Wp p (some id) r.assign ((r.pars.zip args).foldl (λvs q=>vs.set q.1 q.2) r.vars) h (λe vars h'=>e= .norm/\h'=h/\Wp p (some id) r.body vars h1 (Sw id Q))):Ey p id args h Q:=by
 refine amZ hr hl ((hw _ (H.aV h id _) rfl λk hk=>H.aH h hk _).mono ?_)
 rintro e vars h' ⟨rfl,rfl,w⟩
 exact⟨rfl,r,hr,jG,w⟩
theorem xE {id:Nat}{vars:List V}{h:H}{r:fW}{Q:V->H->Prop}(jG:r.st= .ready)(hp:r.pend=none)(hr:h.get id=some (.loop (yB r)))(q:Q (.bool true) (h.set id (some (.loop r)))):Sw id Q .norm vars h:=by
 refine⟨_,hr,?_⟩
 have e:({yB r with st:= .ready,pend:=none}:fW)=r:=by
  cases r
  simp only at jG hp
  subst jG hp
  rfl
 show Q (.bool true) (h.set id (some (.loop {yB r with st:= .ready,pend:=none})))
 rw[e]
 exact q
theorem Nv {id:Nat}{vars:List V}{h:H}{r:fW}{Q:V->H->Prop}(hr:h.get id=some (.loop (yB r)))(q:Q (.bool false) (h.set id (some (.loop (yP r .ret))))):Sw id Q .ret vars h:=⟨_,hr,q⟩
theorem Bl {p:Nat->Option Fn}{g:Nat}{args:List V}{h:H}{r:fW}{Q:V->H->Prop}(k: ∀r',r'=r->Ev p g args (h.new (.loop r')) Q):Ev p g args (h.new (.loop r)) Q:=k r rfl
theorem Ru {p:Nat->Option Fn}{rd:Option Nat}{a c:C}{vars:List V}{h:H}{Q:E->List V->H->Prop}(J:List V->H->Prop)(h1:Wp p rd a vars h (λe v h'=>e= .norm/\J v h'∨e≠ .norm/\Q e v h'))(h2: ∀v h',J v h'->Wp p rd c v h' Q):Wp p rd (.seq a c) vars h Q:=by
 rw[adI]
 refine h1.mono λe v h' x=>?_
 rcases x with ⟨rfl,x⟩|⟨hne,x⟩
 ·exact h2 v h' x
 ·cases e
  ·exact absurd rfl hne
  ·exact x
  ·exact x
theorem bI {p:Nat->Option Fn}{rd:Option Nat}{a c:C}{k:Nat}{vars:List V}{h:H}{Q:E->List V->H->Prop}(J:List V->H->Prop)(h1:Wp p rd (.loop a) vars h (λe v h'=>e= .exit k/\J v h'))(h2: ∀v h',J v h'->Wp p rd c v h' Q):Wp p rd (.loop a) vars h (zX k (Tm p rd c Q)):=
 h1.mono λe v h' x=>by
  obtain⟨rfl,x⟩:=x
  rw[Fg,Wa]
  exact h2 v h' x
theorem nX {p:Nat->Option Ay.Fn}{rd:Option Nat}{a b c:C}{vars:List V}{h:H}{Q:E->List V->H->Prop}{v:V}(J:List V->H->Prop)(h1:Ui p rd a b vars h (λe vs h'=>e= .norm/\J vs h'∨e≠ .norm/\Q e vs h') v)(h2: ∀vs h',J vs h'->Wp p rd c vs h' Q):Ui p rd a b vars h (Tm p rd c Q) v:=by
 have key: ∀e vs h',(e= .norm/\J vs h'∨e≠ .norm/\Q e vs h')->Tm p rd c Q e vs h':=λe vs h' q=>by
  rcases q with ⟨rfl,q⟩|⟨hne,q⟩
  ·exact h2 vs h' q
  ·cases e
   ·exact absurd rfl hne
   ·exact q
   ·exact q
 cases v with
 |bool t=>
  cases t
  ·exact Wp.mono (show Wp p rd b vars h _ from h1) key
  ·exact Wp.mono (show Wp p rd a vars h _ from h1) key
 |_=>exact (show False from h1).elim
end Go.Ay
