/- Appends, once more: where the new block lies. Cells of a block of cells. -/
import Derived.Test.YtcdbmkidaecdiaaGreatAy38
namespace Go.Ay
open Go
section
variable {x v u w:V} {sz n m id:Nat} {ws us vs vars:List V} {l:List Nat} {ls:List (List Nat)} {p:Nat->Option Fn} {Q:V->H->Prop} {rd:Option Nat}
section
variable {W:Nat->Prop} {a b c h h':H}
structure vG (h:H)(x:V)(n m:Nat)(sz:Nat)(ws us:List V)(h':H):Prop where
 get:h'.get h.next=some (.cells false (ws++us))
 next:h'.next=h.next+1
 old: ∀k,k≠h.next->dR x k->h'.get k=h.get k
theorem dH.push {y:V}{bytes b:Nat}(o:dH h x sz ws b)(A:SV h y sz us)(t:ws.length=n*sz)(O:us.length=m*sz)(q:0<sz)(U:0<m)(e:(2*(n+m)+1000)*bytes<=2^48/\n+m<2^62):
  ∃h',zK h sz bytes x y=some (.sl h.next 0 (n+m) (.un sz),h')/\vG h x n m sz ws us h':=by
 have N:zK h sz bytes x y=Ay.Fj h sz bytes x m us:=by
  simp only[zK,A.len O q,A.slice]
 rw[N]
 have s:=o.sv
 have f:=s.len t q
 have i:=s.slice
 unfold Ay.Fj
 simp only[f,i]
 rw[bU om,bJ e]
 have d: ∀g:H,g.next=h.next->(∀k,k≠h.next->dR x k->g.get k=h.get k)-> ∃h',some (V.sl h.next 0 (n+m) (.un sz),g.new (.cells false (ws++us)))=some (.sl h.next 0 (n+m) (.un sz),h')/\vG h x n m sz ws us h':=by
  intro g z K;refine⟨_,rfl,by rw[←z,H.aL],by rw[H.aW,z],λk r j=>?_⟩;rw[H.bG g om];exact K k r j
 rcases o with ⟨rfl,rfl⟩|⟨id,F,L,B,rfl,G,J,R,Y,P⟩
 ·exact d h rfl (λ_ _ _=>rfl)
 ·have:F=n:=Nat.eq_of_mul_eq_mul_right q (G.symm.trans t)
  subst this
  rcases J with rfl|⟨rfl,rfl⟩
  ·simp only[P,if_true]
   exact d (h.set id none) rfl (λk r j=>H.aH h (j id 0 F _ rfl) none)
  ·simp only
   rw[bU om]
   exact d h rfl (λ_ _ _=>rfl)
theorem vG.own (p:vG h x n m sz ws us h')(d:ws.length=n*sz)(f:us.length=m*sz){b:Nat}(e:b<=h.next):dH h' (.sl h.next 0 (n+m) (.un sz)) sz (ws++us) b:=
 .inr ⟨h.next,n+m,_, [],rfl,by rw[iV,d,f,Nat.add_mul],.inl rfl,e,by rw[p.next];omega,by rw[tZ];exact p.get⟩
theorem vG.fx (p:vG h x n m sz ws us h')(i: ∀id off len cap,x= .sl id off len cap->W id):Fx W h h':=
 ⟨by rw[p.next];omega,λid j d=>p.old id om λf off n c e=>λg=>d (g▸i _ _ _ _ e)⟩
theorem dH.tU {b:Nat}(o:dH h v sz ws b)(f:h.next<=h'.next)(g: ∀id off n c,v= .sl id off n c->id<h.next->h'.get id=h.get id):dH h' v sz ws b:=
 o.mono f λid off n c e _ d=>g id off n c e d
theorem dH.in {b:Nat}(o:dH h v sz ws b): ∀id off len cap,v= .sl id off len cap->id<h.next/\b<=id/\off=0:=by
 rcases o with ⟨rfl,_⟩|⟨id,n,cap,d,rfl,_,_,f,g,_⟩
 ·intro _ _ _ _ e;cases e
 ·intro _ _ _ _ e;cases e;exact⟨g,f,rfl⟩
theorem PV.sl (p:PV W h v l)(f:l≠ []): ∃id off len cap,v= .sl id off len cap/\id<h.next/\ ¬W id:=by
 rcases p.si with ⟨_,g⟩|⟨id,off,len,cap,i,vs,d,_,e,_⟩
 ·exfalso
  cases l with
  |nil=>exact f rfl
  |cons x l=>simp [zi,ints] at g
 ·exact⟨id,off,len,cap,d,e,by have:=p.off;rw[d] at this;exact this⟩
theorem PV.mono (p:PV W h v l)(f:Fr h h'):PV W h' v l:=p.fx (Fx.of f)
theorem aY.ne (d:0<n)(L:Pm.aY n l):l≠ []:=λe=>by
 have:=L.len;rw[e] at this;simp at this;omega
theorem Hr (p:PV W h v l)(d:l≠ [])(neg:Bool):Ht neg v=some (.bool neg):=by
 obtain⟨id,f,len,e,rfl,_⟩:=p.sl d
 rfl
abbrev dZ (W:Nat->Prop)(h:H)(vs:List V)(ls:List (List Nat)):Prop:=aN (PV W h) vs ls
theorem dZ.fx (p:dZ W h vs ls)(f:Fx W h h'):dZ W h' vs ls:=p.mono λ_ _ x=>x.fx f
theorem dZ.kO {W':Nat->Prop}(p:dZ W h vs ls)(d: ∀id,id<h.next->W' id->W id):dZ W' h vs ls:=p.mono λ_ _ x=>x.kO d
theorem dZ.at (p:dZ W h vs ls){i:Nat}(hi:i<ls.length): ∃v,vs[i]? =some v/\PV W h v (ls.getD i []):=by
 have d:=aN.length p;refine⟨vs[i]'om,dD om,?_⟩;have:=aN.get p i om hi;simpa [List.getD,hi] using this
theorem dZ.one (p:PV W h v l):dZ W h [v] [l]:=⟨p,trivial⟩
end
theorem PV.fG {W:Nat->Prop}{h:H}(p:PV W h v l):v.cells= [v]/\v.one=true:=⟨(SV.cT p.si).1,(SV.cT p.si).2.1⟩
theorem cK (h:H){z:V}(d:v.cells= [v])(e:v.one=true):mH h 1 [z] 1 [(0,1,v)]=some (.sl h.next 0 1 (.kn 1),h.new (.cells false [v])):=by
 have f:putAt [z] 0 [v]=some [v]:=by simp [putAt]
 simp [mH,iK,dP,d,e,f]
theorem SV.one {h:H}{ro:Bool}(e:id<h.next)(f:h.get id=some (.cells ro [v]))(d:pY):SV h (.sl id 0 1 d) 1 [v]:=SV.all rfl e f d
theorem cF (h:H)(id off:Nat)(d:v.one=true)(f:u.one=true)(e:w.one=true):Wz h 3 (.ptr id off) (.agg [v,u,w])=eU (h.get id) h id off [v,u,w]:=Di h id off 3 _ rfl (by simp [d,f,e])
theorem cH {y z:V}(h:H)(id:Nat):eU (some (.cells false [x,y,z])) h id 0 [v,u,w]=some (h.set id (some (.cells false [v,u,w]))):=by
 simp [eU,putAt]
theorem aJ {h:H}{ro:Bool}(d:h.get id=some (.cells ro [v,u,w])):h.row id 0 3=some [v,u,w]:=by
 simp [H.row,d,sub]
theorem bV (h:H)(d:v.one=true)(f:u.one=true)(e:w.one=true):Ce h (.agg [v,u,w])=some (.ptr h.next 0,h.new (.cells false [v,u,w])):=lG h _ (by simp [d,f,e])
theorem H.BJ (h:H)(n k off m:Nat):(H.mk h.tr n).row k off m=h.row k off m:=rfl
theorem dK {h:H}{ID:Nat}(d:h.next=ID)(c:List V): ∃x,h.new (.cells false c)=x/\x.next=ID+1/\x.get ID=some (.cells false c)/\(∀k,k≠ID->x.get k=h.get k)/\Fr h x:=
 ⟨_,rfl,by rw[H.aW,d],by rw[←d,H.aL],λk e=>H.bG h om _,(Fr.refl h).new _⟩
theorem mV (h:H)(ID:Nat)(c:List V): ∃x,h.set ID (some (.cells false c))=x/\x.next=h.next/\x.get ID=some (.cells false c)/\ ∀k,k≠ID->x.get k=h.get k:=
 ⟨_,rfl,rfl,H.aU ..,λk d=>H.aH h d _⟩
def qE (r:fK):fK:={r with st:= .busy}
def vD (r:fK)(e:E):fK:={r with st:= .done,pend:=some e}
theorem uC {args:List V}{h:H}{r:fK}(d:h.get id=some (.loop r))(g:args.length=r.pars.length)(jI:r.st= .ready)
  (i: ∀h1,h1.get id=some (.loop (qE r))->h1.next=h.next->(∀k,k≠id->h1.get k=h.get k)->Wp p (some id) r.assign ((r.pars.zip args).foldl (λvs q=>vs.set q.1 q.2) r.vars) h (λe vars h'=>e= .norm/\h'=h/\Wp p (some id) r.body vars h1 (Kq id Q))):Ey p id args h Q:=by
 refine afA d g ((i _ (H.aU h id _) rfl λk f=>H.aH h f _).mono ?_)
 rintro e vars h' ⟨rfl,rfl,w⟩
 exact⟨rfl,r,d,jI,w⟩
theorem pU {h:H}{r:fK}(jI:r.st= .ready)(d:r.pend=none)(f:h.get id=some (.loop (qE r)))(q:Q (.bool true) (h.set id (some (.loop r)))):Kq id Q .norm vars h:=by
 refine⟨_,f,?_⟩
 have e:({qE r with st:= .ready,pend:=none}:fK)=r:=by
  cases r;simp only at jI d;subst jI d
  rfl
 show Q (.bool true) (h.set id (some (.loop {qE r with st:= .ready,pend:=none})));rw[e];exact q
theorem Ty {h:H}{r:fK}(d:h.get id=some (.loop (qE r)))(q:Q (.bool false) (h.set id (some (.loop (vD r .ret))))):Kq id Q .ret vars h:=⟨_,d,q⟩
theorem CU {h:H}{r:fK}(d:h.get id=some (.loop (qE r)))(q:Q (.bool false) (h.set id (some (.loop (vD r (.exit n)))))):Kq id Q (.exit n) vars h:=⟨_,d,q⟩
theorem wF {g:Nat}{args:List V}{h:H}{r:fK}(k: ∀r',r'=r->Ev p g args (h.new (.loop r')) Q):Ev p g args (h.new (.loop r)) Q:=k r rfl
theorem Ix {a c:C}{h:H}{Q:E->List V->H->Prop}(J:List V->H->Prop)(f:Wp p rd a vars h (λe v h'=>e= .norm/\J v h'∨e≠ .norm/\Q e v h'))(h2: ∀v h',J v h'->Wp p rd c v h' Q):Wp p rd (.seq a c) vars h Q:=by
 rw[TU];refine f.mono λe v h' x=>?_
 rcases x with ⟨rfl,x⟩|⟨d,x⟩
 ·exact h2 v h' x
 ·cases e
  ·exact absurd rfl d
  ·exact x
  ·exact x
theorem bQ {a c:C}{k:Nat}{h:H}{Q:E->List V->H->Prop}(J:List V->H->Prop)(d:Wp p rd (.loop a) vars h (λe v h'=>e= .exit k/\J v h'))(h2: ∀v h',J v h'->Wp p rd c v h' Q):Wp p rd (.loop a) vars h (xE k (Pn p rd c Q)):=
 d.mono λe v h' x=>by
  obtain⟨rfl,x⟩:=x;rw[Cb,Qg];exact h2 v h' x
theorem mM {p:Nat->Option Ay.Fn}{a b c:C}{h:H}{Q:E->List V->H->Prop}(J:List V->H->Prop)(f:Rf p rd a b vars h (λe vs h'=>e= .norm/\J vs h'∨e≠ .norm/\Q e vs h') v)(h2: ∀vs h',J vs h'->Wp p rd c vs h' Q):Rf p rd a b vars h (Pn p rd c Q) v:=by
 have d: ∀e vs h',(e= .norm/\J vs h'∨e≠ .norm/\Q e vs h')->Pn p rd c Q e vs h':=λe vs h' q=>by
  rcases q with ⟨rfl,q⟩|⟨g,q⟩
  ·exact h2 vs h' q
  ·cases e
   ·exact absurd rfl g
   ·exact q
   ·exact q
 cases v with
 |bool t=>
  cases t
  ·exact Wp.mono (show Wp p rd b vars h _ from f) d
  ·exact Wp.mono (show Wp p rd a vars h _ from f) d
 |_=>exact (show False from f).elim
end
end Go.Ay
