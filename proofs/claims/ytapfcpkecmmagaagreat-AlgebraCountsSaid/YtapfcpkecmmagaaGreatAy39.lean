/- Appends, once more: where the new block lies. Cells of a block of cells. -/
import Derived.Test.YtapfcpkecmmagaaGreatAy38
namespace Go.Ay
open Go
section
variable {x v u w:V} {sz n m id:Nat} {ws us vs vars:List V} {l:List Nat} {ls:List (List Nat)} {p:Nat->Option Fn} {Q:V->H->Prop} {rd:Option Nat}
section
variable {W:Nat->Prop} {a b c h h':H}
structure Pushd (h:H)(x:V)(n m:Nat)(sz:Nat)(ws us:List V)(h':H):Prop where
 get:h'.get h.next=some (.cells false (ws++us))
 next:h'.next=h.next+1
 old: ∀k,k≠h.next->dF x k->h'.get k=h.get k
theorem Own.push {y:V}{bytes b:Nat}(o:Own h x sz ws b)(z:SV h y sz us)(s:ws.length=n*sz)(L:us.length=m*sz)(i:0<sz)(N:0<m)(f:(2*(n+m)+1000)*bytes<=2^48/\n+m<2^62):
  ∃h',qV h sz bytes x y=some (.sl h.next 0 (n+m) (.un sz),h')/\Pushd h x n m sz ws us h':=by
 have e:qV h sz bytes x y=Ay.qB h sz bytes x m us:=by
  simp only[qV,z.len L i,z.slice]
 rw[e]
 have A:=o.sv
 have e:=A.len s i
 have q:=A.slice
 unfold Ay.qB
 simp only[e,q]
 rw[aZ om,aV f]
 have d: ∀g:H,g.next=h.next->(∀k,k≠h.next->dF x k->g.get k=h.get k)-> ∃h',some (V.sl h.next 0 (n+m) (.un sz),g.new (.cells false (ws++us)))=some (.sl h.next 0 (n+m) (.un sz),h')/\Pushd h x n m sz ws us h':=by
  intro g r K;refine⟨_,rfl,by rw[←r,H.aN],by rw[H.aY,r],λk B j=>?_⟩;rw[H.bJ g om];exact K k B j
 rcases o with ⟨rfl,rfl⟩|⟨id,t,e,e,rfl,F,G,e,e,J⟩
 ·exact d h rfl (λ_ _ _=>rfl)
 ·have:t=n:=Nat.eq_of_mul_eq_mul_right i (F.symm.trans s)
  subst this
  rcases G with rfl|⟨rfl,rfl⟩
  ·simp only[J,if_true]
   exact d (h.set id none) rfl (λk B j=>H.aI h (j id 0 t _ rfl) none)
  ·simp only
   rw[aZ om]
   exact d h rfl (λ_ _ _=>rfl)
theorem Pushd.own (p:Pushd h x n m sz ws us h')(e:ws.length=n*sz)(d:us.length=m*sz){b:Nat}(f:b<=h.next):Own h' (.sl h.next 0 (n+m) (.un sz)) sz (ws++us) b:=
 .inr ⟨h.next,n+m,_, [],rfl,by rw[jD,e,d,Nat.add_mul],.inl rfl,f,by rw[p.next];omega,by rw[pN];exact p.get⟩
theorem Pushd.fx (p:Pushd h x n m sz ws us h')(g: ∀id off len cap,x= .sl id off len cap->W id):Fx W h h':=
 ⟨by rw[p.next];omega,λid d d=>p.old id om λe off n c e=>λf=>d (f▸g _ _ _ _ e)⟩
theorem Own.keep {b:Nat}(o:Own h v sz ws b)(g:h.next<=h'.next)(f: ∀id off n c,v= .sl id off n c->id<h.next->h'.get id=h.get id):Own h' v sz ws b:=
 o.mono g λid off n c e _ d=>f id off n c e d
theorem Own.in {b:Nat}(o:Own h v sz ws b): ∀id off len cap,v= .sl id off len cap->id<h.next/\b<=id/\off=0:=by
 rcases o with ⟨rfl,_⟩|⟨id,n,cap,d,rfl,_,_,f,g,_⟩
 ·intro _ _ _ _ e;cases e
 ·intro _ _ _ _ e;cases e;exact⟨g,f,rfl⟩
theorem PV.sl (p:PV W h v l)(e:l≠ []): ∃id off len cap,v= .sl id off len cap/\id<h.next/\ ¬W id:=by
 rcases p.si with ⟨_,f⟩|⟨id,off,len,cap,i,vs,d,_,g,_⟩
 ·exfalso
  cases l with
  |nil=>exact e rfl
  |cons x l=>simp [zi,ints] at f
 ·exact⟨id,off,len,cap,d,g,by have:=p.off;rw[d] at this;exact this⟩
theorem PV.mono (p:PV W h v l)(f:Fr h h'):PV W h' v l:=p.fx (Fx.of f)
theorem bT.ne (d:0<n)(L:Pm.bT n l):l≠ []:=λe=>by
 have:=L.len;rw[e] at this;simp at this;omega
theorem uY (p:PV W h v l)(d:l≠ [])(neg:Bool):Bo neg v=some (.bool neg):=by
 obtain⟨id,e,len,e,rfl,_⟩:=p.sl d
 rfl
abbrev PVs (W:Nat->Prop)(h:H)(vs:List V)(ls:List (List Nat)):Prop:=All2 (PV W h) vs ls
theorem PVs.fx (p:PVs W h vs ls)(f:Fx W h h'):PVs W h' vs ls:=p.mono λ_ _ x=>x.fx f
theorem PVs.weak {d:Nat->Prop}(p:PVs W h vs ls)(e: ∀id,id<h.next->d id->W id):PVs d h vs ls:=p.mono λ_ _ x=>x.weak e
theorem PVs.at (p:PVs W h vs ls){i:Nat}(hi:i<ls.length): ∃v,vs[i]? =some v/\PV W h v (ls.getD i []):=by
 have d:=All2.length p;refine⟨vs[i]'om,eX om,?_⟩;have:=All2.get p i om hi;simpa [List.getD,hi] using this
theorem PVs.one (p:PV W h v l):PVs W h [v] [l]:=⟨p,trivial⟩
end
theorem PV.dQ {W:Nat->Prop}{h:H}(p:PV W h v l):v.cells= [v]/\v.one=true:=⟨(SV.dC p.si).1,(SV.dC p.si).2.1⟩
theorem cJ (h:H){z:V}(f:v.cells= [v])(d:v.one=true):pF h 1 [z] 1 [(0,1,v)]=some (.sl h.next 0 1 (.kn 1),h.new (.cells false [v])):=by
 have e:putAt [z] 0 [v]=some [v]:=by simp [putAt]
 simp [pF,gG,dN,f,d,e]
theorem SV.one {h:H}{ro:Bool}(e:id<h.next)(f:h.get id=some (.cells ro [v]))(d:mE):SV h (.sl id 0 1 d) 1 [v]:=SV.all rfl e f d
theorem dO (h:H)(id off:Nat)(e:v.one=true)(f:u.one=true)(d:w.one=true):Kz h 3 (.ptr id off) (.agg [v,u,w])=dS (h.get id) h id off [v,u,w]:=pY h id off 3 _ rfl (by simp [e,f,d])
theorem dD {y z:V}(h:H)(id:Nat):dS (some (.cells false [x,y,z])) h id 0 [v,u,w]=some (h.set id (some (.cells false [v,u,w]))):=by
 simp [dS,putAt]
theorem aS {h:H}{ro:Bool}(d:h.get id=some (.cells ro [v,u,w])):h.row id 0 3=some [v,u,w]:=by
 simp [H.row,d,sub]
theorem bF (h:H)(e:v.one=true)(f:u.one=true)(d:w.one=true):Bk h (.agg [v,u,w])=some (.ptr h.next 0,h.new (.cells false [v,u,w])):=rT h _ (by simp [e,f,d])
theorem H.Ix (h:H)(n k off m:Nat):(H.mk h.tr n).row k off m=h.row k off m:=rfl
theorem dL {h:H}{ID:Nat}(d:h.next=ID)(c:List V): ∃x,h.new (.cells false c)=x/\x.next=ID+1/\x.get ID=some (.cells false c)/\(∀k,k≠ID->x.get k=h.get k)/\Fr h x:=
 ⟨_,rfl,by rw[H.aY,d],by rw[←d,H.aN],λk e=>H.bJ h om _,(Fr.refl h).new _⟩
theorem nP (h:H)(ID:Nat)(c:List V): ∃x,h.set ID (some (.cells false c))=x/\x.next=h.next/\x.get ID=some (.cells false c)/\ ∀k,k≠ID->x.get k=h.get k:=
 ⟨_,rfl,rfl,H.aT ..,λk d=>H.aI h d _⟩
def nW (r:fM):fM:={r with st:= .busy}
def uZ (r:fM)(e:E):fM:={r with st:= .done,pend:=some e}
theorem pM {args:List V}{h:H}{r:fM}(d:h.get id=some (.loop r))(g:args.length=r.pars.length)(gY:r.st= .ready)
  (f: ∀h1,h1.get id=some (.loop (nW r))->h1.next=h.next->(∀k,k≠id->h1.get k=h.get k)->Wp p (some id) r.assign ((r.pars.zip args).foldl (λvs q=>vs.set q.1 q.2) r.vars) h (λe vars h'=>e= .norm/\h'=h/\Wp p (some id) r.body vars h1 (Ca id Q))):Ey p id args h Q:=by
 refine FV d g ((f _ (H.aT h id _) rfl λk i=>H.aI h i _).mono ?_)
 rintro e vars h' ⟨rfl,rfl,w⟩
 exact⟨rfl,r,d,gY,w⟩
theorem pG {h:H}{r:fM}(gY:r.st= .ready)(d:r.pend=none)(f:h.get id=some (.loop (nW r)))(q:Q (.bool true) (h.set id (some (.loop r)))):Ca id Q .norm vars h:=by
 refine⟨_,f,?_⟩
 have e:({nW r with st:= .ready,pend:=none}:fM)=r:=by
  cases r;simp only at gY d;subst gY d
  rfl
 show Q (.bool true) (h.set id (some (.loop {nW r with st:= .ready,pend:=none})));rw[e];exact q
theorem Ec {h:H}{r:fM}(d:h.get id=some (.loop (nW r)))(q:Q (.bool false) (h.set id (some (.loop (uZ r .ret))))):Ca id Q .ret vars h:=⟨_,d,q⟩
theorem sJ {g:Nat}{args:List V}{h:H}{r:fM}(k: ∀r',r'=r->Ev p g args (h.new (.loop r')) Q):Ev p g args (h.new (.loop r)) Q:=k r rfl
theorem yW {a c:C}{h:H}{Q:E->List V->H->Prop}(J:List V->H->Prop)(f:Wp p rd a vars h (λe v h'=>e= .norm/\J v h'∨e≠ .norm/\Q e v h'))(h2: ∀v h',J v h'->Wp p rd c v h' Q):Wp p rd (.seq a c) vars h Q:=by
 rw[Uf];refine f.mono λe v h' x=>?_
 rcases x with ⟨rfl,x⟩|⟨d,x⟩
 ·exact h2 v h' x
 ·cases e
  ·exact absurd rfl d
  ·exact x
  ·exact x
theorem bW {a c:C}{k:Nat}{h:H}{Q:E->List V->H->Prop}(J:List V->H->Prop)(d:Wp p rd (.loop a) vars h (λe v h'=>e= .exit k/\J v h'))(h2: ∀v h',J v h'->Wp p rd c v h' Q):Wp p rd (.loop a) vars h (oJ k (Bp p rd c Q)):=
 d.mono λe v h' x=>by
  obtain⟨rfl,x⟩:=x;rw[rQ,zG];exact h2 v h' x
theorem kB {p:Nat->Option Ay.Fn}{a b c:C}{h:H}{Q:E->List V->H->Prop}(J:List V->H->Prop)(f:Ac p rd a b vars h (λe vs h'=>e= .norm/\J vs h'∨e≠ .norm/\Q e vs h') v)(h2: ∀vs h',J vs h'->Wp p rd c vs h' Q):Ac p rd a b vars h (Bp p rd c Q) v:=by
 have d: ∀e vs h',(e= .norm/\J vs h'∨e≠ .norm/\Q e vs h')->Bp p rd c Q e vs h':=λe vs h' q=>by
  rcases q with ⟨rfl,q⟩|⟨g,q⟩
  ·exact h2 vs h' q
  ·cases e
   ·exact absurd rfl g
   ·exact q
   ·exact q
 cases v with
 |bool t=>
  cases t
  ·exact Wp.mono (show Wp p rd b vars h _ from f) d
  ·exact Wp.mono (show Wp p rd a vars h _ from f) d
 |_=>exact (show False from f).elim
end
end Go.Ay
