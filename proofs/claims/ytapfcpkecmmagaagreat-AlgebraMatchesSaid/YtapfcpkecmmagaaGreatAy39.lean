/- Appends, once more: where the new block lies. Cells of a block of cells. -/
import Derived.Test.YtapfcpkecmmagaaGreatAy38
namespace Go.Ay
open Go
section
variable {x v u w:V} {sz n m id:Nat} {ws us vs vars:List V} {l:List Nat} {ls:List (List Nat)} {p:Nat->Option Fn} {Q:V->H->Prop} {rd:Option Nat}
section
variable {W:Nat->Prop} {a b c h h':H}
structure Pushd (h:H)(x:V)(n m:Nat)(sz:Nat)(ws us:List V)(h':H):Prop where
 get:h'.get h.next=some (.cells false (ws++us))
 next:h'.next=h.next+1
 old: ∀k,k≠h.next->dH x k->h'.get k=h.get k
theorem Own.push {y:V}{bytes b:Nat}(o:Own h x sz ws b)(r:SV h y sz us)(B:ws.length=n*sz)(J:us.length=m*sz)(i:0<sz)(N:0<m)(f:(2*(n+m)+1000)*bytes<=2^48/\n+m<2^62):
  ∃h',qY h sz bytes x y=some (.sl h.next 0 (n+m) (.un sz),h')/\Pushd h x n m sz ws us h':=by
 have e:qY h sz bytes x y=Ay.oT h sz bytes x m us:=by
  simp only[qY,r.len J i,r.slice]
 rw[e]
 have s:=o.sv
 have e:=s.len B i
 have q:=s.slice
 unfold Ay.oT
 simp only[e,q]
 rw[aZ om,aV f]
 have d: ∀g:H,g.next=h.next->(∀k,k≠h.next->dH x k->g.get k=h.get k)-> ∃h',some (V.sl h.next 0 (n+m) (.un sz),g.new (.cells false (ws++us)))=some (.sl h.next 0 (n+m) (.un sz),h')/\Pushd h x n m sz ws us h':=by
  intro g z F;refine⟨_,rfl,by rw[←z,H.aN],by rw[H.aX,z],λk t j=>?_⟩;rw[H.bL g om];exact F k t j
 rcases o with ⟨rfl,rfl⟩|⟨id,A,e,e,rfl,K,L,e,e,G⟩
 ·exact d h rfl (λ_ _ _=>rfl)
 ·have:A=n:=Nat.eq_of_mul_eq_mul_right i (K.symm.trans B)
  subst this
  rcases L with rfl|⟨rfl,rfl⟩
  ·simp only[G,if_true]
   exact d (h.set id none) rfl (λk t j=>H.aI h (j id 0 A _ rfl) none)
  ·simp only
   rw[aZ om]
   exact d h rfl (λ_ _ _=>rfl)
theorem Pushd.own (p:Pushd h x n m sz ws us h')(f:ws.length=n*sz)(d:us.length=m*sz){b:Nat}(e:b<=h.next):Own h' (.sl h.next 0 (n+m) (.un sz)) sz (ws++us) b:=
 .inr ⟨h.next,n+m,_, [],rfl,by rw[iZ,f,d,Nat.add_mul],.inl rfl,e,by rw[p.next];omega,by rw[qA];exact p.get⟩
theorem Pushd.fx (p:Pushd h x n m sz ws us h')(f: ∀id off len cap,x= .sl id off len cap->W id):Fx W h h':=
 ⟨by rw[p.next];omega,λid d g=>p.old id om λd off n c e=>λd=>g (d▸f _ _ _ _ e)⟩
theorem Own.keep {b:Nat}(o:Own h v sz ws b)(g:h.next<=h'.next)(f: ∀id off n c,v= .sl id off n c->id<h.next->h'.get id=h.get id):Own h' v sz ws b:=
 o.mono g λid off n c e _ d=>f id off n c e d
theorem Own.in {b:Nat}(o:Own h v sz ws b): ∀id off len cap,v= .sl id off len cap->id<h.next/\b<=id/\off=0:=by
 rcases o with ⟨rfl,_⟩|⟨id,n,cap,d,rfl,_,_,f,g,_⟩
 ·intro _ _ _ _ e;cases e
 ·intro _ _ _ _ e;cases e;exact⟨g,f,rfl⟩
theorem PV.sl (p:PV W h v l)(e:l≠ []): ∃id off len cap,v= .sl id off len cap/\id<h.next/\ ¬W id:=by
 rcases p.si with ⟨_,g⟩|⟨id,off,len,cap,i,vs,d,_,f,_⟩
 ·exfalso
  cases l with
  |nil=>exact e rfl
  |cons x l=>simp [zi,ints] at g
 ·exact⟨id,off,len,cap,d,f,by have:=p.off;rw[d] at this;exact this⟩
theorem PV.mono (p:PV W h v l)(f:Fr h h'):PV W h' v l:=p.fx (Fx.of f)
theorem bV.ne (d:0<n)(L:Pm.bV n l):l≠ []:=λe=>by
 have:=L.len;rw[e] at this;simp at this;omega
theorem vX (p:PV W h v l)(d:l≠ [])(neg:Bool):By neg v=some (.bool neg):=by
 obtain⟨id,e,len,e,rfl,_⟩:=p.sl d
 rfl
abbrev PVs (W:Nat->Prop)(h:H)(vs:List V)(ls:List (List Nat)):Prop:=All2 (PV W h) vs ls
theorem PVs.fx (p:PVs W h vs ls)(f:Fx W h h'):PVs W h' vs ls:=p.mono λ_ _ x=>x.fx f
theorem PVs.weak {d:Nat->Prop}(p:PVs W h vs ls)(e: ∀id,id<h.next->d id->W id):PVs d h vs ls:=p.mono λ_ _ x=>x.weak e
theorem PVs.at (p:PVs W h vs ls){i:Nat}(hi:i<ls.length): ∃v,vs[i]? =some v/\PV W h v (ls.getD i []):=by
 have d:=All2.length p;refine⟨vs[i]'om,eV om,?_⟩;have:=All2.get p i om hi;simpa [List.getD,hi] using this
theorem PVs.one (p:PV W h v l):PVs W h [v] [l]:=⟨p,trivial⟩
end
theorem PV.dR {W:Nat->Prop}{h:H}(p:PV W h v l):v.cells= [v]/\v.one=true:=⟨(SV.dG p.si).1,(SV.dG p.si).2.1⟩
theorem cJ (h:H){z:V}(e:v.cells= [v])(f:v.one=true):pG h 1 [z] 1 [(0,1,v)]=some (.sl h.next 0 1 (.kn 1),h.new (.cells false [v])):=by
 have d:putAt [z] 0 [v]=some [v]:=by simp [putAt]
 simp [pG,gI,dO,e,f,d]
theorem SV.one {h:H}{ro:Bool}(e:id<h.next)(f:h.get id=some (.cells ro [v]))(d:mF):SV h (.sl id 0 1 d) 1 [v]:=SV.all rfl e f d
theorem dK (h:H)(id off:Nat)(d:v.one=true)(e:u.one=true)(f:w.one=true):Ln h 3 (.ptr id off) (.agg [v,u,w])=dQ (h.get id) h id off [v,u,w]:=qE h id off 3 _ rfl (by simp [d,e,f])
theorem cW {y z:V}(h:H)(id:Nat):dQ (some (.cells false [x,y,z])) h id 0 [v,u,w]=some (h.set id (some (.cells false [v,u,w]))):=by
 simp [dQ,putAt]
theorem aS {h:H}{ro:Bool}(d:h.get id=some (.cells ro [v,u,w])):h.row id 0 3=some [v,u,w]:=by
 simp [H.row,d,sub]
theorem bD (h:H)(d:v.one=true)(e:u.one=true)(f:w.one=true):Ck h (.agg [v,u,w])=some (.ptr h.next 0,h.new (.cells false [v,u,w])):=rO h _ (by simp [d,e,f])
theorem H.Jj (h:H)(n k off m:Nat):(H.mk h.tr n).row k off m=h.row k off m:=rfl
theorem dN {h:H}{ID:Nat}(d:h.next=ID)(c:List V): ∃x,h.new (.cells false c)=x/\x.next=ID+1/\x.get ID=some (.cells false c)/\(∀k,k≠ID->x.get k=h.get k)/\Fr h x:=
 ⟨_,rfl,by rw[H.aX,d],by rw[←d,H.aN],λk e=>H.bL h om _,(Fr.refl h).new _⟩
theorem mS (h:H)(ID:Nat)(c:List V): ∃x,h.set ID (some (.cells false c))=x/\x.next=h.next/\x.get ID=some (.cells false c)/\ ∀k,k≠ID->x.get k=h.get k:=
 ⟨_,rfl,rfl,H.aT ..,λk d=>H.aI h d _⟩
def oI (r:fQ):fQ:={r with st:= .busy}
def uS (r:fQ)(e:E):fQ:={r with st:= .done,pend:=some e}
theorem pX {args:List V}{h:H}{r:fQ}(d:h.get id=some (.loop r))(f:args.length=r.pars.length)(iA:r.st= .ready)
  (i: ∀h1,h1.get id=some (.loop (oI r))->h1.next=h.next->(∀k,k≠id->h1.get k=h.get k)->Wp p (some id) r.assign ((r.pars.zip args).foldl (λvs q=>vs.set q.1 q.2) r.vars) h (λe vars h'=>e= .norm/\h'=h/\Wp p (some id) r.body vars h1 (Bo id Q))):Ey p id args h Q:=by
 refine HB d f ((i _ (H.aT h id _) rfl λk g=>H.aI h g _).mono ?_)
 rintro e vars h' ⟨rfl,rfl,w⟩
 exact⟨rfl,r,d,iA,w⟩
theorem pZ {h:H}{r:fQ}(iA:r.st= .ready)(d:r.pend=none)(f:h.get id=some (.loop (oI r)))(q:Q (.bool true) (h.set id (some (.loop r)))):Bo id Q .norm vars h:=by
 refine⟨_,f,?_⟩
 have e:({oI r with st:= .ready,pend:=none}:fQ)=r:=by
  cases r;simp only at iA d;subst iA d
  rfl
 show Q (.bool true) (h.set id (some (.loop {oI r with st:= .ready,pend:=none})));rw[e];exact q
theorem Ft {h:H}{r:fQ}(d:h.get id=some (.loop (oI r)))(q:Q (.bool false) (h.set id (some (.loop (uS r .ret))))):Bo id Q .ret vars h:=⟨_,d,q⟩
theorem sN {g:Nat}{args:List V}{h:H}{r:fQ}(k: ∀r',r'=r->Ev p g args (h.new (.loop r')) Q):Ev p g args (h.new (.loop r)) Q:=k r rfl
theorem zN {a c:C}{h:H}{Q:E->List V->H->Prop}(J:List V->H->Prop)(f:Wp p rd a vars h (λe v h'=>e= .norm/\J v h'∨e≠ .norm/\Q e v h'))(h2: ∀v h',J v h'->Wp p rd c v h' Q):Wp p rd (.seq a c) vars h Q:=by
 rw[Vu];refine f.mono λe v h' x=>?_
 rcases x with ⟨rfl,x⟩|⟨d,x⟩
 ·exact h2 v h' x
 ·cases e
  ·exact absurd rfl d
  ·exact x
  ·exact x
theorem bX {a c:C}{k:Nat}{h:H}{Q:E->List V->H->Prop}(J:List V->H->Prop)(d:Wp p rd (.loop a) vars h (λe v h'=>e= .exit k/\J v h'))(h2: ∀v h',J v h'->Wp p rd c v h' Q):Wp p rd (.loop a) vars h (oZ k (Ah p rd c Q)):=
 d.mono λe v h' x=>by
  obtain⟨rfl,x⟩:=x;rw[rJ,Bc];exact h2 v h' x
theorem kE {p:Nat->Option Ay.Fn}{a b c:C}{h:H}{Q:E->List V->H->Prop}(J:List V->H->Prop)(g:Av p rd a b vars h (λe vs h'=>e= .norm/\J vs h'∨e≠ .norm/\Q e vs h') v)(h2: ∀vs h',J vs h'->Wp p rd c vs h' Q):Av p rd a b vars h (Ah p rd c Q) v:=by
 have d: ∀e vs h',(e= .norm/\J vs h'∨e≠ .norm/\Q e vs h')->Ah p rd c Q e vs h':=λe vs h' q=>by
  rcases q with ⟨rfl,q⟩|⟨f,q⟩
  ·exact h2 vs h' q
  ·cases e
   ·exact absurd rfl f
   ·exact q
   ·exact q
 cases v with
 |bool t=>
  cases t
  ·exact Wp.mono (show Wp p rd b vars h _ from g) d
  ·exact Wp.mono (show Wp p rd a vars h _ from g) d
 |_=>exact (show False from g).elim
end
end Go.Ay
