/- Appends, once more: where the new block lies. Cells of a block of cells. -/
import Derived.Test.YtcdbmkidaecdiaaGreatAy38
namespace Go.Ay
open Go
section
variable {x v u w:V} {sz n m id:Nat} {ws us vs vars:List V} {l:List Nat} {ls:List (List Nat)} {p:Nat->Option Fn} {Q:V->H->Prop} {rd:Option Nat}
section
variable {W:Nat->Prop} {a b c h h':H}
structure uV (h:H)(x:V)(n m:Nat)(sz:Nat)(ws us:List V)(h':H):Prop where
 get:h'.get h.next=some (.cells false (ws++us))
 next:h'.next=h.next+1
 old: ∀k,k≠h.next->cZ x k->h'.get k=h.get k
theorem cQ.push {y:V}{bytes b:Nat}(o:cQ h x sz ws b)(B:SV h y sz us)(F:ws.length=n*sz)(G:us.length=m*sz)(q:0<sz)(R:0<m)(f:(2*(n+m)+1000)*bytes<=2^48/\n+m<2^62):
  ∃h',yE h sz bytes x y=some (.sl h.next 0 (n+m) (.un sz),h')/\uV h x n m sz ws us h':=by
 have K:yE h sz bytes x y=Ay.yA h sz bytes x m us:=by
  simp only[yE,B.len G q,B.slice]
 rw[K]
 have A:=o.sv
 have e:=A.len F q
 have j:=A.slice
 unfold Ay.yA
 simp only[e,j]
 rw[bL om,bJ f]
 have d: ∀g:H,g.next=h.next->(∀k,k≠h.next->cZ x k->g.get k=h.get k)-> ∃h',some (V.sl h.next 0 (n+m) (.un sz),g.new (.cells false (ws++us)))=some (.sl h.next 0 (n+m) (.un sz),h')/\uV h x n m sz ws us h':=by
  intro g z O;refine⟨_,rfl,by rw[←z,H.aL],by rw[H.aU,z],λk r i=>?_⟩;rw[H.bD g om];exact O k r i
 rcases o with ⟨rfl,rfl⟩|⟨id,t,N,s,rfl,L,P,U,Y,J⟩
 ·exact d h rfl (λ_ _ _=>rfl)
 ·have:t=n:=Nat.eq_of_mul_eq_mul_right q (L.symm.trans F)
  subst this
  rcases P with rfl|⟨rfl,rfl⟩
  ·simp only[J,if_true]
   exact d (h.set id none) rfl (λk r i=>H.aH h (i id 0 t _ rfl) none)
  ·simp only
   rw[bL om]
   exact d h rfl (λ_ _ _=>rfl)
theorem uV.own (p:uV h x n m sz ws us h')(f:ws.length=n*sz)(e:us.length=m*sz){b:Nat}(d:b<=h.next):cQ h' (.sl h.next 0 (n+m) (.un sz)) sz (ws++us) b:=
 .inr ⟨h.next,n+m,_, [],rfl,by rw[iA,f,e,Nat.add_mul],.inl rfl,d,by rw[p.next];omega,by rw[tD];exact p.get⟩
theorem uV.fx (p:uV h x n m sz ws us h')(i: ∀id off len cap,x= .sl id off len cap->W id):Fx W h h':=
 ⟨by rw[p.next];omega,λid j f=>p.old id om λd off n c e=>λg=>f (g▸i _ _ _ _ e)⟩
theorem cQ.zI {b:Nat}(o:cQ h v sz ws b)(g:h.next<=h'.next)(f: ∀id off n c,v= .sl id off n c->id<h.next->h'.get id=h.get id):cQ h' v sz ws b:=
 o.mono g λid off n c e _ d=>f id off n c e d
theorem cQ.in {b:Nat}(o:cQ h v sz ws b): ∀id off len cap,v= .sl id off len cap->id<h.next/\b<=id/\off=0:=by
 rcases o with ⟨rfl,_⟩|⟨id,n,cap,d,rfl,_,_,f,g,_⟩
 ·intro _ _ _ _ e;cases e
 ·intro _ _ _ _ e;cases e;exact⟨g,f,rfl⟩
theorem PV.sl (p:PV W h v l)(f:l≠ []): ∃id off len cap,v= .sl id off len cap/\id<h.next/\ ¬W id:=by
 rcases p.si with ⟨_,e⟩|⟨id,off,len,cap,i,vs,d,_,g,_⟩
 ·exfalso
  cases l with
  |nil=>exact f rfl
  |cons x l=>simp [zi,ints] at e
 ·exact⟨id,off,len,cap,d,g,by have:=p.off;rw[d] at this;exact this⟩
theorem PV.mono (p:PV W h v l)(f:Fr h h'):PV W h' v l:=p.fx (Fx.of f)
theorem bC.ne (d:0<n)(L:Pm.bC n l):l≠ []:=λe=>by
 have:=L.len;rw[e] at this;simp at this;omega
theorem Ie (p:PV W h v l)(e:l≠ [])(neg:Bool):Fj neg v=some (.bool neg):=by
 obtain⟨id,d,len,f,rfl,_⟩:=p.sl e
 rfl
abbrev dW (W:Nat->Prop)(h:H)(vs:List V)(ls:List (List Nat)):Prop:=aM (PV W h) vs ls
theorem dW.fx (p:dW W h vs ls)(f:Fx W h h'):dW W h' vs ls:=p.mono λ_ _ x=>x.fx f
theorem dW.iP {W':Nat->Prop}(p:dW W h vs ls)(d: ∀id,id<h.next->W' id->W id):dW W' h vs ls:=p.mono λ_ _ x=>x.iP d
theorem dW.at (p:dW W h vs ls){i:Nat}(hi:i<ls.length): ∃v,vs[i]? =some v/\PV W h v (ls.getD i []):=by
 have d:=aM.length p;refine⟨vs[i]'om,dF om,?_⟩;have:=aM.get p i om hi;simpa [List.getD,hi] using this
theorem dW.one (p:PV W h v l):dW W h [v] [l]:=⟨p,trivial⟩
end
theorem PV.dP {W:Nat->Prop}{h:H}(p:PV W h v l):v.cells= [v]/\v.one=true:=⟨(SV.cF p.si).1,(SV.cF p.si).2.1⟩
theorem bZ (h:H){z:V}(e:v.cells= [v])(f:v.one=true):mH h 1 [z] 1 [(0,1,v)]=some (.sl h.next 0 1 (.kn 1),h.new (.cells false [v])):=by
 have d:putAt [z] 0 [v]=some [v]:=by simp [putAt]
 simp [mH,gZ,dC,e,f,d]
theorem SV.one {h:H}{ro:Bool}(e:id<h.next)(f:h.get id=some (.cells ro [v]))(d:pF):SV h (.sl id 0 1 d) 1 [v]:=SV.all rfl e f d
theorem bI (h:H)(id off:Nat)(d:v.one=true)(f:u.one=true)(e:w.one=true):Xh h 3 (.ptr id off) (.agg [v,u,w])=dR (h.get id) h id off [v,u,w]:=By h id off 3 _ rfl (by simp [d,f,e])
theorem bG {y z:V}(h:H)(id:Nat):dR (some (.cells false [x,y,z])) h id 0 [v,u,w]=some (h.set id (some (.cells false [v,u,w]))):=by
 simp [dR,putAt]
theorem aG {h:H}{ro:Bool}(d:h.get id=some (.cells ro [v,u,w])):h.row id 0 3=some [v,u,w]:=by
 simp [H.row,d,sub]
theorem aQ (h:H)(d:v.one=true)(f:u.one=true)(e:w.one=true):En h (.agg [v,u,w])=some (.ptr h.next 0,h.new (.cells false [v,u,w])):=tJ h _ (by simp [d,f,e])
theorem H.Zj (h:H)(n k off m:Nat):(H.mk h.tr n).row k off m=h.row k off m:=rfl
theorem cU {h:H}{ID:Nat}(d:h.next=ID)(c:List V): ∃x,h.new (.cells false c)=x/\x.next=ID+1/\x.get ID=some (.cells false c)/\(∀k,k≠ID->x.get k=h.get k)/\Fr h x:=
 ⟨_,rfl,by rw[H.aU,d],by rw[←d,H.aL],λk e=>H.bD h om _,(Fr.refl h).new _⟩
theorem mD (h:H)(ID:Nat)(c:List V): ∃x,h.set ID (some (.cells false c))=x/\x.next=h.next/\x.get ID=some (.cells false c)/\ ∀k,k≠ID->x.get k=h.get k:=
 ⟨_,rfl,rfl,H.aS ..,λk d=>H.aH h d _⟩
def oV (r:dY):dY:={r with st:= .busy}
def tM (r:dY)(e:E):dY:={r with st:= .done,pend:=some e}
theorem tE {args:List V}{h:H}{r:dY}(d:h.get id=some (.loop r))(f:args.length=r.pars.length)(iB:r.st= .ready)
  (g: ∀h1,h1.get id=some (.loop (oV r))->h1.next=h.next->(∀k,k≠id->h1.get k=h.get k)->Wp p (some id) r.assign ((r.pars.zip args).foldl (λvs q=>vs.set q.1 q.2) r.vars) h (λe vars h'=>e= .norm/\h'=h/\Wp p (some id) r.body vars h1 (Jp id Q))):Ey p id args h Q:=by
 refine aeQ d f ((g _ (H.aS h id _) rfl λk i=>H.aH h i _).mono ?_)
 rintro e vars h' ⟨rfl,rfl,w⟩
 exact⟨rfl,r,d,iB,w⟩
theorem oP {h:H}{r:dY}(iB:r.st= .ready)(d:r.pend=none)(f:h.get id=some (.loop (oV r)))(q:Q (.bool true) (h.set id (some (.loop r)))):Jp id Q .norm vars h:=by
 refine⟨_,f,?_⟩
 have e:({oV r with st:= .ready,pend:=none}:dY)=r:=by
  cases r;simp only at iB d;subst iB d
  rfl
 show Q (.bool true) (h.set id (some (.loop {oV r with st:= .ready,pend:=none})));rw[e];exact q
theorem Tl {h:H}{r:dY}(d:h.get id=some (.loop (oV r)))(q:Q (.bool false) (h.set id (some (.loop (tM r .ret))))):Jp id Q .ret vars h:=⟨_,d,q⟩
theorem FN {h:H}{r:dY}(d:h.get id=some (.loop (oV r)))(q:Q (.bool false) (h.set id (some (.loop (tM r (.exit n)))))):Jp id Q (.exit n) vars h:=⟨_,d,q⟩
theorem uT {g:Nat}{args:List V}{h:H}{r:dY}(k: ∀r',r'=r->Ev p g args (h.new (.loop r')) Q):Ev p g args (h.new (.loop r)) Q:=k r rfl
theorem Gw {a c:C}{h:H}{Q:E->List V->H->Prop}(J:List V->H->Prop)(f:Wp p rd a vars h (λe v h'=>e= .norm/\J v h'∨e≠ .norm/\Q e v h'))(h2: ∀v h',J v h'->Wp p rd c v h' Q):Wp p rd (.seq a c) vars h Q:=by
 rw[TC];refine f.mono λe v h' x=>?_
 rcases x with ⟨rfl,x⟩|⟨d,x⟩
 ·exact h2 v h' x
 ·cases e
  ·exact absurd rfl d
  ·exact x
  ·exact x
theorem bQ {a c:C}{k:Nat}{h:H}{Q:E->List V->H->Prop}(J:List V->H->Prop)(d:Wp p rd (.loop a) vars h (λe v h'=>e= .exit k/\J v h'))(h2: ∀v h',J v h'->Wp p rd c v h' Q):Wp p rd (.loop a) vars h (vN k (Nu p rd c Q)):=
 d.mono λe v h' x=>by
  obtain⟨rfl,x⟩:=x;rw[Aw,Pa];exact h2 v h' x
theorem mZ {p:Nat->Option Ay.Fn}{a b c:C}{h:H}{Q:E->List V->H->Prop}(J:List V->H->Prop)(f:Ot p rd a b vars h (λe vs h'=>e= .norm/\J vs h'∨e≠ .norm/\Q e vs h') v)(h2: ∀vs h',J vs h'->Wp p rd c vs h' Q):Ot p rd a b vars h (Nu p rd c Q) v:=by
 have d: ∀e vs h',(e= .norm/\J vs h'∨e≠ .norm/\Q e vs h')->Nu p rd c Q e vs h':=λe vs h' q=>by
  rcases q with ⟨rfl,q⟩|⟨g,q⟩
  ·exact h2 vs h' q
  ·cases e
   ·exact absurd rfl g
   ·exact q
   ·exact q
 cases v with
 |bool t=>
  cases t
  ·exact Wp.mono (show Wp p rd b vars h _ from f) d
  ·exact Wp.mono (show Wp p rd a vars h _ from f) d
 |_=>exact (show False from f).elim
end
end Go.Ay
