/- Appends, once more: where the new block lies. Cells of a block of cells. -/
import Derived.Test.YtcdbmkidaecdiaaGreatAy38
namespace Go.Ay
open Go
section
variable {x v u w:V} {sz n m id:Nat} {ws us vs vars:List V} {l:List Nat} {ls:List (List Nat)} {p:Nat->Option Fn} {Q:V->H->Prop} {rd:Option Nat}
section
variable {W:Nat->Prop} {a b c h h':H}
structure uL (h:H)(x:V)(n m:Nat)(sz:Nat)(ws us:List V)(h':H):Prop where
 get:h'.get h.next=some (.cells false (ws++us))
 next:h'.next=h.next+1
 old: ∀k,k≠h.next->dL x k->h'.get k=h.get k
theorem cY.push {y:V}{bytes b:Nat}(o:cY h x sz ws b)(t:SV h y sz us)(F:ws.length=n*sz)(L:us.length=m*sz)(j:0<sz)(Y:0<m)(i:(2*(n+m)+1000)*bytes<=2^48/\n+m<2^62):
  ∃h',xQ h sz bytes x y=some (.sl h.next 0 (n+m) (.un sz),h')/\uL h x n m sz ws us h':=by
 have O:xQ h sz bytes x y=Ay.yB h sz bytes x m us:=by
  simp only[xQ,t.len L j,t.slice]
 rw[O]
 have A:=o.sv
 have f:=A.len F j
 have q:=A.slice
 unfold Ay.yB
 simp only[f,q]
 rw[bI om,bF i]
 have d: ∀g:H,g.next=h.next->(∀k,k≠h.next->dL x k->g.get k=h.get k)-> ∃h',some (V.sl h.next 0 (n+m) (.un sz),g.new (.cells false (ws++us)))=some (.sl h.next 0 (n+m) (.un sz),h')/\uL h x n m sz ws us h':=by
  intro g G J;refine⟨_,rfl,by rw[←G,H.aL],by rw[H.aU,G],λk s r=>?_⟩;rw[H.bG g om];exact J k s r
 rcases o with ⟨rfl,rfl⟩|⟨id,z,R,B,rfl,P,K,Z,U,N⟩
 ·exact d h rfl (λ_ _ _=>rfl)
 ·have:z=n:=Nat.eq_of_mul_eq_mul_right j (P.symm.trans F)
  subst this
  rcases K with rfl|⟨rfl,rfl⟩
  ·simp only[N,if_true]
   exact d (h.set id none) rfl (λk s r=>H.aG h (r id 0 z _ rfl) none)
  ·simp only
   rw[bI om]
   exact d h rfl (λ_ _ _=>rfl)
theorem uL.own (p:uL h x n m sz ws us h')(i:ws.length=n*sz)(d:us.length=m*sz){b:Nat}(f:b<=h.next):cY h' (.sl h.next 0 (n+m) (.un sz)) sz (ws++us) b:=
 .inr ⟨h.next,n+m,_, [],rfl,by rw[jZ,i,d,Nat.add_mul],.inl rfl,f,by rw[p.next];omega,by rw[vF];exact p.get⟩
theorem uL.fx (p:uL h x n m sz ws us h')(j: ∀id off len cap,x= .sl id off len cap->W id):Fx W h h':=
 ⟨by rw[p.next];omega,λid k d=>p.old id om λf off n c e=>λi=>d (i▸j _ _ _ _ e)⟩
theorem cY.zA {b:Nat}(o:cY h v sz ws b)(i:h.next<=h'.next)(f: ∀id off n c,v= .sl id off n c->id<h.next->h'.get id=h.get id):cY h' v sz ws b:=
 o.mono i λid off n c e _ d=>f id off n c e d
theorem cY.in {b:Nat}(o:cY h v sz ws b): ∀id off len cap,v= .sl id off len cap->id<h.next/\b<=id/\off=0:=by
 rcases o with ⟨rfl,_⟩|⟨id,n,cap,d,rfl,_,_,i,f,_⟩
 ·intro _ _ _ _ e;cases e
 ·intro _ _ _ _ e;cases e;exact⟨f,i,rfl⟩
theorem PV.sl (p:PV W h v l)(j:l≠ []): ∃id off len cap,v= .sl id off len cap/\id<h.next/\ ¬W id:=by
 rcases p.si with ⟨_,i⟩|⟨id,off,len,cap,k,vs,d,_,f,_⟩
 ·exfalso
  cases l with
  |nil=>exact j rfl
  |cons x l=>simp [zi,ints] at i
 ·exact⟨id,off,len,cap,d,f,by have:=p.off;rw[d] at this;exact this⟩
theorem PV.mono (p:PV W h v l)(f:Fr h h'):PV W h' v l:=p.fx (Fx.of f)
theorem bE.ne (d:0<n)(L:Pm.bE n l):l≠ []:=λe=>by
 have:=L.len;rw[e] at this;simp at this;omega
theorem Hv (p:PV W h v l)(d:l≠ [])(neg:Bool):Hg neg v=some (.bool neg):=by
 obtain⟨id,i,len,f,rfl,_⟩:=p.sl d
 rfl
abbrev fW (W:Nat->Prop)(h:H)(vs:List V)(ls:List (List Nat)):Prop:=aM (PV W h) vs ls
theorem fW.fx (p:fW W h vs ls)(f:Fx W h h'):fW W h' vs ls:=p.mono λ_ _ x=>x.fx f
theorem fW.Fo {W':Nat->Prop}(p:fW W h vs ls)(d: ∀id,id<h.next->W' id->W id):fW W' h vs ls:=p.mono λ_ _ x=>x.Fo d
theorem fW.at (p:fW W h vs ls){i:Nat}(hi:i<ls.length): ∃v,vs[i]? =some v/\PV W h v (ls.getD i []):=by
 have d:=aM.length p;refine⟨vs[i]'om,dD om,?_⟩;have:=aM.get p i om hi;simpa [List.getD,hi] using this
theorem fW.one (p:PV W h v l):fW W h [v] [l]:=⟨p,trivial⟩
end
theorem PV.fG {W:Nat->Prop}{h:H}(p:PV W h v l):v.cells= [v]/\v.one=true:=⟨(SV.cK p.si).1,(SV.cK p.si).2.1⟩
theorem cT (h:H){z:V}(i:v.cells= [v])(f:v.one=true):lQ h 1 [z] 1 [(0,1,v)]=some (.sl h.next 0 1 (.kn 1),h.new (.cells false [v])):=by
 have d:putAt [z] 0 [v]=some [v]:=by simp [putAt]
 simp [lQ,iS,cX,i,f,d]
theorem SV.one {h:H}{ro:Bool}(f:id<h.next)(i:h.get id=some (.cells ro [v]))(d:Kh):SV h (.sl id 0 1 d) 1 [v]:=SV.all rfl f i d
theorem bW (h:H)(id off:Nat)(f:v.one=true)(i:u.one=true)(d:w.one=true):Wj h 3 (.ptr id off) (.agg [v,u,w])=dX (h.get id) h id off [v,u,w]:=Cd h id off 3 _ rfl (by simp [f,i,d])
theorem cF {y z:V}(h:H)(id:Nat):dX (some (.cells false [x,y,z])) h id 0 [v,u,w]=some (h.set id (some (.cells false [v,u,w]))):=by
 simp [dX,putAt]
theorem aI {h:H}{ro:Bool}(d:h.get id=some (.cells ro [v,u,w])):h.row id 0 3=some [v,u,w]:=by
 simp [H.row,d,sub]
theorem bM (h:H)(f:v.one=true)(i:u.one=true)(d:w.one=true):Cv h (.agg [v,u,w])=some (.ptr h.next 0,h.new (.cells false [v,u,w])):=tL h _ (by simp [f,i,d])
theorem H.Ym (h:H)(n k off m:Nat):(H.mk h.tr n).row k off m=h.row k off m:=rfl
theorem dF {h:H}{ID:Nat}(d:h.next=ID)(c:List V): ∃x,h.new (.cells false c)=x/\x.next=ID+1/\x.get ID=some (.cells false c)/\(∀k,k≠ID->x.get k=h.get k)/\Fr h x:=
 ⟨_,rfl,by rw[H.aU,d],by rw[←d,H.aL],λk f=>H.bG h om _,(Fr.refl h).new _⟩
theorem pJ (h:H)(ID:Nat)(c:List V): ∃x,h.set ID (some (.cells false c))=x/\x.next=h.next/\x.get ID=some (.cells false c)/\ ∀k,k≠ID->x.get k=h.get k:=
 ⟨_,rfl,rfl,H.aS ..,λk d=>H.aG h d _⟩
def pW (r:eH):eH:={r with st:= .busy}
def tX (r:eH)(e:E):eH:={r with st:= .done,pend:=some e}
theorem sZ {args:List V}{h:H}{r:eH}(d:h.get id=some (.loop r))(j:args.length=r.pars.length)(iP:r.st= .ready)
  (f: ∀h1,h1.get id=some (.loop (pW r))->h1.next=h.next->(∀k,k≠id->h1.get k=h.get k)->Wp p (some id) r.assign ((r.pars.zip args).foldl (λvs q=>vs.set q.1 q.2) r.vars) h (λe vars h'=>e= .norm/\h'=h/\Wp p (some id) r.body vars h1 (Jc id Q))):Ey p id args h Q:=by
 refine acY d j ((f _ (H.aS h id _) rfl λk i=>H.aG h i _).mono ?_)
 rintro e vars h' ⟨rfl,rfl,w⟩
 exact⟨rfl,r,d,iP,w⟩
theorem oX {h:H}{r:eH}(iP:r.st= .ready)(d:r.pend=none)(f:h.get id=some (.loop (pW r)))(q:Q (.bool true) (h.set id (some (.loop r)))):Jc id Q .norm vars h:=by
 refine⟨_,f,?_⟩
 have e:({pW r with st:= .ready,pend:=none}:eH)=r:=by
  cases r;simp only at iP d;subst iP d
  rfl
 show Q (.bool true) (h.set id (some (.loop {pW r with st:= .ready,pend:=none})));rw[e];exact q
theorem Ta {h:H}{r:eH}(d:h.get id=some (.loop (pW r)))(q:Q (.bool false) (h.set id (some (.loop (tX r .ret))))):Jc id Q .ret vars h:=⟨_,d,q⟩
theorem DS {h:H}{r:eH}(d:h.get id=some (.loop (pW r)))(q:Q (.bool false) (h.set id (some (.loop (tX r (.exit n)))))):Jc id Q (.exit n) vars h:=⟨_,d,q⟩
theorem uJ {g:Nat}{args:List V}{h:H}{r:eH}(k: ∀r',r'=r->Ev p g args (h.new (.loop r')) Q):Ev p g args (h.new (.loop r)) Q:=k r rfl
theorem xW {a c:C}{h:H}{Q:E->List V->H->Prop}(J:List V->H->Prop)(f:Wp p rd a vars h (λe v h'=>e= .norm/\J v h'∨e≠ .norm/\Q e v h'))(h2: ∀v h',J v h'->Wp p rd c v h' Q):Wp p rd (.seq a c) vars h Q:=by
 rw[VN];refine f.mono λe v h' x=>?_
 rcases x with ⟨rfl,x⟩|⟨d,x⟩
 ·exact h2 v h' x
 ·cases e
  ·exact absurd rfl d
  ·exact x
  ·exact x
theorem bJ {a c:C}{k:Nat}{h:H}{Q:E->List V->H->Prop}(J:List V->H->Prop)(d:Wp p rd (.loop a) vars h (λe v h'=>e= .exit k/\J v h'))(h2: ∀v h',J v h'->Wp p rd c v h' Q):Wp p rd (.loop a) vars h (vH k (On p rd c Q)):=
 d.mono λe v h' x=>by
  obtain⟨rfl,x⟩:=x;rw[An,Md];exact h2 v h' x
theorem jT {p:Nat->Option Ay.Fn}{a b c:C}{h:H}{Q:E->List V->H->Prop}(J:List V->H->Prop)(i:Nh p rd a b vars h (λe vs h'=>e= .norm/\J vs h'∨e≠ .norm/\Q e vs h') v)(h2: ∀vs h',J vs h'->Wp p rd c vs h' Q):Nh p rd a b vars h (On p rd c Q) v:=by
 have d: ∀e vs h',(e= .norm/\J vs h'∨e≠ .norm/\Q e vs h')->On p rd c Q e vs h':=λe vs h' q=>by
  rcases q with ⟨rfl,q⟩|⟨f,q⟩
  ·exact h2 vs h' q
  ·cases e
   ·exact absurd rfl f
   ·exact q
   ·exact q
 cases v with
 |bool t=>
  cases t
  ·exact Wp.mono (show Wp p rd b vars h _ from i) d
  ·exact Wp.mono (show Wp p rd a vars h _ from i) d
 |_=>exact (show False from i).elim
end
end Go.Ay
