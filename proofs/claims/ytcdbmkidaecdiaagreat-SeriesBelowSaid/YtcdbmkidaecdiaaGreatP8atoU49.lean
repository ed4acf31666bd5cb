/- Texts of the claim. -/
import Derived.Test.YtcdbmkidaecdiaaGreatP6atoP5c
import Derived.Test.YtcdbmkidaecdiaaGreatDp2toDp7
set_option maxHeartbeats 64000000
namespace Go.Proofs.YtcdbmkidaecdiaaGreat
open Go Go.Ay Go.Pm
set_option maxRecDepth 100000
structure Ji (b:Nat)(W:Nat->Prop)(h:H)(n:Nat)(tv:V)(ρ:Nat->Nat)(F:Nat->Nat->V)(t:rX):Prop where
 sv:SV h tv 1 (rc n λi=> .sl (ρ i) 0 n (.kn n))
 off:Oa W tv
 row: ∀i,i<n->h.get (ρ i)=some (.cells false (rc n (F i)))
 wb: ∀i,i<n->W (ρ i)
 Pg: ∀id,W id->id<h.next
 low: ∀id,W id->b<=id
 inj: ∀i j,i<n->j<n->ρ i=ρ j->i=j
 ent: ∀i p,i<n->p<n->Slot W h (F i p) (t i p)
section
variable {b:Nat} {W:Nat->Prop} {h h':H} {n:Nat} {tv:V} {ρ:Nat->Nat} {F:Nat->Nat->V} {t:rX}
theorem Ji.open (R:Ji b W h n tv ρ F t):bL tv=some (aC n)/\ ∃id off,Sl tv 1 n id off/\ ∀i,i<n->h.cell id (off+i)=some (.sl (ρ i) 0 n (.kn n)):=by
 have s:=R.sv;have f:(rc n λi=>V.sl (ρ i) 0 n (.kn n)).length=n:=iQ n _;refine⟨by unfold bL;rw[SV.len s (n:=n) om om];rfl,?_⟩;obtain⟨id,off,a,c,d⟩:=SV.shape s n om om;refine⟨id,off,a,λi hi=>?_⟩;rw[d i om,Nk hi]
theorem Ji.cell (R:Ji b W h n tv ρ F t){i p:Nat}(hi:i<n)(a:p<n):h.cell (ρ i) p=some (F i p):=tF (R.row i hi) a
theorem Ji.mono (R:Ji b W h n tv ρ F t)(f:Fr h h'):Ji b W h' n tv ρ F t:=
 ⟨R.sv.mono f,R.off,λi hi=>by rw[f.get _ (R.Pg _ (R.wb i hi))];exact R.row i hi,R.wb,λid a=>jM (R.Pg id a) f.next,R.low,R.inj,λi p hi c=>(R.ent i p hi c).fx (Fx.of f)⟩
theorem Ji.go (R:Ji b W h n tv ρ F t){W':Nat->Prop}(f:Fx W h h')(d: ∀i,i<n->h'.get (ρ i)=h.get (ρ i))(c: ∀id,id<h.next->W' id->W id)(a: ∀id,W id->W' id)(Pg: ∀id,W' id->id<h'.next)(low: ∀id,W' id->b<=id):Ji b W' h' n tv ρ F t:=
 ⟨R.sv.fx R.off f,R.off.kO R.sv c,λi hi=>by rw[d i hi];exact R.row i hi,λi hi=>a _ (R.wb i hi),Pg,low,R.inj,λi p hi j=>(R.ent i p hi j).go f c⟩
def WB (n:Nat)(ρ:Nat->Nat)(id:Nat):Prop:= ∃i,i<n/\ρ i=id
theorem Ji.wbx (R:Ji b W h n tv ρ F t){a c:H}(f:Fx (WB n ρ) a c):Fx W a c:=f.kO λid _ d=>by
 obtain⟨i,hi,rfl⟩:=d;exact R.wb i hi
def F2 (F:Nat->Nat->V)(i p:Nat)(v:V):Nat->Nat->V:=λj q=>if j=i/\q=p then v else F j q
theorem Ji.put (R:Ji b W h n tv ρ F t){i p:Nat}(hi:i<n)(m:p<n){c:V}{x:List Nat}(k:PV W h c x):
  ∃h',eU (h.get (ρ i)) h (ρ i) p [c]=some h'/\Ji b W h' n tv ρ (F2 F i p c) (Pm.put t i p x)/\Fx (WB n ρ) h h'/\h'.next=h.next:=by
 have l:=bT (vs:=rc n (F i)) (off:=p) (by rw[iQ];exact m) h (ρ i) c
 rw[R.row i hi,l,lH]
 refine⟨_,rfl,?_,Fx.set h (W:=WB n ρ) ⟨i,hi,rfl⟩ _,rfl⟩
 have f:Fx W h (h.set (ρ i) (some (.cells false (rc n λj=>if j=p then c else F i j)))):=Fx.set h (R.wb i hi) _
 refine⟨R.sv.fx R.off f,R.off,λj d=>?_,R.wb,R.Pg,R.low,R.inj,λj q d o=>?_⟩
 ·by_cases e:j=i
  ·subst e
   rw[H.aU]
   congr 2
   refine dJ λq _=>?_
   unfold F2
   by_cases a:q=p
   ·rw[bJ a,bJ ⟨rfl,a⟩]
   ·rw[bU a,bU (λh=>a h.2)]
  ·rw[H.aH h (λa=>e (R.inj _ _ d hi a)),R.row j d]
   congr 2
   refine dJ λq _=>?_
   unfold F2
   rw[bU (λh=>e h.1)]
 ·unfold F2 Pm.put
  by_cases e:j=i/\q=p
  ·rw[bJ e,bJ e]
   exact PV.fx k f
  ·rw[bU e,bU e]
   exact (R.ent j q d o).fx f
theorem PV.fresh {v:V}{l:List Nat}(s:SI h' v (zi l))(d: ∀id off len cap,v= .sl id off len cap->h.next<=id)(c: ∀id,W id->id<h.next):PV W h' v l:=by
 refine⟨s,?_⟩
 cases v with
 |sl id off len cap=>exact λa=>by have:=d _ _ _ _ rfl;have:=c id a;omega
 |_=>trivial
theorem Slot.nil {v:V}(s:Slot W h v none):v= .aD:=s
end
theorem Tf (b:Nat)(W:Nat->Prop)(h:H)(n:Nat)(tv:V)(ρ:Nat->Nat)(F:Nat->Nat->V)(t:rX)(vx:V)(x:List Nat)(hn:n<=64)(h0:0<n)(R:Ji b W h n tv ρ F t)(hx:PV W h vx x)(X:aY n x)(TI:pQ n t):
  Ev T 87 [tv,vx] h (λv h'=> ∃F',v= .bool (ins t n 0 x).isSome/\Ji b W h' n tv ρ F' (jK t n x)/\Fx (WB n ρ) h h'):=by
 refine dW rV rfl ?_
 obtain⟨lv,id,a6,sh,_⟩:=R.open
 simp(disch:=omega)only[go_sem,rV,aE]
 refine aI (λk' k hh=> ∃(i:Nat) (y:List Nat) (u:V),(∃g:Nat->V,k= [tv,u,g 2,aC i,g 4,g 5,g 6,g 7])/\i<=n/\ins t (n-i) i y=ins t n 0 x/\PV W hh u y/\aY n y/\Fr h hh/\k'=n-i) n
  ⟨0,x,vx,aB rfl,iB _,rfl,hx,X,Fr.refl h,rfl⟩ ?_
 rintro k' k h2 ⟨i,y,u,⟨g,rfl⟩,hi,r,s,Y,f,rfl⟩
 have q:=R.mono f
 by_cases G:(i:Int)<(n:Int)
 case neg=>
  have N:=bI G;obtain rfl:i=n:=om
  simp(disch:=omega)only[go_sem,lv,N];rw[Nat.sub_self] at r;have a:ins t i 0 x=none:=r.symm;refine⟨F,by rw[a];rfl,?_,Fx.of f⟩;unfold jK;rw[a];exact q
 have N:=cI G
 have c:i<n:=om
 obtain⟨a3,K,d,A,B⟩:=s.si.open
 rw[aS,Y.len] at d A B
 have ci:h2.cell a3 (K+i)=some (aC (y.getD i 0:Nat)):=by rw[B i c];congr 2;simp [zi,Y.len,c]
 have O:=Y.fX c
 obtain⟨p,o⟩:=exI (y.getD i 0)
 rw[o] at ci O
 have l:n-i=(n-(i+1))+1:=om
 rw[l] at r
 obtain⟨_,a5,a4,J,a2⟩:=q.open
 have cr:=a2 i c
 have P:=q.cell c O
 have U:=q.ent i p c O
 by_cases m:p=i
 ·have a:ins t (n-(i+1)) (i+1) y=ins t n 0 x:=by
   rw[←r]
   conv=>rhs;unfold ins
   rw[bJ (o.trans m)]
  have Q:decide ((p:Int)=(i:Int))=true:=cI om;simp(disch:=omega)only[go_sem,lv,N,d.ixa,ci,Q];rw[fJ i];exact⟨n-(i+1),om,i+1,y,u,aB rfl,om,a,s,Y,f,rfl⟩
 have Q:decide ((p:Int)=(i:Int))=false:=bI om
 have e3:decide ((p:Int)<0)=false:=bI om
 have e4:decide ((n:Int)<=(p:Int))=false:=bI om
 cases hto:t i p with
 |none=>
  rw[hto] at U;have a1:=U.nil;rw[a1] at P
  have a:ins t n 0 x=some (i,y):=by
   rw[←r];unfold ins;rw[bU (by rw[o];exact m),o,hto]
  obtain⟨h3,pt,R3,L,n3⟩:=q.put c O s;simp(disch:=omega)only[go_sem,lv,N,d.ixa,ci,Q,e3,e4,J.ixa,cr,P,kP s.fG.1 s.fG.2,pt];have e5:jK t n x=Pm.put t i p y:=by unfold jK;rw[a];simp only;rw[o]
  refine⟨F2 F i p u,by rw[a];rfl,by rw[e5];exact R3,(Fx.of f).trans L (λ_ _ h=>h)⟩
 |some z=>
  rw[hto] at U;have Z:=TI.bF _ _ _ hto;have hz:PV W h2 (F i p) z:=U;have sn:=Hr hz (aY.ne h0 Z) false
  have a:ins t (n-(i+1)) (i+1) (aM y (bZ z))=ins t n 0 x:=by
   rw[←r]
   conv=>rhs;unfold ins
   rw[bU (by rw[o];exact m),o,hto]
  generalize F i p=vz at P hz sn;simp(disch:=omega)only[go_sem,lv,N,d.ixa,ci,Q,e3,e4,J.ixa,cr,P,sn];refine (HJ vz n z h2 om Z hz.si).mono ?_;rintro w h3 nw;have L:=nw.fr;have pw:=nw.pv (W:=W) (λhw=>by have:=q.Pg _ hw;omega);simp(disch:=omega)only[go_sem];refine (vT u w y (bZ z) h3 (by rw[Y.len];omega) (s.si.mono L) pw.si (λj hj=>by rw[jU,Z.len];exact Y.fX (by rw[←Y.len];exact hj))).mono ?_;rintro v h4 ⟨s4,f4,l4⟩;simp(disch:=omega)only[go_sem];rw[fJ i];exact⟨n-(i+1),om,i+1,_,v,aB rfl,om,a,PV.fresh s4 l4 (λid a0=>jM (q.Pg id a0) L.next),Y.mul Z.inv,(f.trans L).trans f4,rfl⟩
section
variable {h:H} {ws:List V} {l:LN} {k:Nat}
theorem vG.frb {d h':H}{x:V}{n m sz:Nat}{us:List V}(p:vG h x n m sz ws us h')(f:Fr d h){a:Nat}{b:List V}(o:dH h x a b d.next):Fr d h':=by
 have r:=f.next;refine⟨by rw[p.next];omega,λid i=>?_⟩;rw[p.old id om (λq j n c e s=>by have:=(o.in _ _ _ _ e).2.1;omega)];exact f.get id i
theorem Je {a:H}{d v:V}(o:dH h d 1 ws a.next)(f:Fr a h)(z:ws.length<1000000){bytes:Nat}(w:bytes<=24):
  ∃h2,zK (h.new (.cells false [v])) 1 bytes d (.sl h.next 0 1 (.kn 1))=some (.sl (h.next+1) 0 (ws.length+1) (.un 1),h2)/\dH h2 (.sl (h.next+1) 0 (ws.length+1) (.un 1)) 1 (ws++ [v]) a.next/\Fr a h2/\h2.next=h.next+2/\ ∀id,id<h.next->dR d id->h2.get id=h.get id:=by
 obtain⟨s,x,r,u,t,j⟩:=dK (h:=h) rfl [v]
 rw[x]
 have i:=o.fr j
 obtain⟨h2,q,c⟩:=i.push (bytes:=bytes) (SV.one om u (.kn 1)) (n:=ws.length) (m:=1) om rfl om om ⟨by
  have:(2*(ws.length+1)+1000)*bytes<=(2*(ws.length+1)+1000)*24:=Nat.mul_le_mul_left _ w
  omega,om⟩
 rw[r] at q
 have y:=f.next
 have p:=c.own om rfl (b:=a.next) om
 rw[r] at p
 have nx:=c.next
 exact⟨h2,q,p,vG.frb c (f.trans j) i,om,λid s h2=>by rw[c.old id om h2,t id om]⟩
theorem SC (t:rX)(i p:Nat):(eR t i p).length<=p:=by
 unfold eR;have:=List.length_filterMap_le (t i) (List.range p);rwa [Xf] at this
theorem Uv (n:Nat)(t:rX): ∀i,(eB n t i).length<=i*n
 |0=>by simp [eB]
 |i+1=>by
  rw[IM,iV,Nat.succ_mul];have:=Uv n t i;have:=SC t i n;omega
theorem yT (b:Nat)(W:Nat->Prop)(h:H)(n:Nat)(x:V)(ρ:Nat->Nat)(F:Nat->Nat->V)(t:rX)(hn:n<=64)(h0:0<n)(R:Ji b W h n x ρ F t)(TI:pQ n t):
  Ev T 130 [x] h (λv h'=> ∃ws,dH h' v 1 ws h.next/\dZ W h ws (fZ n t 0)/\Fr h h'):=by
 refine dW qF rfl ?_
 have B:=R.open.1
 simp(disch:=omega)only[go_sem,qF,aE]
 refine aI (λw c o=> ∃(i:Nat) (d:V) (ws:List V),(∃g:Nat->V,c= [x,g 1,d,aC i,g 4,g 5,g 6,g 7])/\i<=n/\dH o d 1 ws h.next/\dZ W h ws (eB n t i)/\Fr h o/\w=n-i) n
  ⟨0,.aD, [],aB rfl,iB _,dH.aD _ _ _,trivial,Fr.refl h,rfl⟩ ?_
 rintro w c h2 ⟨i,d,ws,⟨g,rfl⟩,hi,m,a,f,rfl⟩
 by_cases A:(i:Int)<(n:Int)
 case neg=>
  have P:=bI A;obtain rfl:i=n:=om
  simp(disch:=omega)only[go_sem,B,P];rw[Vm] at a;exact⟨ws,m,a,f⟩
 have P:=cI A
 have q:i<n:=om
 simp(disch:=omega)only[go_sem,B,P]
 refine uJ (λvs o=> ∃(d:V) (ws:List V),(∃g:Nat->V,vs= [x,g 1,d,aC i,g 4,g 5,g 6,g 7])/\dH o d 1 ws h.next/\dZ W h ws (eB n t (i+1))/\Fr h o) ?_ ?_
 ·refine aI (λw c o=> ∃(j:Nat) (d:V) (ws:List V),(∃g:Nat->V,c= [x,g 1,d,aC i,aC j,g 5,g 6,g 7])/\j<=n/\dH o d 1 ws h.next/\dZ W h ws (eB n t i++eR t i j)/\Fr h o/\w=n-j) n
   ⟨0,d,ws,aB rfl,iB _,m,by unfold eR;rw[List.range_zero,List.filterMap_nil,tZ];exact a,f,rfl⟩ ?_
  clear m a f hi g
  rintro w c O ⟨j,d,ws,⟨g,rfl⟩,hj,m,a,f,rfl⟩
  by_cases p:(j:Int)<(n:Int)
  case neg=>
   have G:=bI p;obtain rfl:j=n:=om
   simp(disch:=omega)only[go_sem,B,G];exact⟨d,ws,aB rfl,m,by rw[IM];exact a,f⟩
  have G:=cI p
  have u:j<n:=om
  have Z:=R.mono f
  obtain⟨_,a0,U,s,L⟩:=Z.open
  have Q:=L i q
  have K:=Z.cell q u
  have J:=R.ent i j q u
  have lw:=aN.length a
  have l1:=Uv n t i
  have l2:=SC t i j
  have l3:i*n<=64*64:=Nat.mul_le_mul om hn
  rw[iV] at lw
  cases hto:t i j with
  |none=>
   rw[hto] at J;rw[J.nil] at K;simp(disch:=omega)only[go_sem,B,G,s.ixa,Q,K];rw[fJ j];refine⟨n-(j+1),om,j+1,d,ws,aB rfl,om,m.fr ((Fr.refl O).bH om),?_,f.bH om,rfl⟩;rw[GI,hto];simpa using a
  |some y=>
   rw[hto] at J;have r:PV W h (F i j) y:=J;have Y:=Hr r (aY.ne h0 (TI.bF _ _ _ hto)) true;generalize F i j=vz at K r Y;obtain⟨S,a1⟩:=exI O.next;simp(disch:=omega)only[go_sem,B,G,s.ixa,Q,K,Y,cK _ (z:= .aD) r.fG.1 r.fG.2];obtain⟨h4,a4,N,f4,n4,_⟩:=Je (v:=vz) m f om (bytes:=24) om;simp(disch:=omega)only[go_sem,a4];rw[fJ j];refine⟨n-(j+1),om,j+1,_,_,aB rfl,om,N,?_,f4,rfl⟩;rw[GI,hto,←Lz];exact a.append (dZ.one r)
 rintro c O ⟨d,ws,⟨g,rfl⟩,m,a,f⟩
 simp(disch:=omega)only[go_sem]
 rw[fJ i]
 exact⟨n-(i+1),om,i+1,d,ws,aB rfl,om,m,a,f,rfl⟩
theorem dZ.open {W:Nat->Prop}{v:V}(sv:SV h v 1 ws)(p:dZ W h ws l):bL v=some (aC (l.length:Int))/\ ∃id off,Sl v 1 l.length id off/\ ∀i,i<l.length->id<h.next/\h.cell id (off+i)=some (ws.getD i .undef)/\PV W h (ws.getD i .undef) (l.getD i []):=by
 have j:=aN.length p;refine⟨by unfold bL;rw[SV.len sv (n:=l.length) om om];rfl,?_⟩;obtain⟨id,off,c,a,f⟩:=SV.shape sv l.length om om;refine⟨id,off,c,λi hi=>⟨a om,?_,?_⟩⟩
 ·rw[f i om];simp [List.getD,show i<ws.length by omega]
 ·obtain⟨w,b,d⟩:=dZ.at p hi
  rw[List.getD,b];exact d
theorem Oo {α:Type}{l:List α}{x d:α}:x∈l.take k↔ ∃q,q<k/\q<l.length/\l.getD q d=x:=by
 constructor
 ·intro h
  obtain⟨q,a,e⟩:=Ad.1 h;rw[zO] at a;refine⟨q,om,om,?_⟩;rw[List.getElem_take] at e;rw[List.getD,dD om,←e];rfl
 ·rintro⟨q,h1,h2,e⟩
  rw[List.getD,dD h2] at e;refine Ad.2 ⟨q,by rw[zO];omega,?_⟩;rw[List.getElem_take];exact e
theorem Ee {x:List Nat}(c:k<l.length):x∈l.take (k+1)↔x∈l.take k∨l.getD k []=x:=by
 rw[Oo (d:= []),Oo (d:= [])];constructor
 ·rintro⟨q,b,a,e⟩
  by_cases h:q=k
  ·subst h;exact .inr e
  ·exact .inl ⟨q,om,a,e⟩
 ·rintro (⟨q,b,a,e⟩|e)
  ·exact⟨q,om,a,e⟩
  ·exact⟨k,om,c,e⟩
theorem PX {L:LN}(a:k<L.length):(L.take (k+1)).filter (λy=>decide (y∉l))=(L.take k).filter (λy=>decide (y∉l))++if L.getD k []∈l then [] else [L.getD k []]:=by
 rw[eY [] a,List.filter_append];generalize L.getD k []=z
 by_cases e:z∈l<;>simp [e,List.filter]
theorem TW (b:Nat)(W:Nat->Prop)(h:H)(n:Nat)(tv vl:V)(wl:List V)(l:LN)(ρ:Nat->Nat)(F:Nat->Nat->V)(t:rX)(hn:n<=64)(h0:0<n)(R:Ji b W h n tv ρ F t)(TI:pQ n t)(sl:SV h vl 1 wl)(pl:dZ W h wl l)(hl: ∀x∈l,aY n x)(ll:l.length<1000000):
  Ev T 131 [tv,vl] h (λv h'=> ∃ws,dH h' v 1 ws h.next/\dZ W h ws (frF n t l)/\Fr h h'):=by
 refine dW sU rfl ?_
 simp(disch:=omega)only[go_sem,sU,aE]
 refine (yT b W h n tv ρ F t hn h0 R TI).mono ?_
 rintro ve h1 ⟨we,oe,pe,f1⟩
 obtain⟨L,hL⟩:=exI (fZ n t 0)
 have EP: ∀y∈L,aY n y:=λy hy=>TI.OK y (by rw[hL];exact hy)
 have lL:L.length<=4096:=by
  rw[←hL,←Vm];have:=Uv n t n;have:=Nat.mul_le_mul hn hn;omega
 unfold frF
 rw[hL] at pe ⊢
 have a9:dZ W h1 we L:=dZ.fx pe (Fx.of f1)
 have b5:=aN.length pe
 obtain⟨a5,A,m,a1,a7⟩:=dZ.open oe.sv a9
 obtain⟨a2,a0,u,b1,b3⟩:=dZ.open sl pl
 simp(disch:=omega)only[go_sem]
 refine aI (λk' a hh=> ∃(i:Nat) (Q:V) (ws:List V),(∃g:Nat->V,a= [tv,vl,g 2,Q,ve,aC i,g 6,g 7,g 8,g 9,g 10])/\i<=L.length/\dH hh Q 1 ws h1.next/\dZ W h ws ((L.take i).filter λy=>decide (y∉l))/\Fr h1 hh/\k'=L.length-i) L.length
  ⟨0,.aD, [],aB rfl,iB _,dH.aD _ _ _,trivial,Fr.refl h1,rfl⟩ ?_
 rintro k' a h2 ⟨i,Q,ws,⟨g,rfl⟩,hi,ow,j,f,rfl⟩
 by_cases a6:(i:Int)<(L.length:Int)
 case neg=>
  have e1:=bI a6;obtain rfl:i=L.length:=om
  simp(disch:=omega)only[go_sem,a5,e1];rw[List.take_length] at j;exact⟨ws,ow.le f1.next,j,f1.trans f⟩
 have e1:=cI a6
 have p:i<L.length:=om
 obtain⟨i1,c1,U⟩:=a7 i p
 have Y:=EP _ (bC (d:= []) p)
 obtain⟨y,hy⟩:=exI (L.getD i [])
 have J:PV W h (we.getD i .undef) (L.getD i []):=by
  obtain⟨w,o,h4⟩:=dZ.at pe p;rw[List.getD,o];exact h4
 rw[hy] at U Y J
 generalize we.getD i .undef=vy at c1 U J
 simp(disch:=omega)only[go_sem,a5,e1]
 refine bQ (λvs hh=>(∃g:Nat->V,vs= [tv,vl,g 2,Q,ve,aC i,.bool (decide (y∈l)),g 7,g 8,g 9,g 10])/\Fr h2 hh) ?_ ?_
 ·refine aI (λk' a hh=> ∃(k:Nat) (s:Bool),(∃g:Nat->V,a= [tv,vl,g 2,Q,ve,aC i,.bool s,aC k,g 8,g 9,g 10])/\k<=l.length/\(s=true↔y∈l.take k)/\Fr h2 hh/\k'=l.length-k) l.length
   ⟨0,false,aB rfl,iB _,by simp,Fr.refl h2,rfl⟩ ?_
  clear g
  rintro k' a o ⟨k,s,⟨g,rfl⟩,hk,hs,O,rfl⟩
  cases s with
  |true=>
   have q:decide (y∈l)=true:=cI (List.mem_of_mem_take (hs.1 rfl));simp(disch:=omega)only[go_sem];exact⟨by rw[q];exact aB rfl,O⟩
  |false=>
  have P:y∉l.take k:=λh=>by have:=hs.2 h;cases this
  by_cases r:(k:Int)<(l.length:Int)
  case neg=>
   have q:=bI r;obtain rfl:k=l.length:=om
   rw[List.take_length] at P;have e4:decide (y∈l)=false:=bI P;simp(disch:=omega)only[go_sem,a2,q];exact⟨by rw[e4];exact aB rfl,O⟩
  have q:=cI r
  have N:k<l.length:=om
  obtain⟨i2,c2,p2⟩:=b3 k N
  have Z:=hl _ (bC (d:= []) N)
  obtain⟨z,hz⟩:=exI (l.getD k [])
  rw[hz] at p2 Z
  generalize wl.getD k .undef=vz at c2 p2
  have c:=f.trans O
  have B:=f1.trans c
  have G:o.cell A (m+i)=some vy:=by rw[c.cell i1];exact c1
  have b4:o.cell a0 (u+k)=some vz:=by rw[B.cell i2];exact c2
  have v1:=SV.dI U.si
  have v2:=SV.dI p2.si
  simp(disch:=omega)only[go_sem,a2,q,a1.ixa,G,b1.ixa,b4]
  have fb:Fr o (H.mk o.tr (o.next+10)):=(Fr.refl o).bH om
  refine (We vy vz _ _ _ (U.si.mono (c.trans fb)) (p2.si.mono (B.trans fb)) (by rw[aS,Y.len];omega) (by rw[aS,Z.len];omega)).mono ?_
  rintro _ h4 ⟨rfl,f4⟩
  have K:=fb.trans f4
  have a8:h4.cell A (m+i)=some vy:=by rw[(c.trans K).cell i1];exact c1
  have b2:h4.cell a0 (u+k)=some vz:=by rw[(B.trans K).cell i2];exact c2
  simp(disch:=omega)only[go_sem,a8,b2,v1,v2]
  rw[fJ k]
  refine⟨l.length-(k+1),om,k+1,_,aB rfl,om,?_,O.trans K,rfl⟩
  rw[Ak,Ee N,hz]
  exact⟨λe=> .inr (Wv e).symm,λh=>h.elim (λh=>(P h).elim) λe=>by rw[e]⟩
 rintro a o ⟨⟨g,rfl⟩,O⟩
 have c:=f.trans O
 have G:o.cell A (m+i)=some vy:=by rw[c.cell i1];exact c1
 have a3:=ow.fr O
 have b7:=aN.length j
 have b6:((L.take i).filter λy=>decide (y∉l)).length<=i:=mY (List.length_filter_le _ _) (by rw[zO];omega)
 have ft:=PX (L:=L) (l:=l) p
 rw[hy] at ft
 by_cases hm:y∈l
 ·have q:=cI hm
  simp(disch:=omega)only[go_sem,q]
  rw[fJ i]
  rw[bJ hm,tZ] at ft
  exact⟨L.length-(i+1),om,i+1,Q,ws,aB rfl,om,a3,by rw[ft];exact j,c,rfl⟩
 ·have q:=bI hm
  obtain⟨h4,a4,b0,f4,n4,_⟩:=Je (v:=vy) a3 c om (bytes:=24) om
  simp(disch:=omega)only[go_sem,q,a1.ixa,G,cK _ (z:= .aD) U.fG.1 U.fG.2,a4]
  rw[fJ i]
  rw[bU hm] at ft
  exact⟨L.length-(i+1),om,i+1,_,_,aB rfl,om,b0,by rw[ft];exact j.append (dZ.one J),f4,rfl⟩
end
structure CJ (b:Nat)(W:Nat->Prop)(h hh:H)(n:Nat)(tv:V)(ρ:Nat->Nat)(L:List Nat->Prop)(t0:rX)(vl:V)(l:LN)(t:rX):Prop where
 ex: ∃W' F wl,Ji b W' hh n tv ρ F t/\dH hh vl 1 wl h.next/\dZ W' hh wl l/\Ik W' vl/\ ∀id,id<h.next->W' id->W id
 fx:Fx W h hh
 cls:Ed n L t l
 sub:Sub t0 t
theorem ZM {n:Nat}{t:rX}{x:List Nat}{L:List Nat->Prop}{l:LN}(c:Ed n L t l)(b:pQ n (jK t n x))(h:(fZ n t 0).length<(fZ n (jK t n x) 0).length):0<(frF n (jK t n x) l).length:=by
 refine List.length_pos_iff.2 λe=>?_
 unfold frF at e;rw[List.filter_eq_nil_iff] at e
 have:(fZ n (jK t n x) 0).length<=(fZ n t 0).length:=List.Nodup.length_le_of_subset (zD b) λy a=>by
  have:=e y a;simp at this;exact (c.mem y).1 this
 omega
theorem FV (n:Nat)(t:rX)(a:n<=64):(fZ n t 0).length<=4096:=by
 rw[←Vm];have:=Uv n t n;have:=Nat.mul_le_mul a a;omega
theorem SF {n:Nat}{t:rX}{l m:LN}{a c:Nat}(f:a<l.length)(b:c<l.length):Pr n t (l++m) a c↔Pr n t l a c:=by
 have e: ∀k,k<l.length->(l++m).getD k []=l.getD k []:=λk d=>by rw[List.getD,List.getD,Dt d]
 unfold Pr;rw[e a f,e c b]
theorem UM (b:Nat)(W:Nat->Prop)(h:H)(n:Nat)(y:V)(ρ:Nat->Nat)(F:Nat->Nat->V)(t:rX)(L:List Nat->Prop)(hn:n<=7)(h0:0<n)(hb:b<=h.next)(R:Ji b W h n y ρ F t)(hL: ∀g,L g->aY n g)(tl:Na n L t):
  Ev T 88 [y] h (λ_ h'=> ∃W' F' t',Ji b W' h' n y ρ F' t'/\Na n L t'/\Sub t t'/\Km n t'/\Fx W h h'/\ ∀id,id<h.next->W' id->W id):=by
 have d5:n^n<=823543:=by
  have: ∀n,n<=7->n^n<=823543:=by decide
  exact this n hn
 refine dW sP rfl ?_
 simp(disch:=omega)only[go_sem,sP,aE]
 refine (yT b W h n y ρ F t om h0 R tl.tab).mono ?_
 rintro p h1 ⟨Z,Y,O,f1⟩
 simp(disch:=omega)only[go_sem]
 refine aI (λk' r hh=> ∃(i:Nat) (p:V) (l:LN) (t':rX),(∃g:Nat->V,r= [y,p,aC i,g 3,g 4,g 5,g 6,g 7,g 8,g 9,g 10,g 11])/\CJ b W h hh n y ρ L t p l t'/\i<=l.length/\(∀a c,a<i->c<i->Pr n t' l a c)/\k'=1000000-i) 1000000
  ⟨0,p,fZ n t 0,t,aB rfl,⟨⟨λid=>W id∨ ∃z m c,p= .sl id z m c,F,Z,?_,Y,?_,λid z m c e=> .inr ⟨_,_,_,e⟩,λid B f=>?_⟩,Fx.of f1,Ed.start tl,Sub.refl t⟩,iB _,λa c ha=>om,rfl⟩ ?_
 ·refine R.go (Fx.of f1) (λi hi=>f1.get _ (R.Pg _ (R.wb i hi))) (λid B f=>?_) (λid f=> .inl f) (λid f=>?_) (λid f=>?_)
  ·rcases f with f|⟨z,m,c,e⟩
   ·exact f
   ·have:=(Y.in _ _ _ _ e).2.1;omega
  ·rcases f with f|⟨z,m,c,e⟩
   ·exact jM (R.Pg id f) f1.next
   ·exact (Y.in _ _ _ _ e).1
  ·rcases f with f|⟨z,m,c,e⟩
   ·exact R.low id f
   ·have:=(Y.in _ _ _ _ e).2.1;omega
 ·refine dZ.go O (Fx.of f1) λid B f=>?_
  rcases f with f|⟨z,m,c,e⟩
  ·exact f
  ·have:=(Y.in _ _ _ _ e).2.1;omega
 ·rcases f with f|⟨z,m,c,e⟩
  ·exact f
  ·have:=(Y.in _ _ _ _ e).2.1;omega
 clear Y O f1 p Z h1
 rintro k' r h1 ⟨i,p,l,s,⟨g,rfl⟩,J,hi,N,rfl⟩
 have lb:=J.cls.bound
 have a0:bL p=some (aC (l.length:Int)):=by
  obtain⟨⟨W',F',Z,_,Y,O,_⟩,_⟩:=J;exact (dZ.open Y.sv O).1
 by_cases w:(i:Int)<(l.length:Int)
 case neg=>
  have P:=bI w;obtain rfl:i=l.length:=om
  simp(disch:=omega)only[go_sem,a0,P];obtain⟨⟨W',F',Z,R',_,_,_,hW⟩,fx,v,sub⟩:=J;exact⟨W',F',s,R',v.tl,sub,v.closed N,fx,hW⟩
 have P:=cI w
 have o:i<l.length:=om
 simp(disch:=omega)only[go_sem,a0,P]
 refine uJ (λvs hh=> ∃(p:V) (l:LN) (t':rX),(∃g:Nat->V,vs= [y,p,aC i,g 3,g 4,g 5,g 6,g 7,g 8,g 9,g 10,g 11])/\CJ b W h hh n y ρ L t p l t'/\i<l.length/\ ∀a c,a<i+1->c<i+1->Pr n t' l a c) ?_ ?_
 ·refine aI (λk' r hh=> ∃(k:Nat) (p:V) (l:LN) (t':rX),(∃g:Nat->V,r= [y,p,aC i,aC k,g 4,g 5,g 6,g 7,g 8,g 9,g 10,g 11])/\k<=i+1/\CJ b W h hh n y ρ L t p l t'/\i<l.length/\(∀a c,a<i->c<i->Pr n t' l a c)/\(∀c,c<k->Pr n t' l i c/\Pr n t' l c i)/\k'=i+1-k) (i+1)
   ⟨0,p,l,s,aB rfl,iB _,J,o,N,λc hc=>om,rfl⟩ ?_
  clear J hi N lb a0 w P o p l s g
  rintro k' r h2 ⟨k,p,l,s,⟨g,rfl⟩,hk,J,o,N,hQ,rfl⟩
  by_cases w:(k:Int)<=(i:Int)
  case neg=>
   have P:=bI w;obtain rfl:k=i+1:=om
   simp(disch:=omega)only[go_sem,P];refine⟨p,l,s,aB rfl,J,o,λa c ha hc=>?_⟩
   by_cases ea:a=i
   ·subst ea;exact (hQ c hc).1
   ·by_cases ec:c=i
    ·subst ec;exact (hQ a ha).2
    ·exact N a c om om
  have P:=cI w
  have d1:k<=i:=om
  simp(disch:=omega)only[go_sem,P]
  refine uJ (λvs hh=> ∃(p:V) (l:LN) (t':rX),(∃g:Nat->V,vs= [y,p,aC i,aC k,g 4,g 5,g 6,g 7,g 8,g 9,g 10,g 11])/\CJ b W h hh n y ρ L t p l t'/\i<l.length/\(∀a c,a<i->c<i->Pr n t' l a c)/\ ∀c,c<k+1->Pr n t' l i c/\Pr n t' l c i) ?_ ?_
  ·refine aI (λk' r hh=> ∃(q:Nat) (p:V) (l:LN) (t':rX),(∃g:Nat->V,r= [y,p,aC i,aC k,aC q,g 5,g 6,g 7,g 8,g 9,g 10,g 11])/\q<=2/\CJ b W h hh n y ρ L t p l t'/\i<l.length/\(∀a c,a<i->c<i->Pr n t' l a c)/\(∀c,c<k->Pr n t' l i c/\Pr n t' l c i)/\(0<q->Pr n t' l i k)/\(1<q->Pr n t' l k i)/\k'=2-q) 2
    ⟨0,p,l,s,aB rfl,om,J,o,N,hQ,λh=>om,λh=>om,rfl⟩ ?_
   clear J N hQ w P o p l s g
   rintro k' r h3 ⟨q,p,l,s,⟨g,rfl⟩,hq,J,o,N,hQ,hA,hB,rfl⟩
   by_cases w:(q:Int)<2
   case neg=>
    have P:=bI w;have d3:q=2:=om
    simp(disch:=omega)only[go_sem,P];refine⟨p,l,s,aB rfl,J,o,N,λc hc=>?_⟩
    by_cases ec:c=k
    ·subst ec;exact⟨hA om,hB om⟩
    ·exact hQ c om
   have P:=cI w
   obtain⟨⟨W',F',Z,R',Y,O,bl,hW⟩,fx,v,sub⟩:=J
   obtain⟨a0,a4,Q,b7,c0⟩:=dZ.open Y.sv O
   have lb:=v.bound
   obtain⟨i1,c1,p1⟩:=c0 i o
   obtain⟨_,c2,p2⟩:=c0 k om
   have ga:=v.gen _ (bC (d:= []) o)
   have gc:=v.gen _ (bC (d:= []) (show k<l.length by omega))
   obtain⟨a,ea⟩:=exI (l.getD i [])
   obtain⟨c,ec⟩:=exI (l.getD k [])
   rw[ea] at p1 ga
   rw[ec] at p2 gc
   have A:=ga.bF hL
   have C:=gc.bF hL
   generalize Z.getD i .undef=va at c1 p1
   generalize Z.getD k .undef=vc at c2 p2
   have v1:=SV.dI p1.si
   have v2:=SV.dI p2.si
   have vv:=SV.dI Y.sv
   simp(disch:=omega)only[go_sem,P,b7.ixa,c1,c2]
   have fb:Fr h3 (H.mk h3.tr (h3.next+10)):=(Fr.refl h3).bH om
   refine (vT va vc a c _ (by rw[A.len];omega) (p1.si.mono fb) (p2.si.mono fb) (λj hj=>by rw[C.len];exact A.fX (by rw[←A.len];exact hj))).mono ?_
   rintro vx h4 ⟨s4,f4,l4⟩
   have G:=fb.trans f4
   have b5:h4.cell a4 (Q+i)=some va:=by rw[G.cell i1];exact c1
   have b2:h4.cell a4 (Q+k)=some vc:=by rw[G.cell i1];exact c2
   simp(disch:=omega)only[go_sem,b5,b2,v1,v2]
   have px:PV W' h4 vx (aM a c):=PV.fresh s4 l4 (λid B=>jM (R'.Pg id B) fb.next)
   refine mM (λvs hh=> ∃(vx:V) (x:List Nat),(∃g:Nat->V,vs= [y,p,aC i,aC k,aC q,vx,g 6,g 7,g 8,g 9,g 10,g 11])/\PV W' hh vx x/\(q=0->x=aM a c)/\(q=1->x=aM c a)/\bM n L x/\Fr h3 hh) ?_ ?_
   ·refine bA (λc9=>?_) (λc9=>?_)
    ·have w1:(1:Int)=(q:Int):=om
     simp(disch:=omega)only[go_sem,b7.ixa,b5,b2]
     have a6:Fr h4 (H.mk h4.tr (h4.next+10)):=(Fr.refl h4).bH om
     refine (vT vc va c a _ (by rw[C.len];omega) (p2.si.mono (G.trans a6)) (p1.si.mono (G.trans a6)) (λj hj=>by rw[A.len];exact C.fX (by rw[←C.len];exact hj))).mono ?_
     rintro vy h5 ⟨s5,f5,l5⟩
     have b4:=a6.trans f5
     have c3:h5.cell a4 (Q+i)=some va:=by rw[(G.trans b4).cell i1];exact c1
     have d0:h5.cell a4 (Q+k)=some vc:=by rw[(G.trans b4).cell i1];exact c2
     simp(disch:=omega)only[go_sem,c3,d0,v1,v2]
     refine .inl ⟨vy,aM c a,aB rfl,PV.fresh s5 l5 (λid B=>jM (R'.Pg id B) (G.trans a6).next),λe=>om,λ_=>rfl,gc.app hL ga,G.trans b4⟩
    ·simp(disch:=omega)only[go_sem]
     exact .inl ⟨vx,aM a c,aB rfl,px,λ_=>rfl,λe=>om,ga.app hL gc,G⟩
   clear px s4 l4 G b5 b2 f4 fb vx h4
   rintro r h4 ⟨vx,x,⟨g,rfl⟩,px,c6,c4,gx,f4⟩
   have R4:=R'.mono f4
   simp(disch:=omega)only[go_sem]
   refine (yT b W' h4 n y ρ F' s om h0 R4 v.tl.tab).mono ?_
   rintro v5 h5 ⟨w5,o5,c8,f5⟩
   have l5:bL v5=some (aC ((fZ n s 0).length:Int)):=(dZ.open o5.sv (dZ.fx c8 (Fx.of f5))).1
   have m5:=FV n s om
   simp(disch:=omega)only[go_sem,l5]
   refine (Tf b W' h5 n y ρ F' s vx x om h0 (R4.mono f5) (PV.mono px f5) (gx.bF hL) v.tl.tab).mono ?_
   rintro _ h6 ⟨F6,rfl,R6,f6⟩
   obtain⟨u,K,a1,m,hm⟩:=v.step hL gx
   simp(disch:=omega)only[go_sem]
   refine (yT b W' h6 n y ρ F6 _ om h0 R6 u.tl.tab).mono ?_
   rintro v7 h7 ⟨w7,o7,c7,f7⟩
   have l7:bL v7=some (aC ((fZ n (jK s n x) 0).length:Int)):=(dZ.open o7.sv (dZ.fx c7 (Fx.of f7))).1
   have m7:=FV n (jK s n x) om
   have R7:=R6.mono f7
   have b8:=f4.trans f5
   have a3:Fx W' h3 h7:=((Fx.of b8).trans (R4.wbx f6) (λ_ _ h=>h)).trans (Fx.of f7:Fx W' h6 h7) (λ_ _ h=>h)
   have a2: ∀j,j<n->ρ j<h.next:=λj hj=>R.Pg _ (R.wb j hj)
   have b0:dH h7 p 1 Z h.next:=by
    refine (((Y.fr b8).tU f6.next λid z m c e B=>f6.get id B λf=>?_).fr f7);obtain⟨j,hj,rfl⟩:=f;have:=(Y.in _ _ _ _ e).2.1;have:=a2 j hj;omega
   have U:dZ W' h7 Z l:=dZ.fx O a3
   simp(disch:=omega)only[go_sem,l7]
   have a7: ∀b1 h',CJ b W h h' n y ρ L t b1 (l++m) (jK s n x)->CJ b W h h' n y ρ L t b1 (l++m) (jK s n x)/\i<(l++m).length/\(∀a c,a<i->c<i->Pr n (jK s n x) (l++m) a c)/\(∀c,c<k->Pr n (jK s n x) (l++m) i c/\Pr n (jK s n x) (l++m) c i)/\(0<q+1->Pr n (jK s n x) (l++m) i k)/\(1<q+1->Pr n (jK s n x) (l++m) k i):=λb1 h' J=>by
    have b3:k<l.length:=om
    refine⟨J,by rw[iV];omega,λa c h1 h2=>(N a c h1 h2).mono K om om,λc hc=>⟨(hQ c hc).1.mono K o om,(hQ c hc).2.mono K om o⟩,λ_=>?_,λ_=>?_⟩
    ·by_cases e0:q=0
     ·rw[SF o b3]
      unfold Pr;rw[ea,ec,←c6 e0];exact a1
     ·exact (hA om).mono K o b3
    ·have e0:q=1:=om
     rw[SF b3 o];unfold Pr;rw[ea,ec,←c4 e0];exact a1
   refine bA (λb6=>?_) (λb6=>?_)
   ·have hg:(fZ n s 0).length<(fZ n (jK s n x) 0).length:=om
    have em:m=frF n (jK s n x) l:=by
     unfold clF at hm;rw[bJ hg] at hm;exact (List.append_cancel_left hm).symm
    have m0:=ZM v u.tl.tab hg
    rw[←em] at m0
    rw[hm] at u
    have c5:=u.bound
    rw[iV] at c5
    simp(disch:=omega)only[go_sem]
    refine (TW b W' h7 n y p Z l ρ F6 _ om h0 R7 u.tl.tab b0.sv U v.bF om).mono ?_
    rintro v8 h8 ⟨w8,o8,p8,f8⟩
    rw[←em] at p8
    have lw:=aN.length U
    have d6:=aN.length p8
    have b9:=b0.fr f8
    have R8:=R7.mono f8
    obtain⟨h9,a9,p9⟩:=b9.push (bytes:=24) o8.sv (n:=l.length) (m:=m.length) om om om m0 ⟨om,om⟩
    have n9:=p9.next
    have a5:=p9.fx bl
    have d2:=a3.next
    have d7:=f8.next
    have d4:=fx.next
    simp(disch:=omega)only[go_sem,a9]
    rw[fJ q]
    have a8: ∀id,id<h8.next->(W' id∨id=h8.next)->W' id:=λid h1 h2=>by
     rcases h2 with h2|h2
     ·exact h2
     ·omega
    have J':CJ b W h h9 n y ρ L t (.sl h8.next 0 (l.length+m.length) (.un 1)) (l++m) (jK s n x):=by
     refine⟨⟨λid=>W' id∨id=h8.next,F6,Z++w8,?_,p9.own om om om,?_,λid z m c e=>by cases e;exact .inr rfl,λid B f=>?_⟩,?_,u,sub.trans K⟩
     ·refine R8.go a5 (λj hj=>p9.old _ (by have:=a2 j hj;omega) λid z m c e e2=>by have:=(b9.in _ _ _ _ e).2.1;have:=a2 j hj;omega) a8 (λid f=> .inl f) (λid f=>?_) (λid f=>?_)
      ·rcases f with f|f
       ·have:=R8.Pg id f;omega
       ·omega
      ·rcases f with f|f
       ·exact R8.low id f
       ·omega
     ·exact (dZ.go (dZ.fx U (Fx.of f8)) a5 a8).append (dZ.go (dZ.fx p8 (Fx.of f8)) a5 a8)
     ·rcases f with f|f
      ·exact hW id B f
      ·omega
     ·exact fx.trans ((a3.trans (Fx.of f8:Fx W' h7 h8) (λ_ _ h=>h)).trans a5 (λ_ _ h=>h)) hW
    obtain⟨j1,j2,j3,j4,j5,j6⟩:=a7 _ _ J'
    exact⟨2-(q+1),om,q+1,_,_,_,aB rfl,om,j1,j2,j3,j4,j5,j6,rfl⟩
   ·have hg: ¬(fZ n s 0).length<(fZ n (jK s n x) 0).length:=om
    have em:m= []:=by
     unfold clF at hm;rw[bU hg] at hm;exact List.append_right_eq_self.1 hm.symm
    simp(disch:=omega)only[go_sem]
    rw[fJ q]
    have J':CJ b W h h7 n y ρ L t p (l++m) (jK s n x):=by
     rw[hm] at u;exact⟨⟨W',F6,Z,R7,b0,by rw[em,tZ];exact U,bl,hW⟩,fx.trans a3 hW,u,sub.trans K⟩
    obtain⟨j1,j2,j3,j4,j5,j6⟩:=a7 _ _ J'
    exact⟨2-(q+1),om,q+1,_,_,_,aB rfl,om,j1,j2,j3,j4,j5,j6,rfl⟩
  rintro r h3 ⟨p,l,s,⟨g,rfl⟩,J,o,N,hQ⟩
  have lb:=J.cls.bound
  simp(disch:=omega)only[go_sem]
  rw[fJ k]
  exact⟨i+1-(k+1),om,k+1,p,l,s,aB rfl,om,J,o,N,hQ,rfl⟩
 clear J hi N lb a0 w P o p l s g
 rintro r h2 ⟨p,l,s,⟨g,rfl⟩,J,o,N⟩
 have lb:=J.cls.bound
 simp(disch:=omega)only[go_sem]
 rw[fJ i]
 exact⟨1000000-(i+1),om,i+1,p,l,s,aB rfl,J,om,N,rfl⟩
theorem Oj (t:rX)(i k:Nat):(Ea t i k).length<=k:=by
 unfold Ea;have:=List.length_filter_le (λp=>p==i||(t i p).isSome) (List.range k);rwa [Xf] at this
theorem Yb (b:Nat)(W:Nat->Prop)(h:H)(n:Nat)(B:V)(ρ:Nat->Nat)(F:Nat->Nat->V)(t:rX)(i:Nat)(hn:n<=64)(h0:0<n)(hi:i<n)(R:Ji b W h n B ρ F t)(O:pQ n t):
  Ev T 132 [B,aC i] h (λv h'=>dH h' v 1 (ints (zi (Ea t i n))) h.next/\Fr h h'):=by
 refine dW sT rfl ?_
 have x:=R.open.1
 simp(disch:=omega)only[go_sem,sT,aE]
 refine aI (λQ c U=> ∃(p:Nat) (u:V),(∃g:Nat->V,c= [B,aC i,g 2,u,aC p,g 5,g 6])/\i<=p/\p<=n/\dH U u 1 (ints (zi (Ea t i p))) h.next/\Fr h U/\Q=n-p) (n-i)
  ⟨i,.aD,aB rfl,fN _,om,by rw[DH O];exact dH.aD _ _ _,Fr.refl h,rfl⟩ ?_
 rintro Q c r ⟨p,u,⟨g,rfl⟩,a1,a2,J,f,rfl⟩
 by_cases m:(p:Int)<(n:Int)
 case neg=>
  have q:=bI m;obtain rfl:p=n:=om
  simp(disch:=omega)only[go_sem,x,q];exact⟨J,f⟩
 have q:=cI m
 have l:p<n:=om
 have Z:=R.mono f
 obtain⟨_,a0,N,k,G⟩:=Z.open
 have L:=G i hi
 have z:=Z.cell hi l
 have w:=R.ent i p hi l
 have ll:=Oj t i p
 have P:=OA (t:=t) i p
 have step:(p=i∨(t i p).isSome)-> ∃d,zK (r.new (.cells false (ints [(p:Int)]))) 1 8 u (.sl r.next 0 1 (.kn 1))=some (.sl (r.next+1) 0 ((Ea t i p).length+1) (.un 1),d)/\dH d (.sl (r.next+1) 0 ((Ea t i p).length+1) (.un 1)) 1 (ints (zi (Ea t i (p+1)))) h.next/\Fr h d:=λhc=>by
  obtain⟨d,j,a,s,n4,_⟩:=Je (v:= aC p) J f (by rw[aP,aS];omega) (bytes:=8) om;rw[aP,aS] at j a;refine⟨d,j,?_,s⟩;rw[P,bJ hc,Mo,rP];exact a
 by_cases o:p=i
 ·have A:decide ((p:Int)=(i:Int))=true:=cI om
  obtain⟨d,j,a,s⟩:=step (.inl o)
  simp(disch:=omega)only[go_sem,x,q,A,Oy,j]
  rw[fJ p]
  exact⟨n-(p+1),om,p+1,_,aB rfl,om,om,a,s,rfl⟩
 have A:decide ((p:Int)=(i:Int))=false:=bI om
 cases hto:t i p with
 |none=>
  rw[hto] at w;rw[w.nil] at z;simp(disch:=omega)only[go_sem,x,q,A,k.ixa,L,z];rw[fJ p];refine⟨n-(p+1),om,p+1,u,aB rfl,om,om,?_,f.bH om,rfl⟩;rw[P,bU (by rw[hto];simp [o]),tZ];exact J.fr ((Fr.refl r).bH om)
 |some y=>
  rw[hto] at w;have K:PV W h (F i p) y:=w;have Y:=Hr K (aY.ne h0 (O.bF _ _ _ hto)) true;generalize F i p=vz at z K Y;obtain⟨d,j,a,s⟩:=step (.inr (by rw[hto];rfl));simp(disch:=omega)only[go_sem,x,q,A,k.ixa,L,z,Y,Oy,j];rw[fJ p];exact⟨n-(p+1),om,p+1,_,aB rfl,om,om,a,s,rfl⟩
theorem UL.ajZ {h h':H}{v:V}{l:List Int}(c:UL h l v h')(d:0<l.length):Af h h' v l:=by
 obtain⟨_,f,e⟩:=c;obtain⟨id,rfl,a,b,i⟩:=e d;exact⟨⟨id,_,rfl,a,b,i,.inl rfl⟩,f⟩
theorem LF (b:Nat)(W:Nat->Prop)(h:H)(n:Nat)(tv:V)(ρ:Nat->Nat)(F:Nat->Nat->V)(t:rX)(d p:Nat)(x:List Nat)(hn:n<=64)(h0:0<n)(P:d<n)(hp:p<n)(R:Ji b W h n tv ρ F t)(TI:pQ n t)(tw:pX n 0 (lF n t))(a4:(lF n t d).to p=some x):
  Ev T 133 [tv,aC d,aC p] h (λv h'=>Af h h' v (zi (Lx (lF n t) (n-(d+1)) (d+1) x))):=by
 have X:=(vX TI P a4).1
 refine dW sW rfl ?_
 obtain⟨lv,d0,c3,c6,c9⟩:=R.open
 simp(disch:=omega)only[go_sem,sW,aE,lv]
 refine (Vk n h om).mono ?_
 rintro v1 h1 ⟨s1,f1,l1⟩
 simp(disch:=omega)only[go_sem]
 have b0: ∀id,W id->id<h.next:=R.Pg
 refine mM (λvs z=> ∃vx,(∃g:Nat->V,vs= [tv,aC d,aC p,g 3,vx,g 5,g 6,g 7,g 8,g 9,g 10,g 11,g 12,g 13])/\PV W z vx x/\Fr h z) ?_ ?_
 ·have r:(if p=d then some (aX n) else t d p)=some x:=a4
  refine bA (λb7=>?_) (λb7=>?_)
  ·have K:p≠d:=om
   rw[bU K] at r
   have R1:=R.mono f1
   obtain⟨_,a1,G,Q,J⟩:=R1.open
   have cr:=J d P
   have ce:=R1.cell P hp
   have hS:=R1.ent d p P hp
   rw[r] at hS
   have pz:PV W h1 (F d p) x:=hS
   generalize F d p=vz at ce pz
   simp(disch:=omega)only[go_sem,Q.ixa,cr,ce]
   exact .inl ⟨vz,aB rfl,pz,f1⟩
  ·have K:p=d:=om
   rw[bJ K] at r
   obtain rfl:aX n=x:=Option.some.inj r
   simp(disch:=omega)only[go_sem]
   exact .inl ⟨v1,aB rfl,PV.fresh s1 l1 b0,f1⟩
 clear s1 f1 l1 v1 h1
 rintro i h1 ⟨vx,⟨g,rfl⟩,px,f1⟩
 simp(disch:=omega)only[go_sem]
 rw[fJ d]
 refine bQ (λvs z=> ∃s,(∃g:Nat->V,vs= [tv,g 1,g 2,g 3,s,g 5,g 6,g 7,g 8,g 9,g 10,g 11,g 12,g 13])/\PV W z s (Lx (lF n t) (n-(d+1)) (d+1) x)/\aY n (Lx (lF n t) (n-(d+1)) (d+1) x)/\Fr h z) ?_ ?_
 ·refine aI (λk' i z=> ∃(k:Nat) (y:List Nat) (s:V),(∃g:Nat->V,i= [tv,g 1,g 2,g 3,s,aC k,g 6,g 7,g 8,g 9,g 10,g 11,g 12,g 13])/\d<k/\k<=n/\Lx (lF n t) (n-k) k y=Lx (lF n t) (n-(d+1)) (d+1) x/\
    PV W z s y/\aY n y/\Fr h z/\k'=n-k) (n-(d+1))
   ⟨d+1,x,vx,aB rfl,om,om,rfl,px,X,f1,rfl⟩ ?_
  clear px f1 vx h1 g
  rintro k' i h2 ⟨k,y,s,⟨g,rfl⟩,c7,c5,w,hy,Y,f,rfl⟩
  by_cases a8:(k:Int)<(n:Int)
  case neg=>
   have e1:=bI a8;obtain rfl:k=n:=om
   rw[Nat.sub_self] at w;simp(disch:=omega)only[go_sem,lv,e1];have b2:y=Lx (lF k t) (k-(d+1)) (d+1) x:=w;exact⟨s,aB rfl,by rw[←b2];exact hy,by rw[←b2];exact Y,f⟩
  have l:k<n:=om
  have e1:=cI a8
  have R2:=R.mono f
  simp(disch:=omega)only[go_sem,lv,e1]
  refine (Yb b W h2 n tv ρ F t k hn h0 l R2 TI).mono ?_
  rintro vo h3 ⟨oo,f3⟩
  obtain⟨o,ho⟩:=exI ((lF n t k).orb)
  rw[show Ea t k n=o from ho] at oo
  have so:SI h3 vo (zi o):=oo.sv
  have lo:=so.lens
  rw[aS] at lo
  have nG:=(tw k (iB _) l).1
  have c8:o.length<=n:=by rw[←ho];exact Oj t k n
  obtain⟨id,b3,sh,a6,hc⟩:=so.open
  rw[aS] at sh a6 hc
  have a5:=PV.mono hy f3
  obtain⟨a1,G,Q,B,J⟩:=a5.si.open
  rw[aS,Y.len] at Q B J
  simp(disch:=omega)only[go_sem]
  refine bQ (λvs z=>(∃g:Nat->V,vs= [tv,g 1,g 2,g 3,s,aC k,g 6,aC (pG y k o:Int),g 8,g 9,g 10,g 11,g 12,g 13])/\pG y k o<n/\pG y k o∈k::o/\Fr h3 z) ?_ ?_
  ·refine aI (λm' i z=> ∃(m b:Nat),(∃g:Nat->V,i= [tv,g 1,g 2,g 3,s,aC k,vo,aC b,aC m,g 9,g 10,g 11,g 12,g 13])/\m<=o.length/\b<n/\b∈k::o/\
     pG y b (o.drop m)=pG y k o/\Fr h3 z/\m'=o.length-m) o.length
    ⟨0,k,aB rfl,iB _,l,tQ ..,rfl,Fr.refl h3,rfl⟩ ?_
   rintro m' i h4 ⟨m,b1,⟨g3,rfl⟩,hm,hb,A,a,N,rfl⟩
   by_cases a0:(m:Int)<(o.length:Int)
   case neg=>
    have e2:=bI a0;have em:m=o.length:=om
    rw[em,List.drop_length] at a;have a:b1=pG y k o:=a;simp(disch:=omega)only[go_sem,lo,e2];exact⟨by rw[←a];exact aB rfl,by rw[←a];exact hb,by rw[←a];exact A,N⟩
   have e2:=cI a0
   have L:m<o.length:=om
   rw[Sf _ _ L] at a
   have cq:h4.cell id (b3+m)=some (aC (o.getD m 0:Nat)):=by rw[N.cell (a6 om),hc m L];congr 2;simp [zi,L]
   have a3:o.getD m 0∈o:=by rw[cW L];exact xG L
   have Z:=nG.lt l (by rw[ho];exact a3)
   generalize o.getD m 0=q at cq a3 Z a
   have c1:h4.cell a1 (G+q)=some (aC (y.getD q 0:Nat)):=by rw[N.cell (B om),J q Z];congr 2;simp [zi,Y.len,Z]
   have c2:h4.cell a1 (G+b1)=some (aC (y.getD b1 0:Nat)):=by rw[N.cell (B om),J b1 hb];congr 2;simp [zi,Y.len,hb]
   simp(disch:=omega)only[go_sem,lo,e2,sh.ixa,cq,Q.ixa,c1,c2]
   have fb:Fr h3 (H.mk h4.tr (h4.next+12)):=N.bH om
   refine bA (λb8=>?_) (λb8=>?_)
   ·rw[bJ om] at a
    simp(disch:=omega)only[go_sem,sh.ixa,cq]
    rw[fJ m]
    exact⟨o.length-(m+1),om,m+1,q,aB rfl,om,Z,wI _ a3,a,fb,rfl⟩
   ·rw[bU om] at a
    simp(disch:=omega)only[go_sem]
    rw[fJ m]
    exact⟨o.length-(m+1),om,m+1,b1,aB rfl,om,hb,A,a,fb,rfl⟩
  rintro i h4 ⟨⟨g4,rfl⟩,hb,A,N⟩
  have a2:n-k=(n-(k+1))+1:=om
  rw[a2] at w
  have w:Lx (lF n t) (n-(k+1)) (k+1) (if pG y k (lF n t k).orb=k then y else aM (((lF n t k).to (pG y k (lF n t k).orb)).getD []) y)=Lx (lF n t) (n-(d+1)) (d+1) x:=w
  rw[ho] at w
  have R4:=R2.mono (f3.trans N)
  have a9:=PV.mono a5 N
  generalize pG y k o=q at w hb A
  by_cases O:q=k
  ·rw[bJ O] at w
   have e0:decide ((q:Int)≠(k:Int))=false:=bI om
   simp(disch:=omega)only[go_sem,e0]
   rw[fJ k]
   exact⟨n-(k+1),om,k+1,y,s,aB rfl,om,om,w,a9,Y,(f.trans f3).trans N,rfl⟩
  rw[bU O] at w
  have e0:decide ((q:Int)≠(k:Int))=true:=cI om
  have b9:q∈(lF n t k).orb:=by
   rcases vI.1 A with e|e
   ·exact absurd e O
   ·rw[ho];exact e
  obtain⟨u,hu⟩:=nG.to b9
  have U:=nG.bF _ _ hu
  have a7:(if q=k then some (aX n) else t k q)=some u:=hu
  rw[bU O] at a7
  obtain⟨_,c4,c0,b4,b6⟩:=R4.open
  have cr:=b6 k l
  have ce:=R4.cell l hb
  have hS:=R4.ent k q l hb
  rw[a7] at hS
  have pu:PV W h4 (F k q) u:=hS
  generalize F k q=vu at ce pu
  rw[hu] at w
  simp(disch:=omega)only[go_sem,e0,b4.ixa,cr,ce]
  refine (vT vu s u y h4 (by rw[U.len];omega) pu.si a9.si (λj hj=>by rw[Y.len];exact U.fX (by rw[←U.len];exact hj))).mono ?_
  rintro v h5 ⟨s5,f5,l5⟩
  simp(disch:=omega)only[go_sem]
  rw[fJ k]
  exact⟨n-(k+1),om,k+1,_,v,aB rfl,om,om,w,PV.fresh s5 l5 R4.Pg,U.mul Y,((f.trans f3).trans N).trans f5,rfl⟩
 rintro i h2 ⟨s,⟨g2,rfl⟩,py,Y,f2⟩
 simp(disch:=omega)only[go_sem]
 refine (agS s _ h2 py.si (by rw[aS,Y.len];omega)).mono ?_
 rintro v h3 c
 have fr:=UL.ajZ c (by rw[aS,Y.len];exact h0)
 simp(disch:=omega)only[go_sem]
 obtain⟨⟨id,b5,e1,e2,e3,e4,e5⟩,f3⟩:=fr
 exact⟨⟨id,b5,e1,by have:=f2.next;omega,e3,e4,e5⟩,f2.trans f3⟩
theorem NN (b:Nat)(W0:Nat->Prop)(h:H)(n:Nat)(tv:V)(ρ:Nat->Nat)(F:Nat->Nat->V)(t:rX)(hn:n<=64)(h0:0<n)(R:Ji b W0 h n tv ρ F t)(TI:pQ n t)(tw:pX n 0 (lF n t)):
  Ev T 89 [tv] h (λv h'=> ∃O R',OP (λid=>id<h.next) h' v n O R'/\aV n (S n (lF n t) 0) O R'/\Fr h h'):=by
 refine dW sV rfl ?_
 have lv:=R.open.1
 obtain⟨τ,a3⟩:=exI (lF n t)
 obtain⟨B,hB⟩:=exI h.next
 have bl:qU [aC 0,.aD,.aD] [(0,1,aC n)]=some (.agg [aC n,.aD,.aD]):=by
  have e1:putAt [aC 0,.aD,.aD] 0 [aC n]=some [aC n,.aD,.aD]:=by simp [putAt]
  simp [qU,iK,e1,V.cells,V.one]
 obtain⟨U,a1⟩: ∃U,U=(h.new (.cells false [aC 0,.aD,.aD])).new (.cells false [aC 0,.aD,.aD]):=⟨_,rfl⟩
 have n1:U.next=B+2:=by rw[a1,H.aW,H.aW,hB]
 have g1:U.get (B+1)=bB [aC 0,.aD,.aD]:=by
  rw[a1];have:=H.aL (h.new (.cells false [aC 0,.aD,.aD])) (.cells false [aC 0,.aD,.aD]);rwa [H.aW,hB] at this
 have g0:U.get B=bB [aC 0,.aD,.aD]:=by rw[a1,H.bG _ (by rw[H.aW,hB];omega),←hB,H.aL]
 have f1:Fr h U:=by rw[a1];exact ((Fr.refl h).new _).new _
 simp(disch:=omega)only[go_sem,sV,aE,hB,lv,bl]
 rw[←a1]
 simp(disch:=omega)only[go_sem,cF U (B+1) 0 (v:= aC n) (u:= .aD) (w:= .aD) rfl rfl rfl,g1,cH]
 obtain⟨l,a2⟩: ∃l,l=U.set (B+1) (bB [aC n,.aD,.aD]):=⟨_,rfl⟩
 have n2:l.next=B+2:=by rw[a2];exact n1
 have f2:Fr h l:=by rw[a2];exact f1.set om _
 have g2:l.get (B+1)=bB [aC n,.aD,.aD]:=by rw[a2,H.aU]
 have d1:l.get B=bB [aC 0,.aD,.aD]:=by rw[a2,H.aH _ om];exact g0
 rw[←a2]
 clear a1 a2 f1 g0 g1 n1 U
 refine aI (λk' Z G=> ∃(i:Nat) (W:Nat->Prop) (O:LN) (R':jJ) (vO K:V) (c4 b7:List V),(∃g:Nat->V,Z= [tv,.ptr B 0,.ptr (B+1) 0,aC i,g 4,g 5,g 6,g 7,g 8])/\i<=n/\Cn h G (B+1) B W n O R' vO K c4 b7/\
   G.get B=bB [aC 0,.aD,.aD]/\O.length=i/\R'.length=i/\(∀j,j<i->ChL τ n j (O.getD j []) (R'.getD j []))/\k'=n-i) n
  ⟨0,_, [], [],_,_,_,_,aB rfl,iB _,Cn.start om om om om om f2 g2,d1,rfl,rfl,λj hj=>om,rfl⟩ ?_
 clear f2 g2 d1 n2 l
 rintro k' Z l ⟨i,W,O,R',vO,K,c4,b7,⟨g,rfl⟩,hi,A,gB,lO,lR,hC,rfl⟩
 by_cases c3:(i:Int)<(n:Int)
 case neg=>
  have e1:=bI c3;obtain rfl:i=n:=om
  have hr:=aJ A.get;have nB:=A.fr.next;simp(disch:=omega)only[go_sem,lv,e1,hr,cF l B 0 (v:= aC i) (u:=vO) (w:=K) rfl (SV.cT A.oO.sv).2.1 (SV.cT A.oR.sv).2.1,gB,cH];have e7:=aJ (h:=l.set B (bB [aC i,vO,K])) (H.aU ..);have fB:Fx (· =B) l (l.set B (bB [aC i,vO,K])):=Fx.set l (W:=(· =B)) rfl _;simp(disch:=omega)only[go_sem,e7]
  obtain⟨h3,d0⟩: ∃h3,h3=l.set B (bB [aC i,vO,K]):=⟨_,rfl⟩
  rw[←d0] at fB ⊢;have A3:=A.box d0;refine⟨O,R',by rw[←hB];exact A3.chw,?_,A3.fr⟩;rw[a3] at tw ⊢;have X:=tw.chain (O:=O) (R:=R') lO lR (λj hj=>(hC j hj).1) (λj hj=>(hC j hj).2.1) (λj hj=>(hC j hj).2.2.1) (λj hj=>(hC j hj).2.2.2);exact X
 have e1:=cI c3
 have b0:i<n:=om
 have R2:=R.mono A.fr
 have nG:=(tw i (iB _) b0).1
 rw[a3] at nG
 simp(disch:=omega)only[go_sem,lv,e1]
 refine (Yb b W0 l n tv ρ F t i hn h0 b0 R2 TI).mono ?_
 rintro vo h4 ⟨oo,f4⟩
 obtain⟨q,hq⟩:=exI (Ea t i n)
 have c6:q.Pairwise (· < ·):=by rw[←hq];exact TZ i n
 have a8: ∀p,p∈q↔p∈(τ i).orb:=λp=>by rw[←hq,QE,a3]
 have i8:q.length<=n:=by rw[←hq];exact Oj t i n
 have i6:0<q.length:=Rl ((a8 i).2 nG.base)
 rw[hq] at oo
 obtain⟨P,cp,rfl,j2,f3,cP⟩: ∃P cp,vo= .sl P 0 q.length cp/\l.next<=P/\P<h4.next/\ ∀k,k<q.length->h4.cell P k=some (aC (q.getD k 0:Nat)):=by
  rcases oo with ⟨_,e⟩|⟨id,m,e0,i4,e1,e2,e3,e4,e5,e6⟩
  ·have:=congrArg List.length e
   rw[aP,aS,List.length_nil] at this;omega
  ·rw[aP,aS,tW] at e2
   subst e2;exact⟨id,e0,e1,e4,e5,λk hk=>by rw[H.aF e6,Dt (by rw[aP,aS];exact hk),Ff hk]⟩
 have A4:=A.mono f4
 have pq:PV W h4 (.sl P 0 q.length cp) q:=⟨oo.sv,λhw=>by have:=A.wb P hw;omega⟩
 have d8:h4.get B=bB [aC 0,.aD,.aD]:=by rw[f4.get B (A.wb B A.d)];exact gB
 clear A gB R2 oo
 simp(disch:=omega)only[go_sem]
 refine bQ (λvs G=> ∃(N:V) (r:LN),(∃g:Nat->V,vs= [tv,.ptr B 0,.ptr (B+1) 0,aC i,.sl P 0 q.length cp,N,g 6,g 7,g 8])/\PL W G N r/\ChL τ n i q r/\Fr h4 G) ?_ ?_
 ·refine aI (λk' vs G=> ∃(k:Nat) (N:V) (ws:List V) (r:LN) (W':Nat->Prop),(∃g:Nat->V,vs= [tv,.ptr B 0,.ptr (B+1) 0,aC i,.sl P 0 q.length cp,N,aC k,g 7,g 8])/\k<=q.length/\dH G N 1 ws h4.next/\dZ W' G ws r/\Ik W' N/\(∀id,W id->W' id)/\(∀id,W' id->id<G.next/\(W id∨h4.next<=id))/\r.length=k/\
    (∀j,j<k-> ∀y,(τ i).to (q.getD j 0)=some y->r.getD j []=Lx τ (n-(i+1)) (i+1) y)/\Fr h4 G/\k'=q.length-k) q.length
   ⟨0,.aD, [], [],W,aB rfl,iB _,dH.aD _ _ _,trivial,λ_ _ _ _ e=>(by cases e),λ_ h=>h,λid h=>⟨A4.wb id h,.inl h⟩,rfl,λj hj=>om,Fr.refl _,rfl⟩ ?_
  rintro k' Z f ⟨k,N,ws,r,W',⟨g,rfl⟩,hk,ow,c0,g5,c7,c9,lr,hr,f5,rfl⟩
  by_cases b5:(k:Int)<(q.length:Int)
  case neg=>
   have e2:=bI b5;obtain rfl:k=q.length:=om
   simp(disch:=omega)only[go_sem,e2];refine⟨N,r,aB rfl,⟨ws,ow.sv,?_,c0.kO (λid _ h=>c7 id h),dH.UH ow⟩,⟨c6,a8,lr,hr⟩,f5⟩
   cases N with
   |sl id b2 m c=>exact λh=>by have:=(ow.in _ _ _ _ rfl).2.1;have:=A4.wb id h;omega
   |_=>trivial
  have e2:=cI b5
  have b8:k<q.length:=om
  obtain⟨p,hp⟩:=exI (q.getD k 0)
  have ck:f.cell P k=some (aC p):=by
   rw[f5.cell f3,cP k b8,hp]
  have c2:p∈(τ i).orb:=(a8 p).1 (by rw[←hp,cW b8];exact xG b8)
  have i2:=nG.lt b0 c2
  obtain⟨y,hy⟩:=nG.to c2
  have Y:=nG.bF _ _ hy
  have R5:=R.mono (A4.fr.trans f5)
  simp(disch:=omega)only[go_sem,e2,ck]
  refine (LF b W0 f n tv ρ F t i p y hn h0 b0 i2 R5 TI tw (by rw[a3];exact hy)).mono ?_
  rw[a3]
  rintro v7 Q c5
  have f7:=c5.fr
  have p7:PV W' Q v7 (Lx τ (n-(i+1)) (i+1) y):=c5.pv λid h=>(c9 id h).1
  simp(disch:=omega)only[go_sem,cK Q (z:= .aD) p7.fG.1 p7.fG.2]
  obtain⟨L,J⟩: ∃L,L=Q.new (.cells false [v7]):=⟨_,rfl⟩
  have g8:L.get Q.next=bB [v7]:=by rw[J,H.aL]
  have n8:L.next=Q.next+1:=by rw[J,H.aW]
  have f8:Fr Q L:=by rw[J];exact (Fr.refl Q).new _
  rw[←J]
  have b3:=f7.trans f8
  have d7:=ow.fr b3
  have j3:=aN.length c0
  obtain⟨h9,a9,p9⟩:=d7.push (bytes:=24) (SV.one om g8 (.kn 1)) (n:=k) (m:=1) om rfl om om om
  simp(disch:=omega)only[go_sem,a9]
  rw[fJ k]
  have n9:=p9.next
  have f9:Fx W' L h9:=p9.fx g5
  have i1:=b3.next
  have c1: ∀id,id<L.next->(W' id∨id=L.next)->W' id:=λid U l=>by
   rcases l with l|l
   ·exact l
   ·omega
  refine⟨q.length-(k+1),om,k+1,_,_,r++ [Lx τ (n-(i+1)) (i+1) y],λid=>W' id∨id=L.next,aB rfl,om,p9.own om rfl (by have:=f5.next;omega),?_,λid b2 m c e=>by cases e;exact .inr rfl,λid h=> .inl (c7 id h),λid h=>?_,by rw[iV,lr];rfl,λj hj z hz=>?_,?_,rfl⟩
  ·exact (dZ.go (dZ.go c0 (Fx.of b3) (λ_ _ h=>h)) f9 c1).append (dZ.one (PV.go (p7.mono f8) f9 c1))
  ·rcases h with h|h
   ·have:=c9 id h;exact⟨om,this.2⟩
   ·have:=f5.next;exact⟨om,.inr om⟩
  ·by_cases e:j=k
   ·subst e
    rw[hp,hy] at hz
    cases hz
    rw[←lr,kQ]
   ·rw[mK om]
    exact hr j om z hz
  ·refine⟨by have:=f5.next;omega,λid b4=>?_⟩
   rw[p9.old id (by have:=f5.next;omega) (λf0 b2 m c e e2=>by have:=(ow.in _ _ _ _ e).2.1;omega),b3.get id (by have:=f5.next;omega)]
   exact f5.get id b4
 rintro Z f ⟨N,r,⟨g,rfl⟩,pl,i3,f5⟩
 have s:=A4.mono f5
 have e8:=pq.mono f5
 have d6:f.get B=bB [aC 0,.aD,.aD]:=by rw[f5.get B (A4.wb B A4.d)];exact d8
 have cO:f.cell (B+1) 1=some vO:=by rw[H.aF s.get];rfl
 have cR:f.cell (B+1) 2=some K:=by rw[H.aF s.get];rfl
 obtain⟨ws,b9,g3,g9,g4⟩:=pl
 have pl:PL W f N r:=⟨ws,b9,g3,g9,g4⟩
 have j1:=s.fr.next
 have c8:=s.wb _ s.c
 simp(disch:=omega)only[go_sem,cO,cR,cK _ (z:= .aD) (v:= .sl P 0 q.length cp) rfl rfl]
 obtain⟨h6,b1⟩: ∃h6:H,h6=H.mk ((H.mk f.tr (f.next+3)).new (Ob.cells false [.sl P 0 q.length cp])).tr (f.next+14):=⟨_,rfl⟩
 rw[←b1]
 have g6:h6.get (f.next+3)=bB [.sl P 0 q.length cp]:=by rw[b1];exact H.aL (H.mk f.tr (f.next+3)) _
 have n6:h6.next=f.next+14:=by rw[b1]
 have o6: ∀k,k≠f.next+3->h6.get k=f.get k:=λk hk=>by rw[b1];exact H.bG (H.mk f.tr (f.next+3)) (by simpa using hk) _
 have f6:Fr f h6:=⟨om,λid b4=>o6 id om⟩
 have j0:=aN.length s.aO
 have i7:=aN.length s.aR
 obtain⟨Q,a7,p7⟩:=(s.oO.fr f6).push (bytes:=24) (SV.one om g6 (.kn 1)) (n:=i) (m:=1) om rfl om om om
 have n7:=p7.next
 have a4: ∀k,k<f.next->dR vO k->Q.get k=f.get k:=λk U l=>by rw[p7.old k om l,o6 k om]
 have d5:Q.cell (B+1) 2=some K:=by unfold H.cell;rw[a4 (B+1) c8 s.pO,s.get];rfl
 have eR:dI K K=true:=s.oR.sv.dI
 have d2:N.cells= [N]/\N.one=true:=⟨(SV.cT b9).1,(SV.cT b9).2.1⟩
 simp(disch:=omega)only[go_sem,a7,d5,eR,cK _ (z:= .aD) d2.1 d2.2]
 obtain⟨L,J⟩: ∃L:H,L=H.mk ((H.mk Q.tr (f.next+8)).new (Ob.cells false [N])).tr Q.next:=⟨_,rfl⟩
 rw[←J]
 have g8:L.get (f.next+8)=bB [N]:=by rw[J];exact H.aL (H.mk Q.tr (f.next+8)) _
 have n8:L.next=Q.next:=by rw[J]
 have o8: ∀k,k≠f.next+8->L.get k=Q.get k:=λk hk=>by rw[J];exact H.bG (H.mk Q.tr (f.next+8)) (by simpa using hk) _
 have d3:dH L K 1 b7 h.next:=s.oR.mono om λid b2 m c e _ b4=>by
  rw[o8 id om,a4 id b4 (λf0 i5 n' c' e' e2=>s.Rh _ _ _ _ e' _ _ _ _ e e2.symm)]
 obtain⟨h9,a9,p9⟩:=d3.push (bytes:=24) (SV.one om g8 (.kn 1)) (n:=i) (m:=1) om rfl om om om
 have n9:=p9.next
 have g7: ∀k,f.next<=k->dR K k:=λk hk id b2 m c e e2=>by have:=(s.oR.in _ _ _ _ e).1;omega
 have a6: ∀k,k<f.next->dR vO k->dR K k->h9.get k=f.get k:=λk U l h3=>by rw[p9.old k om h3,o8 k om,a4 k U l]
 have e9:h9.get (B+1)=bB [aC n,vO,K]:=by rw[a6 _ c8 s.pO s.pR];exact s.get
 have i0: ∀(G:H) (x:V),eU (bB [aC n,vO,K]) G (B+1) 1 [x]=some (G.set (B+1) (bB [aC n,x,K])):=λG x=>bT (by simp) G _ x
 have d4: ∀(G:H) (x y:V),eU (bB [aC n,x,K]) G (B+1) 2 [y]=some (G.set (B+1) (bB [aC n,x,y])):=λG x y=>bT (by simp) G _ y
 simp(disch:=omega)only[go_sem,a9,e9,i0,d4]
 rw[fJ i]
 obtain⟨ha,hb⟩:h6.next=f.next+14/\L.next=f.next+15:=⟨n6,om⟩
 rw[ha,hb]
 obtain⟨a5,a0⟩: ∃a5,a5=(h9.set (B+1) (bB [aC n,.sl (f.next+14) 0 (i+1) (.un 1),K])).set (B+1) (bB [aC n,.sl (f.next+14) 0 (i+1) (.un 1),.sl (f.next+15) 0 (i+1) (.un 1)]):=⟨_,rfl⟩
 rw[←a0]
 have b6: ∀k,k≠B+1->a5.get k=h9.get k:=λk hk=>by rw[a0,H.aH _ hk,H.aH _ hk]
 have i9:a5.next=f.next+16:=by rw[a0];show h9.next=_;omega
 have d9:=s.step (v4:= .sl P 0 q.length cp) (v5:=N) (o:=q) (r:=r) (h6:=a5) (a:=f.next+14) (b:=f.next+15) (k1:=i+1) (k2:=i+1) e8 pl om om om om om om om (by rw[a0,H.aU])
  (by rw[b6 _ om,p9.old _ om (g7 _ om),o8 _ om,←ha];exact p7.get) (by rw[b6 _ om,←hb];exact p9.get) (λk U l h3 h4=>by rw[b6 k l];exact a6 k U h3 h4)
 refine⟨n-(i+1),om,i+1,_,_,_,_,_,_,_,aB rfl,om,d9,?_,by rw[iV,lO];rfl,by rw[iV,lR];rfl,λj hj=>?_,rfl⟩
 ·rw[a6 B (s.wb B s.d) s.qO s.qR];exact d6
 ·by_cases e:j=i
  ·subst e
   have e1:(O++ [q]).getD j []=q:=by rw[←lO];exact kQ
   have e2:(R'++ [r]).getD j []=r:=by rw[←lR];exact kQ
   rw[e1,e2]
   exact i3
  ·rw[mK om,mK om]
   exact hC j om
theorem QH (h:H)(n:Nat)(a:n<=100000):Jz h 1 24 [.aD] (aC n) (aC n)=some (.sl h.next 0 n (.kn n),h.new (.cells false (rc n λ_=> .aD))):=by
 have e:dP [V.aD] n=rc n λ_=> .aD:=(Lq (by simp [dP]) λi hi=>by simp [dP,hi,Nat.mod_one]).symm
 rw[uM om (Int.le_refl _) om om,DK,tW,e]
theorem QL (n:Nat)(h:H)(hn:n<=64):Ev T 86 [aC n] h (λv h'=> ∃ρ F,Ji h.next (WB n ρ) h' n v ρ F (λ_ _=>none)/\Fr h h'):=by
 refine dW Er rfl ?_;simp(disch:=omega)only[go_sem,Er,aE]
 refine aI (λJ k w=> ∃(i:Nat) (u:V) (b:List Nat),(∃g:Nat->V,k= [aC n,g 1,u,aC i,g 4])/\i<=n/\b.length=i/\dH w u 1 (b.map λr=> .sl r 0 n (.kn n)) h.next/\b.Nodup/\
   (∀r∈b,h.next<=r/\r<w.next/\w.get r=some (.cells false (rc n λ_=> .aD))/\dR u r)/\Fr h w/\J=n-i) n
  ⟨0,.aD, [],aB rfl,iB _,rfl,dH.aD _ _ _,List.nodup_nil,λr l=>absurd l List.not_mem_nil,Fr.refl h,rfl⟩ ?_
 rintro J k Q ⟨i,u,b,⟨g,rfl⟩,hi,y,A,nd,l,f,rfl⟩
 by_cases t:(i:Int)<(n:Int)
 case neg=>
  have B:=bI t;obtain rfl:i=n:=om
  simp(disch:=omega)only[go_sem,B];have x: ∀j,j<i->b.getD j 0∈b:=λj d=>bC om
  refine⟨λj=>b.getD j 0,λ_ _=> .aD,⟨?_,?_,λj d=>(l _ (x j d)).2.2.1,λj d=>⟨j,d,rfl⟩,?_,?_,λa c O K e=>?_,λ_ _ _ _=>rfl⟩,f⟩
  ·have U:(rc i λj=>V.sl (b.getD j 0) 0 i (.kn i))=b.map λr=> .sl r 0 i (.kn i):=Lq (by rw[iA];exact y) λj d=>by
    rw[Qy,dD om,List.getD,dD om];rfl
   rw[U];exact A.sv
  ·cases u with
   |sl id o m c=>
    rintro⟨j,d,e⟩;exact (l _ (x j d)).2.2.2 _ _ _ _ rfl e
   |_=>trivial
  ·rintro id ⟨j,d,rfl⟩;exact (l _ (x j d)).2.1
  ·rintro id ⟨j,d,rfl⟩;exact (l _ (x j d)).1
  ·have Z:=dD (show a<b.length by omega)
   have Y:=dD (show c<b.length by omega);simp only[List.getD,Z,Y,Option.getD_some] at e;rcases Nat.lt_trichotomy a c with p|p|p
   ·exact absurd e (GP.1 nd a c om om p)
   ·exact p
   ·exact absurd e.symm (GP.1 nd c a om om p)
 have B:=cI t;obtain⟨S,N⟩:=exI Q.next;obtain⟨h3,e3,L,g3,W,R⟩:=dK N (rc n λ_=> .aD);have fn:=f.next;obtain⟨h4,G,s,f4,n4,P⟩:=Je (v:= .sl S 0 n (.kn n)) (A.fr R) (f.trans R) (by rw[iA];omega) (bytes:=24) om;rw[iA,y,L] at G s;simp(disch:=omega)only[go_sem,B,QH Q n om,N,e3,cK _ (z:= .aD) (v:= .sl S 0 n (.kn n)) rfl rfl,L,G];rw[fJ i];have q: ∀r∈b,r<S:=λr h=>by have:=(l r h).2.1;omega
 refine⟨n-(i+1),om,i+1,_,b++ [S],aB rfl,om,by rw[iV,y];rfl,by rw[List.map_append];exact s,List.nodup_append.2 ⟨nd,by simp,λa O c K e=>?_⟩,λr h=>?_,f4,rfl⟩
 ·have:=q a O
  simp at K;omega
 ·rcases oD.1 h with h|h
  ·obtain⟨b1,b2,b3,b4⟩:=l r h
   refine⟨b1,om,by rw[P r om b4,W r om];exact b3,λid o m c e=>by cases e;omega⟩
  ·simp at h
   subst h;refine⟨om,om,by rw[P _ om (λid o m c e U=>by have:=(A.in _ _ _ _ e).1;omega)];exact g3,λid o m c e=>by cases e;omega⟩
theorem rL (Q:V)(n:Nat)(l:LN)(h:H)(n0:1<=n)(n7:n<=7)(hl:l.length<=4096)(hv:SP h Q l)(hP: ∀g∈l,aY n g):
  Ev T 30 [aC n,Q] h (λv h'=> ∃vc O R,v= .tup [vc,aC 0]/\GC (λid=>id<h.next) h' vc n O R (bM n (· ∈l))/\Fr h h'):=by
 refine dW Gs rfl ?_
 obtain⟨B,hB⟩:=exI h.next
 obtain⟨h1,e1,n1,g1,o1,f1⟩:=dK hB [aC 0,.aD,.aD]
 have d1:decide ((n:Int)<1)=false:=bI om
 have d2:decide ((64:Int)<(n:Int))=false:=bI om
 have W:=hv.lens
 rw[iA] at W
 have d3:decide ((4096:Int)<(l.length:Int))=false:=bI om
 obtain⟨id,A,ws,sh,d,a4,L,z⟩:=hv.open
 rw[iA] at sh d a4 L
 simp(disch:=omega)only[go_sem,Gs,aE,hB,e1,d1,d2,W,d3]
 refine bQ (λJ r=>(∃g:Nat->V,J= [aC n,Q,.ptr B 0,g 3,g 4,g 5,g 6,g 7,g 8,g 9,g 10,g 11,g 12,g 13])/\Fr h1 r) ?_ ?_
 ·refine aI (λY J r=> ∃(i:Nat),(∃g:Nat->V,J= [aC n,Q,.ptr B 0,g 3,aC i,g 5,g 6,g 7,g 8,g 9,g 10,g 11,g 12,g 13])/\i<=l.length/\Fr h1 r/\Y=l.length-i) l.length
   ⟨0,aB rfl,iB _,Fr.refl h1,rfl⟩ ?_
  rintro Y o j ⟨i,⟨g,rfl⟩,hi,f,rfl⟩
  by_cases m:(i:Int)<(l.length:Int)
  ·have P:=cI m
   have a:i<l.length:=om
   have F2:=f1.trans f
   have ci:j.cell id (A+i)=some (ws.getD i .undef):=by rw[F2.cell (d om),L i a]
   have G:=xJ z a
   have X:aY n (l.getD i []):=hP _ (bC a)
   generalize ws.getD i .undef=vx at ci G
   have lx:=G.lens
   rw[aS,X.len] at lx
   simp(disch:=omega)only[go_sem,W,P,sh.ixa,ci]
   refine (Hn vx _ j (by rw[aS,X.len];omega) (G.mono F2)).mono ?_
   rw[Wm X n0 om]
   rintro _ h3 ⟨rfl,s⟩
   have a6:h3.cell id (A+i)=some vx:=by rw[s.cell (by have:=d om;have:=F2.next;omega)];exact ci
   simp(disch:=omega)only[go_sem]
   refine bA (λL=>(L rfl).elim) (λ_=>?_)
   simp(disch:=omega)only[go_sem,sh.ixa,a6,lx]
   refine bA (λL=>(L rfl).elim) (λ_=>?_)
   simp(disch:=omega)only[go_sem]
   rw[fJ i]
   exact⟨l.length-(i+1),om,i+1,aB rfl,om,f.trans s,rfl⟩
  have P:=bI m
  simp(disch:=omega)only[go_sem,W,P]
  exact⟨aB rfl,f⟩
 rintro o j ⟨⟨g,rfl⟩,f⟩
 have F2:=f1.trans f
 have nf:=f.next
 simp(disch:=omega)only[go_sem]
 refine (QL n j om).mono ?_
 rintro N h3 ⟨ρ,F,R,s⟩
 have F3:=F2.trans s
 simp(disch:=omega)only[go_sem]
 have hL: ∀g,g∈l->aY n g:=hP
 refine bQ (λJ r=> ∃(y:Nat->Nat->V) (t:rX),(∃g:Nat->V,J= [aC n,Q,.ptr B 0,g 3,g 4,g 5,N,g 7,g 8,g 9,g 10,g 11,g 12,g 13])/\Ji j.next (WB n ρ) r n N ρ y t/\Na n (· ∈l) t/\(∀g∈l,ins t n 0 g=none)/\Fx (WB n ρ) h3 r) ?_ ?_
 ·refine aI (λY J r=> ∃(i:Nat) (y:Nat->Nat->V) (t:rX),(∃g:Nat->V,J= [aC n,Q,.ptr B 0,g 3,g 4,g 5,N,aC i,g 8,g 9,g 10,g 11,g 12,g 13])/\i<=l.length/\Ji j.next (WB n ρ) r n N ρ y t/\Na n (· ∈l) t/\(∀g∈l.take i,ins t n 0 g=none)/\Fx (WB n ρ) h3 r/\Y=l.length-i) l.length
   ⟨0,F,_,aB rfl,iB _,R,⟨pQ.empty n,λg hg=>by
    obtain⟨_,_,_,_,_,e⟩:=gO.1 hg
    cases e⟩,λg hg=>absurd hg List.not_mem_nil,Fx.refl _ _,rfl⟩ ?_
  rintro Y o U ⟨i,y,t,⟨g,rfl⟩,hi,R4,Z,hn,x,rfl⟩
  by_cases m:(i:Int)<(l.length:Int)
  case neg=>
   have P:=bI m;obtain rfl:i=l.length:=om
   simp(disch:=omega)only[go_sem,W,P];rw[List.take_length] at hn;exact⟨y,t,aB rfl,R4,Z,hn,x⟩
  have P:=cI m
  have a:i<l.length:=om
  have c: ∀q,WB n ρ q->j.next<=q:=R.low
  have X4:Fr h U:=F2.trans ⟨by have:=s.next;have:=x.next;omega,λq hq=>by rw[x.get q (by have:=s.next;omega) (λhw=>by have:=c q hw;omega)];exact s.get q hq⟩
  have ci:U.cell id (A+i)=some (ws.getD i .undef):=by rw[X4.cell (d om),L i a]
  have G:=xJ z a
  have X:aY n (l.getD i []):=hP _ (bC a)
  generalize ws.getD i .undef=vx at ci G
  simp(disch:=omega)only[go_sem,W,P,sh.ixa,ci]
  have px:PV (WB n ρ) U vx (l.getD i []):=by
   refine⟨G.mono X4,HN (b:=j.next) G om c⟩
  refine (Tf j.next (WB n ρ) U n N ρ y t vx _ om om R4 px X Z.tab).mono ?_
  rintro _ h5 ⟨F5,rfl,R5,f5⟩
  simp(disch:=omega)only[go_sem]
  rw[fJ i]
  obtain⟨k,p,K⟩:=Z.ins hL (x:=l.getD i []) (bM.of hL (bC a))
  refine⟨l.length-(i+1),om,i+1,F5,_,aB rfl,om,R5,k,λu hu=>?_,x.trans f5 (λ_ _ h=>h),rfl⟩
  rcases (Ee a).1 hu with hu|rfl
  ·exact Gz p _ _ _ (hn u hu)
  ·exact K
 clear g
 rintro o U ⟨y,t,⟨g,rfl⟩,R4,Z,hn,x⟩
 have x3:=x.next
 have n3:=s.next
 simp(disch:=omega)only[go_sem]
 refine (UM j.next (WB n ρ) U n N ρ y t (· ∈l) n7 n0 om R4 hL Z).mono ?_
 rintro _ h5 ⟨W5,F5,t5,R5,k,p,a3,x5,a9⟩
 have n5:=x5.next
 have tw:=HY k.tab a3
 simp(disch:=omega)only[go_sem]
 refine (NN j.next W5 h5 n N ρ F5 t5 om n0 R5 k.tab tw).mono ?_
 rintro vc h6 ⟨O,R',ch,a7,f6⟩
 have n6:=f6.next
 have c: ∀q,WB n ρ q->j.next<=q:=R.low
 have a0:Fr j h5:=⟨om,λq hq=>by
  rw[x5.get q om (λhw=>by have:=c q hw;omega),x.get q om (λhw=>by have:=c q hw;omega)]
  exact s.get q hq⟩
 have F6:=(F2.trans a0).trans f6
 have a8:=a0.trans f6
 have g6:h6.get B=some (.cells false [aC 0,.aD,.aD]):=by rw[a8.get B om,f.get B om];exact g1
 have a5:=ch
 obtain⟨vO,vR,b2,b1,e,t1,_,_,t2,_,_⟩:=ch
 subst e
 have a2:=t1.cT.2.1
 have a1:=t2.cT.2.1
 obtain⟨h7,e7,b0,g7,o7⟩:=mV h6 B [aC n,vO,vR]
 have r7:=aJ g7
 simp(disch:=omega)only[go_sem,cF h6 B 0 (v:= aC n) (u:=vO) (w:=vR) rfl a2 a1,g6,cH,e7,r7]
 have f7:Fx (λid=>id<h5.next) h6 h7:=⟨om,λid _ d=>o7 id om⟩
 refine⟨_,O,R',rfl,⟨a5.go f7 (λid _ h=>om),a7.congr (k.group hL n0 a3 λg hg=>Gz p _ _ _ (hn g hg)),bM.cY hP,n0,n7⟩,⟨by have:=F6.next;omega,λid d=>by rw[o7 id om];exact F6.get id d⟩⟩
section
variable {h:H} {v:V} {n:Nat} {l:List Nat}
theorem mB (x:Nat)(l:List Int)(n:Int)(h:H)(R:Tk h x l)(hl:l.length<9223372036854775808)(hn:1<=n)(u:n<1000000000):
  Ev T 43 [.ptr x 0,aC n] h (λv h'=> ∃z,v= aC z/\0<=z/\z<n/\Tk h' x l/\Ah x h h'):=by
 obtain⟨d,a,q,o,b,ha,hx⟩:=R
 refine dW xH rfl ?_
 have G:h.cell x 0=some d:=by rw[H.aF q];rfl
 have y:h.cell x 1=some (aC a):=by rw[H.aF q];rfl
 have w:dI d d=true:=SV.dI o
 obtain⟨id,s,i,t,Y⟩:=o.open
 simp (disch:=first|omega|(simp only[Qn];(try omega);done)|fail) only[go_sem,xH,aE,G,y,o.lens,w]
 by_cases p:(l.length:Int)<=(a:Int)
 ·rw[cI p]
  simp (disch:=first|omega|(simp only[Qn];(try omega);done)|fail) only[go_sem]
  exact⟨0,rfl,om,om,⟨d,a,q,o.mono ((Fr.refl h).bH om),b,ha,by show x<h.next+14;omega⟩,Ah.of ((Fr.refl h).bH om)⟩
 ·rw[bI p]
  simp (disch:=first|omega|(simp only[Qn];(try omega);done)|fail) only[go_sem]
  rw[bI (show ¬n<1 by omega)]
  simp (disch:=first|omega|(simp only[Qn];(try omega);done)|fail) only[go_sem,y,q]
  have F:id≠x:=by
   intro e;have:=i.ixa .i64 0 om om;rcases o with ⟨_,A⟩|⟨k,J,c,f,_,_,rfl,_⟩
   ·have:(ints l).length=0:=by rw[A];rfl
    rw[aP] at this;omega
   ·have a0:c=l.length:=Option.some.inj i.len
    rw[Il om om] at this;simp only[Option.some.injEq,V.ptr.injEq] at this;have:=b _ _ _ _ rfl;omega
  have O:h.cell id (s+a)=some (aC (l.getD a 0)):=Y a om
  have U:((a:Int)+1- 1).toNat=a:=om
  simp (disch:=first|omega|(simp only[Qn];(try omega);done)|fail) only[go_sem,G,y,q,i.ixa,O,w,U]
  have B: ∀m,(H.mk ((H.mk h.tr (h.next+14)).set x (some (.cells false [d,aC ((a:Int)+1)]))).tr m).get x=some (.cells false [d,aC ((a:Int)+1)]):=λm=>H.aU ..
  have r:Ah x h (H.mk ((H.mk h.tr (h.next+14)).set x (some (.cells false [d,aC ((a:Int)+1)]))).tr (h.next+14+14)):=⟨by show h.next<=h.next+14+14;omega,λid t b=>H.aH _ b _⟩
  have P:(H.mk ((H.mk h.tr (h.next+14)).set x (some (.cells false [d,aC ((a:Int)+1)]))).tr (h.next+14+14)).next=h.next+14+14:=rfl
  have j:=B (h.next+14+14)
  generalize H.mk ((H.mk h.tr (h.next+14)).set x (some (.cells false [d,aC ((a:Int)+1)]))).tr (h.next+14+14)=h2 at*
  refine (acZ (l.getD a 0) n h2 om u).mono ?_
  rintro v L ⟨rfl,rfl⟩
  have Z:L.cell x 0=some d:=by rw[H.aF j];rfl
  have k1:L.cell x 1=some (aC ((a:Int)+1)):=by rw[H.aF j];rfl
  simp (disch:=first|omega|(simp only[Qn];(try omega);done)|fail) only[go_sem,Z,k1,w]
  have K:=FD (l.getD a 0) (show 0<n by omega)
  refine⟨_,rfl,K.1,K.2,⟨d,a+1,?_,?_,b,om,om⟩,r⟩
  ·rw[j];simp
  ·rcases o with A|⟨k,J,c,f,ro,W,rfl,q2,q3,N,q5,Q⟩
   ·exact .inl A
   ·exact .inr ⟨k,J,c,f,ro,W,rfl,q2,om,(r.get k q3 (λe=>by have:=b _ _ _ _ rfl;omega)).trans N,q5,Q⟩
theorem Qh (n:Nat)(h:H)(K:n<=1000):
  Ev T 91 [aC n] h (λv h'=>dH h' v 1 (ints (zi (aX n))) h.next/\Fr h h'):=by
 refine dW Ds rfl ?_
 simp (disch:=first|omega|(simp only[Qn];(try omega);done)|fail) only[go_sem,Ds,aE]
 refine aI (λu c w=> ∃(i:Nat) (o:V),(∃j:Nat->V,c= [aC n,j 1,o,aC i,j 4])/\i<=n/\dH w o 1 (ints (zi ((aX n).take i))) h.next/\Fr h w/\u=n-i) n
  ⟨0,.aD,aB rfl,iB _,dH.aD _ _ _,Fr.refl h,rfl⟩ ?_
 rintro u c a ⟨i,o,⟨J,rfl⟩,hi,r,F,rfl⟩
 simp (disch:=first|omega|(simp only[Qn];(try omega);done)|fail) only[go_sem]
 by_cases f:(i:Int)<(n:Int)
 ·rw[cI f]
  have q:i<n:=om
  simp (disch:=first|omega|(simp only[Qn];(try omega);done)|fail) only[go_sem,Oy]
  have b:Fr a (a.new (.cells false (ints [(i:Int)]))):=(Fr.refl a).new _
  have k:(a.new (.cells false (ints [(i:Int)]))).get a.next=some (.cells false (ints [(i:Int)])):=H.aL ..
  have x:(a.new (.cells false (ints [(i:Int)]))).next=a.next+1:=H.aW ..
  generalize a.new (.cells false (ints [(i:Int)]))=s at*
  have A:SV s (.sl a.next 0 1 (.kn 1)) 1 (ints [(i:Int)]):=SV.all rfl om k _
  have N:=F.next
  have L:=iH n
  obtain⟨z,y,t,d⟩:=(r.fr b).app (bytes:=8) (n:=i) (m:=1) om A (by rw[aP,aS,zO,tW];omega) rfl om om
  simp (disch:=first|omega|(simp only[Qn];(try omega);done)|fail) only[go_sem,t]
  have p:=d.own
  have B:=fM q
  have G:zi ((aX n).take i)++ [(i:Int)]=zi ((aX n).take (i+1)):=by rw[Ku om,Mo,B]
  rw[←rP,G] at p
  rw[fJ i]
  exact⟨n-(i+1),om,i+1,z,aB rfl,om,p,d.fr h (F.trans b) (fN _),rfl⟩
 rw[bI f]
 obtain rfl:i=n:=om
 simp (disch:=first|omega|(simp only[Qn];(try omega);done)|fail) only[go_sem]
 rw[Ro (by rw[iH];omega)] at r
 exact⟨r,F⟩
structure Mp (h:H)(v:V)(n id:Nat)(l:List Nat):Prop where
 ex: ∃cap rest,v= .sl id 0 n cap/\id<h.next/\h.get id=some (.cells false (ints (zi l)++rest))
 bF:aY n l
theorem Mp.of {b:Nat}(p:0<n)(X:aY n l)(o:dH h v 1 (ints (zi l)) b): ∃id,Mp h v n id l/\b<=id:=by
 rcases o with ⟨_,e⟩|⟨id,m,c,a,rfl,d,k,f,j,i⟩
 ·have:=congrArg List.length e
  rw[aP,aS,List.length_nil,X.len] at this;omega
 ·rw[aP,aS,tW,X.len] at d
  subst d;exact⟨id,⟨⟨c,a,rfl,j,i⟩,X⟩,f⟩
theorem Mp.si {id:Nat}(m:Mp h v n id l):SI h v (zi l):=by
 obtain⟨⟨a,b,rfl,c,d⟩,X⟩:=m;refine .inr ⟨id,0,n,a,false,_,rfl,by rw[aP,aS,X.len,tW],c,d,by rw[iV,aP,aS,X.len];omega,?_⟩;rw[List.drop_zero,tW,List.take_left' (by rw[aP,aS,X.len])]
theorem Mp.mono {h':H}{id:Nat}(m:Mp h v n id l)(i:h.next<=h'.next)(d:h'.get id=h.get id):Mp h' v n id l:=by
 obtain⟨⟨b,a,c,j,f⟩,X⟩:=m;exact⟨⟨b,a,c,om,by rw[d];exact f⟩,X⟩
theorem AA {rest:List V}{i:Nat}(hi:i<l.length)(x:Nat):(ints (zi l)++rest).set i (aC x)=ints (zi (l.set i x))++rest:=by
 rw[List.set_append_left _ _ (by rw[aP,aS];exact hi)];congr 1;simp [ints,zi,List.map_set]
def abF (n a b:Nat):List Nat:=(List.range n).map λj=>if j=b- 1 then a else if a<=j/\j<b then j+1 else j
theorem Py {f:Nat->Nat}{j:Nat}(a:j<n):((List.range n).map f).getD j 0=f j:=by simp [List.getD,a]
theorem VW {a b:Nat}(d:a<b)(h2:b<=n):aY n (abF n a b):=by
 unfold abF;refine aY.Us (by simp) (λi hi=>?_) (λi j hi c h=>?_)
 ·rw[Py hi]
  split
  ·omega
  ·split<;>omega
 ·rw[Py hi,Py c] at h
  split at h<;>split at h<;>(try split at h)<;>(try split at h)<;>omega
theorem US (f:Nat->Nat):(rc n λj=>aC (f j:Nat))=ints (zi ((List.range n).map f)):=by
 have e:=Sq ((List.range n).map f);rw[iA,Xf] at e;rw[←e];exact dJ λj a=>by rw[Py a]
theorem Zn (h:H)(v:V)(n id a b:Nat)(P:n<=64)(m:Mp h v n id (aX n))(G:a<b)(h2:b<=n):
  Ev T 92 [v,aC a,aC b] h (λw h'=>w=v/\Mp h' v n id (abF n a b)/\Ah id h h'):=by
 refine dW Ma rfl ?_
 obtain⟨⟨f,c,rfl,t,F⟩,_⟩:=m
 have N:ints (zi (aX n))=rc n λj=> aC (((if a<=j/\j<a then j+1 else j:Nat)):Int):=by
  rw[US];congr 2;refine (uZ (by simp [aX]) λi hi=>?_).symm;rw[iA,Xf] at hi;rw[Py hi,fM hi,bU om]
 rw[N] at F
 simp (disch:=first|omega|(simp only[Qn];(try omega);done)|fail) only[go_sem,Ma,aE]
 refine bQ (λvs p=>(∃g:Nat->V,vs= [.sl id 0 n f,aC a,aC b,g 3,g 4,g 5])/\p.get id=some (.cells false ((rc n λj=> aC (((if a<=j/\j<b then j+1 else j:Nat)):Int))++c))/\Ah id h p) ?_ ?_
 ·refine aI (λB d p=> ∃(i:Nat),(∃g:Nat->V,d= [.sl id 0 n f,aC a,aC b,g 3,aC i,g 5])/\a<=i/\i<=b/\p.get id=some (.cells false ((rc n λj=> aC (((if a<=j/\j<i then j+1 else j:Nat)):Int))++c))/\Ah id h p/\B=b-i) (b-a)
   ⟨a,aB rfl,fN _,om,F,Ah.refl _ _,rfl⟩ ?_
  rintro B d z ⟨i,⟨g,rfl⟩,J,K,r,q,rfl⟩
  by_cases o:(i:Int)<(b:Int)
  case neg=>
   have u:=bI o;obtain rfl:i=b:=om
   simp (disch:=first|omega|(simp only[Qn];(try omega);done)|fail) only[go_sem,u];exact⟨aB rfl,r,q⟩
  have u:=cI o
  have s:i<n:=om
  have y:decide ((i:Int)<0)=false:=bI om
  have x:decide ((n:Int)<=(i:Int))=false:=bI om
  have k:=bT (vs:=(rc n λj=> aC (((if a<=j/\j<i then j+1 else j:Nat)):Int))++c) (off:=i) (by rw[iV,iQ];omega) z id (aC ((i:Int)+1))
  rw[List.set_append_left _ _ (by rw[iQ];exact s),lH] at k
  simp (disch:=first|omega|(simp only[Qn];(try omega);done)|fail) only[go_sem,u,y,x,r,k]
  rw[fJ i]
  refine⟨b-(i+1),om,i+1,aB rfl,om,om,?_,q.set _,rfl⟩
  congr 3
  refine dJ λj L=>?_
  by_cases e:j=i
  ·rw[bJ e,bJ ⟨om,om⟩,e]
  ·rw[bU e]
   by_cases A:a<=j/\j<i
   ·rw[bJ A,bJ ⟨A.1,om⟩]
   ·rw[bU A,bU om]
 rintro d z ⟨⟨g,rfl⟩,r,q⟩
 have O:(b:Int)- 1=((b- 1:Nat):Int):=om
 have y:decide (((b- 1:Nat):Int)<0)=false:=bI om
 have x:decide ((n:Int)<=((b- 1:Nat):Int))=false:=bI om
 have k:=bT (vs:=(rc n λj=> aC (((if a<=j/\j<b then j+1 else j:Nat)):Int))++c) (off:=b- 1) (by rw[iV,iQ];omega) z id (aC a)
 rw[List.set_append_left _ _ (by rw[iQ];omega),lH] at k
 simp (disch:=first|omega|(simp only[Qn];(try omega);done)|fail) only[go_sem,O,y,x,r,k]
 refine⟨⟨⟨f,c,rfl,jM t q.next,?_⟩,VW G h2⟩,q.set _⟩
 rw[H.aU]
 congr 3
 unfold abF
 rw[←US]
 refine dJ λj L=>?_
 by_cases e:j=b- 1
 ·rw[bJ e,bJ e]
 ·rw[bU e,bU e]
def NM (l:List Nat)(i k:Nat):List Nat:=(l.set i (l.getD k 0)).set k (l.getD i 0)
theorem SU (X:aY n l){i k:Nat}(hi:i<n)(b:k<n):aY n (NM l i k):=by
 have p:=X.len
 have at': ∀j,j<n->(NM l i k).getD j 0=if j=k then l.getD i 0 else if j=i then l.getD k 0 else l.getD j 0:=λj o=>by
  unfold NM;rw[cW (by simp;omega),List.getElem_set]
  by_cases e:k=j
  ·rw[bJ e,bJ e.symm]
  ·rw[bU e,bU (Ne.symm e),List.getElem_set]
   by_cases m:i=j
   ·rw[bJ m,bJ m.symm]
   ·rw[bU m,bU (Ne.symm m)];exact (cW om).symm
 refine aY.Us (by unfold NM;simp [p]) (λj o=>?_) (λa c d f h=>?_)
 ·rw[at' j o]
  split
  ·exact X.fX hi
  ·split
   ·exact X.fX b
   ·exact X.fX o
 ·rw[at' a d,at' c f] at h
  split at h<;>split at h<;>(try split at h)<;>(try split at h)
  all_goals first
   |omega
   |(have:=X.inj hi hi h;omega)
   |(have:=X.inj hi b h;omega)
   |(have:=X.inj b hi h;omega)
   |(have:=X.inj hi f h;omega)
   |(have:=X.inj d hi h;omega)
   |(have:=X.inj b b h;omega)
   |(have:=X.inj b f h;omega)
   |(have:=X.inj d b h;omega)
   |(have:=X.inj d f h;omega)
theorem BA (x:Nat)(l:List Int)(n:Nat)(h:H)(hn:n<=64)(n0:0<n)(ht:Tk h x l)(hl:l.length<9223372036854775808):
  Ev T 44 [.ptr x 0,aC n] h (λv h'=> ∃id q,Mp h' v n id q/\h.next<=id/\Tk h' x l/\Ah x h h'):=by
 refine dW Nq rfl ?_
 simp (disch:=first|omega|(simp only[Qn];(try omega);done)|fail) only[go_sem,Nq,aE]
 refine (Qh n h om).mono ?_
 rintro v h1 ⟨o1,U⟩
 obtain⟨id,m1,B⟩:=Mp.of n0 (aY.one n) o1
 have N:=m1
 obtain⟨⟨o,F,rfl,_,_⟩,_⟩:=N
 have a5:x<h.next:=by obtain⟨_,_,_,_,_,_,hx⟩:=ht;exact hx
 have O:id≠x:=om
 simp (disch:=first|omega|(simp only[Qn];(try omega);done)|fail) only[go_sem]
 refine aI (λY m b=> ∃(i:Nat) (q:List Nat),(∃g:Nat->V,m= [.ptr x 0,aC n,g 2,.sl id 0 n o,aC i,g 5,g 6])/\i<n/\Mp b (.sl id 0 n o) n id q/\Tk b x l/\Ah x h b/\Y=n-i) n
  ⟨0,aX n,aB rfl,n0,m1,ht.mono U,Ah.of U,rfl⟩ ?_
 rintro Y m h2 ⟨i,q,⟨g,rfl⟩,hi,L,Z,f2,rfl⟩
 by_cases u:(i:Int)+1<(n:Int)
 case neg=>
  have R:=bI u;simp (disch:=first|omega|(simp only[Qn];(try omega);done)|fail) only[go_sem,R];exact⟨id,q,L,B,Z,f2⟩
 have R:=cI u
 simp (disch:=first|omega|(simp only[Qn];(try omega);done)|fail) only[go_sem,R]
 refine (mB x l ((n:Int)-(i:Int)) h2 Z hl om om).mono ?_
 rintro _ s ⟨z,rfl,a7,a6,t3,P⟩
 obtain⟨c,rfl⟩: ∃c:Nat,z=(c:Int):=⟨z.toNat,om⟩
 obtain⟨k,hk⟩: ∃k,k=i+c:=⟨_,rfl⟩
 have ek:(i:Int)+(c:Int)=(k:Int):=om
 have r:k<n:=om
 have m3:=L.mono P.next (P.get id (by obtain⟨⟨_,_,_,h5,_⟩,_⟩:=L;exact h5) O)
 obtain⟨⟨a0,a,e,W,G⟩,Q⟩:=m3
 cases e
 have A:=Q.len
 have cell: ∀b:H,∀d:List Nat,d.length=n->b.get id=some (.cells false (ints (zi d)++a))-> ∀j,j<n->b.cell id j=some (aC (d.getD j 0:Nat)):=λb d J hg j p=>by
  rw[H.aF hg,Dt (by rw[aP,aS];omega),Ff om]
 have ci:=cell s q A G i hi
 have ck:=cell s q A G k r
 have a1:decide ((i:Int)<0)=false:=bI om
 have a2:decide ((n:Int)<=(i:Int))=false:=bI om
 have a3:decide ((k:Int)<0)=false:=bI om
 have a4:decide ((n:Int)<=(k:Int))=false:=bI om
 have pt: ∀(b:H) (d:List Nat) (j y:Nat),d.length=n->j<n->eU (some (.cells false (ints (zi d)++a))) b id j [aC y]=some (b.set id (some (.cells false (ints (zi (d.set j y))++a)))):=λb d j y J p=>by
  rw[bT (by rw[iV,aP,aS];omega),AA om]
 simp (disch:=first|omega|(simp only[Qn];(try omega);done)|fail) only[go_sem,ek]
 simp (disch:=first|omega|(simp only[Qn];(try omega);done)|fail) only[go_sem,a1,a2,a3,a4,ci,ck,G,pt _ q i (q.getD k 0) A hi,pt _ (q.set i (q.getD k 0)) k (q.getD i 0) (by simp [A]) r]
 rw[fJ i]
 obtain⟨w,f⟩: ∃w:H,w=((H.mk s.tr (s.next+16)).set id (some (.cells false (ints (zi (q.set i (q.getD k 0)))++a)))).set id (some (.cells false (ints (zi ((q.set i (q.getD k 0)).set k (q.getD i 0)))++a))):=⟨_,rfl⟩
 rw[←f]
 have n4:w.next=s.next+16:=by rw[f];rfl
 have o4: ∀j,j≠id->w.get j=s.get j:=λj p=>by rw[f,H.aH _ p,H.aH _ p];rfl
 have g4:w.get id=some (.cells false (ints (zi (NM q i k))++a)):=by rw[f,H.aU];rfl
 refine⟨n-(i+1),om,i+1,NM q i k,aB rfl,om,⟨⟨o,a,rfl,om,g4⟩,SU Q hi r⟩,t3.low om (λj p=>o4 j om),?_,rfl⟩
 have t:=f2.trans P
 have:=t.next
 exact⟨om,λj p K=>by rw[o4 j om];exact t.get j p K⟩
end
theorem Pa (h:H){v u:V}(b:v.one=true)(a:u.one=true):Ce h (.agg [v,u])=some (.ptr h.next 0,h.new (.cells false [v,u])):=rK h _ (by simp [b,a])
theorem SZ {x y:V}(h:H)(id:Nat)(u:V):eU (bB [x,y]) h id 1 [u]=some (h.set id (bB [x,u])):=by
 simp [eU,putAt]
theorem Mu {v z w:V}(a:v.cells= [v])(b:v.one=true):qU [z,w] [(0,1,v)]=some (.agg [v,w]):=by
 have c:putAt [z,w] 0 [v]=some [v,w]:=by simp [putAt]
 simp [qU,iK,c,a,b]
theorem Ah.cell {x:Nat}{a c:H}(f:Ah x a c){id off:Nat}(b:id<a.next)(h2:id≠x):c.cell id off=a.cell id off:=by unfold H.cell;rw[f.get id b h2]
structure GJ (h hh:H)(T0 C D n:Nat)(l:List Int)(gens:LN):Prop where
 ex: ∃vg ws,hh.get C=bB [aC n,vg]/\dH hh vg 1 ws (C+1)/\dZ (λid=>id<=C∨ ∃off m c,vg= .sl id off m c) hh ws gens
 tk:Tk hh T0 l
 gD:hh.get D=bB [aC 0,.aD]
 bF: ∀g∈gens,aY n g
 nx:C<hh.next
 fr:Fr h hh
theorem DN (vl:V)(l:List Int)(s:Nat)(h:H)(hv:SI h vl l)(hl:l.length<9223372036854775808)(m1:1<=s)(m2:s<=60):
  Ev T 32 [vl,aC s] h (λv h'=> ∃(n:Nat) (vg:V) (gens:LN),v= .agg [aC n,vg]/\1<=n/\n<=s/\gens.length<=3/\(∀g∈gens,aY n g)/\SP h' vg gens/\Fr h h'):=by
 refine dW El rfl ?_
 obtain⟨D,hD⟩:=exI h.next
 obtain⟨h1,e1,n1,g1,o1,f1⟩:=dK hD [aC 0,.aD]
 obtain⟨h2,e2,n2,g2,o2,f2⟩:=dK n1 [vl,aC 0]
 have wl:=SV.cT hv
 simp(disch:=omega)only[go_sem,El,aE,hD,e1,Mu wl.1 wl.2.1,Pa h1 (v:=vl) (u:= aC 0) wl.2.1 rfl,n1,e2]
 have m3:Tk h2 (D+1) l:=⟨vl,0,g2,hv.mono (f1.trans f2),λid d len c e=>by have:=SV.in hv _ _ _ _ e;omega,iB _,om⟩
 refine (mB (D+1) l s h2 m3 hl om om).mono ?_
 rintro _ h3 ⟨z,rfl,p3,p2,l0,f3⟩
 obtain⟨n,hn⟩: ∃n:Nat,1+z=(n:Int):=⟨(1+z).toNat,om⟩
 have n3:=f3.next
 obtain⟨C,hC⟩:=exI h3.next
 obtain⟨h4,e4,n4,g4,o4,f4⟩:=dK hC [aC 0,.aD]
 obtain⟨h5,e5,n5,g5,o5⟩:=mV h4 C [aC n,.aD]
 simp(disch:=omega)only[go_sem,hn,hC,e4,Mu (v:= aC n) (z:= aC 0) (w:= .aD) rfl rfl,vB h4 C 0 (v:= aC n) (u:= .aD) rfl rfl,g4,Hy,e5]
 have l8:Tk h5 (D+1) l:=l0.low om (λid o=>by rw[o5 id om,o4 id om])
 refine (mB (D+1) l 4 h5 l8 hl om om).mono ?_
 rintro _ h6 ⟨z2,rfl,p0,p5,k7,f6⟩
 obtain⟨K,rfl⟩: ∃K:Nat,z2=(K:Int):=⟨z2.toNat,om⟩
 have n6:=f6.next
 simp(disch:=omega)only[go_sem]
 refine aI (λk' b0 hh=> ∃(k:Nat) (gens:LN),(∃g:Nat->V,b0= [vl,aC s,.ptr D 0,.ptr (D+1) 0,.ptr C 0,aC k,g 6,g 7,g 8,g 9,g 10])/\gens.length+k<=3/\GJ h hh (D+1) C D n l gens/\k'=k) K
  ⟨K, [],aB rfl,by simp;omega,⟨⟨.aD, [],by rw[f6.get C om om];exact g5,dH.aD _ _ _,trivial⟩,k7,?_,λg hg=>absurd hg List.not_mem_nil,om,?_⟩,rfl⟩ ?_
 ·rw[f6.get D om om,o5 D om,o4 D om,f3.get D om om,o2 D om];exact g1
 ·refine⟨om,λid o=>?_⟩
  rw[f6.get id om om,o5 id om,o4 id om,f3.get id om om,o2 id om,o1 id om]
 rintro k' b0 Y ⟨k,gens,⟨g,rfl⟩,hk,J,rfl⟩
 have cn:Y.cell C 0=some (aC n):=by
  obtain⟨⟨vg,ws,gC,_⟩,_⟩:=J;rw[H.aF gC];rfl
 by_cases i1:(0:Int)<(k':Int)
 case neg=>
  have d1:=bI i1;obtain⟨⟨vg,ws,gC,ow,c7⟩,tk,gD,bF,nx,fr⟩:=J;have rC:=Io gC;obtain⟨B,e8,n8,g8,o8⟩:=mV Y D [aC n,vg];have r8:=Io g8;have wg:=SV.cT ow.sv;simp(disch:=omega)only[go_sem,d1,rC,vB Y D 0 (v:= aC n) (u:=vg) rfl wg.2.1,gD,Hy,e8,r8]
  have x8:Fx (λid=>id<=C∨ ∃d m c,vg= .sl id d m c) Y B:=⟨om,λid _ Z=>o8 id (λe=>Z (.inl om))⟩
  have k5:SV B vg 1 ws:=(ow.tU (h':=B) om (λid d m c e o=>by have:=(ow.in _ _ _ _ e).2.1;exact o8 id om)).sv;refine⟨n,vg,gens,rfl,om,om,om,bF,⟨ws,k5,?_⟩,⟨by have:=fr.next;omega,λid o=>by rw[o8 id om];exact fr.get id o⟩⟩;have c5:=dZ.fx c7 x8;have m0:=aN.length c5
  exact aN.lI (by simpa using m0) λi hi hj=>by
   have:=(aN.get c5 i hi om).si;simpa using this
 have d1:=cI i1
 have nx:=J.nx
 have e6:0<n:=om
 have a3:n<=64:=om
 simp(disch:=omega)only[go_sem,d1,cn]
 refine (Qh n Y om).mono ?_
 rintro F B ⟨o6,f8⟩
 obtain⟨r,f0,k1⟩:=Mp.of e6 (aY.one n) o6
 simp(disch:=omega)only[go_sem]
 refine (mB (D+1) l 3 B (J.tk.mono f8) hl om om).mono ?_
 rintro _ h9 ⟨z3,rfl,_,_,g0,f9⟩
 have G:Ah (D+1) Y h9:=(Ah.of f8).trans f9
 have e0:Mp h9 F n r (aX n):=f0.mono f9.next (f9.get r (by obtain⟨⟨_,_,_,h5,_⟩,_⟩:=f0;exact h5) om)
 have p: ∀hh,Ah (D+1) Y hh->hh.cell C 0=some (aC n):=λhh f=>by rw[f.cell nx om];exact cn
 simp(disch:=omega)only[go_sem]
 refine mM (λvs hh=> ∃(F:V) (x:List Nat),(∃g:Nat->V,vs= [vl,aC s,.ptr D 0,.ptr (D+1) 0,.ptr C 0,aC (k':Int),F,g 7,g 8,g 9,g 10])/\SI hh F (zi x)/\aY n x/\(∀id d len O,F= .sl id d len O->Y.next<=id)/\Tk hh (D+1) l/\Ah (D+1) Y hh) ?_ ?_
 ·refine bA (λ_=>?_) (λ_=>?_)
  ·simp(disch:=omega)only[go_sem,p h9 G]
   refine (BA (D+1) l n h9 a3 e6 g0 hl).mono ?_
   rintro w W ⟨id,q,mp,o,b9,c0⟩
   have n9:=G.next
   simp(disch:=omega)only[go_sem]
   refine .inl ⟨w,q,aB rfl,mp.si,mp.bF,λf5 d len O e=>?_,b9,G.trans c0⟩
   obtain⟨⟨_,_,e2,_⟩,_⟩:=mp
   rw[e2] at e;cases e;omega
  ·simp(disch:=omega)only[go_sem,p h9 G]
   refine (mB (D+1) l n h9 g0 hl om om).mono ?_
   rintro _ W ⟨z4,rfl,a4,b4,b9,c0⟩
   obtain⟨a,rfl⟩: ∃a:Nat,z4=(a:Int):=⟨z4.toNat,om⟩
   have d7:=G.trans c0
   simp(disch:=omega)only[go_sem,p W d7]
   refine (mB (D+1) l ((n:Int)-(a:Int)) W b9 hl om om).mono ?_
   rintro _ a1 ⟨z5,rfl,a5,b5,j1,j9⟩
   obtain⟨c,rfl⟩: ∃c:Nat,z5=(c:Int):=⟨z5.toNat,om⟩
   have n0:=d7.trans j9
   have P:=c0.trans j9
   have m7:r<h9.next:=by obtain⟨⟨_,_,_,h5,_⟩,_⟩:=e0;exact h5
   have i8:Mp a1 F n r (aX n):=e0.mono P.next (P.get r m7 om)
   have eb:(a:Int)+1+(c:Int)=((a+1+c:Nat):Int):=om
   simp(disch:=omega)only[go_sem,eb]
   refine (Zn a1 F n r a (a+1+c) a3 i8 om om).mono ?_
   rintro w a0 ⟨Z,j5,f7⟩
   have k3:=Z.symm
   subst k3
   have n8:=G.next
   have n9:=P.next
   have l3:=f7.next
   have d0:Ah (D+1) Y a0:=⟨om,λid o c4=>by rw[f7.get id om om,P.get id om c4];exact G.get id o c4⟩
   have i2:Tk a0 (D+1) l:=j1.low l3 (λid o=>f7.get id om om)
   have j2:r<a0.next:=om
   simp(disch:=omega)only[go_sem,p a0 d0]
   refine (mB (D+1) l n a0 i2 hl om om).mono ?_
   rintro _ k9 ⟨z6,rfl,a6,b6,i0,k0⟩
   obtain⟨a2,rfl⟩: ∃a:Nat,z6=(a:Int):=⟨z6.toNat,om⟩
   simp(disch:=omega)only[go_sem]
   refine (mB (D+1) l 2 k9 i0 hl om om).mono ?_
   rintro _ y ⟨z7,rfl,a7,b7,d6,i7⟩
   have R:=(d0.trans k0).trans i7
   have N:=k0.trans i7
   have p4:=N.next
   have A:Mp y F n r _:=j5.mono N.next (N.get r j2 om)
   have e7: ∀id d len O,F= .sl id d len O->Y.next<=id:=λf5 d len O e=>by
    obtain⟨⟨_,_,e2,_⟩,_⟩:=A;rw[e2] at e;cases e;omega
   simp(disch:=omega)only[go_sem]
   refine bA (λhz=>?_) (λhz=>?_)
   ·have j3:=SV.dI A.si
    simp(disch:=omega)only[go_sem,p y R]
    have fb:Fr y (H.mk y.tr (y.next+17)):=(Fr.refl y).bH om
    refine (Qh n _ om).mono ?_
    rintro w g3 ⟨ow,k2⟩
    obtain⟨c3,d2,h0⟩:=Mp.of e6 (aY.one n) ow
    have k4:=k2.next
    have hb:(H.mk y.tr (y.next+17)).next=y.next+17:=rfl
    rw[hb] at h0 k4
    have L:=fb.trans k2
    have d3:=R.trans (Ah.of L)
    have e3:c3<g3.next:=by obtain⟨⟨_,_,_,h5,_⟩,_⟩:=d2;exact h5
    simp(disch:=omega)only[go_sem,p g3 d3]
    refine (mB (D+1) l ((n:Int)-(a2:Int)) g3 (d6.mono L) hl om om).mono ?_
    rintro _ d9 ⟨z8,rfl,a8,b8,j6,a9⟩
    obtain⟨c2,rfl⟩: ∃c:Nat,z8=(c:Int):=⟨z8.toNat,om⟩
    have U:=d3.trans a9
    have o0:=a9.next
    have m9:=R.next
    have i3:Mp d9 w n c3 (aX n):=d2.mono a9.next (a9.get c3 e3 om)
    have l2:(a2:Int)+1+(c2:Int)=((a2+1+c2:Nat):Int):=om
    simp(disch:=omega)only[go_sem,p d9 U,l2]
    refine (Zn d9 w n c3 a2 (a2+1+c2) a3 i3 om om).mono ?_
    rintro w' b2 ⟨l9,b1,c6⟩
    have i9:=l9.symm
    subst i9
    have k8:=c6.next
    have b3:Ah (D+1) Y b2:=⟨by have:=U.next;omega,λid o c4=>by rw[c6.get id (by have:=U.next;omega) om];exact U.get id o c4⟩
    have i4:Tk b2 (D+1) l:=j6.low k8 (λid o=>c6.get id om om)
    have i6:r<y.next:=by obtain⟨⟨_,_,_,h5,_⟩,_⟩:=A;exact h5
    have t:Mp b2 F n r _:=A.mono om (by rw[c6.get r om om,a9.get r om om,L.get r i6])
    simp(disch:=omega)only[go_sem,p b2 b3,j3]
    refine (vT F w _ _ b2 (by rw[t.bF.len];omega) t.si b1.si (λj hj=>by rw[b1.bF.len];exact t.bF.fX (by rw[←t.bF.len];exact hj))).mono ?_
    rintro v l5 ⟨l6,j4,m5⟩
    have d8:=b3.trans (Ah.of j4)
    simp(disch:=omega)only[go_sem,p l5 d8,j3]
    exact .inl ⟨v,_,aB rfl,l6,t.bF.mul b1.bF,λid d len O e=>by have:=m5 _ _ _ _ e;have:=b3.next;omega,i4.mono j4,d8⟩
   ·simp(disch:=omega)only[go_sem]
    exact .inl ⟨F,_,aB rfl,A.si,A.bF,e7,d6,R⟩
 clear f0 e0 o6 f8 g0 G F B h9 f9 k1
 rintro b0 B ⟨F,x,⟨g,rfl⟩,sx,X,e7,m4,f8⟩
 obtain⟨⟨vg,ws,gC,ow,c7⟩,_,gD,bF,_,fr⟩:=J
 have n8:=f8.next
 have Q:=λid d m c (e:vg=V.sl id d m c)=>ow.in id d m c e
 have p6:=aN.length c7
 have j8:B.get C=bB [aC n,vg]:=by rw[f8.get C nx om];exact gC
 have c8:B.cell C 1=some vg:=by rw[H.aF j8];rfl
 have p1:=fr.next
 have l1:Fr h B:=⟨om,λid o=>by rw[f8.get id om om];exact fr.get id o⟩
 have l4:dH B vg 1 ws (C+1):=ow.tU n8 λid d m c e o=>by have:=(Q _ _ _ _ e).2.1;exact f8.get id o om
 have c5:dZ (λid=>id<=C∨ ∃d m c,vg= .sl id d m c) B ws gens:=dZ.fx c7 ⟨n8,λid o Z=>f8.get id o (λe=>Z (.inl om))⟩
 have px:PV (λid=>id<=C∨ ∃d m c,vg= .sl id d m c) B F x:=by
  refine⟨sx,?_⟩
  cases F with
  |sl id d len O=>
   have:=e7 _ _ _ _ rfl;rintro (h|⟨n7,m',c',e⟩)
   ·omega
   ·have:=(Q _ _ _ _ e).1;omega
  |_=>trivial
 obtain⟨h9,e9,n9,g9,o9,f9⟩:=dK (h:=B) rfl [F]
 have m6:=l4.fr f9
 obtain⟨W,j7,c1⟩:=m6.push (bytes:=24) (SV.one om g9 (.kn 1)) (n:=gens.length) (m:=1) om rfl om om om
 have o3:=c1.next
 rw[n9] at j7
 have l7:dR vg C:=λid d m c e e2=>by have:=(Q _ _ _ _ e).2.1;omega
 have j0:W.get C=bB [aC n,vg]:=by rw[c1.old C om l7,o9 C om];exact j8
 obtain⟨a1,k6,o7,m8,i5⟩:=mV W C [aC n,.sl (B.next+1) 0 (gens.length+1) (.un 1)]
 simp(disch:=omega)only[go_sem,c8,cK _ (z:= .aD) px.fG.1 px.fG.2,e9,j7,j0,SZ,k6]
 have ek:(k':Int)- 1=((k'- 1:Nat):Int):=om
 rw[ek]
 have c9: ∀id,id<B.next->id≠C->dR vg id->a1.get id=B.get id:=λid h1 h2 h3=>by rw[i5 id h2,c1.old id om h3,o9 id om]
 have g6: ∀id,id<=C->dR vg id:=λid o f5 d m c e e2=>by have:=(Q _ _ _ _ e).2.1;omega
 have d4:=c1.own om rfl (b:=C+1) om
 rw[n9] at d4
 have g7:Fx (λid=>id<=C∨ ∃d m c,vg= .sl id d m c) B a1:=⟨om,λid o Z=>c9 id o (λe=>Z (.inl om)) (λf5 d m c e e2=>Z (.inr ⟨d,m,c,e2▸e⟩))⟩
 have d5: ∀id,id<B.next->(id<=C∨ ∃d m c,V.sl (B.next+1) 0 (gens.length+1) (.un 1)= .sl id d m c)->(id<=C∨ ∃d m c,vg= .sl id d m c):=λid o Z=>by
  rcases Z with Z|⟨d,m,c,e⟩
  ·exact .inl Z
  ·cases e;omega
 refine⟨k'- 1,om,k'- 1,gens++ [x],aB rfl,by rw[iV];simp;omega,⟨⟨_,_,m8,d4.tU om (λid d m c e o=>by cases e;exact i5 _ om),(dZ.go c5 g7 d5).append (dZ.one (PV.go px g7 d5))⟩,m4.low om (λid o=>c9 id om om (g6 id om)),?_,λu hu=>?_,om,⟨om,λid o=>?_⟩⟩,rfl⟩
 ·rw[c9 D om om (g6 D om),f8.get D om om];exact gD
 ·rcases oD.1 hu with hu|hu
  ·exact bF u hu
  ·simp at hu;subst hu;exact X
 ·rw[c9 id om om (g6 id om)];exact l1.get id o
theorem LC (o:V)(n:Nat)(l:LN)(h:H)(n0:1<=n)(n7:n<=64)(hl:l.length<=16)(K:SP h o l)(hP: ∀g∈l,aY n g):
  Ev T 94 [.agg [aC n,o]] h (λv h'=>v= aC 0/\Fr h h'):=by
 refine dW Ej rfl ?_
 obtain⟨B,Q⟩:=exI h.next
 obtain⟨d,e1,n1,R,o1,y⟩:=dK Q [aC n,o]
 have Z:decide ((n:Int)<1)=false:=bI om
 have W:decide ((64:Int)<(n:Int))=false:=bI om
 have t:=K.lens
 rw[iA] at t
 have d3:decide ((16:Int)<(l.length:Int))=false:=bI om
 obtain⟨id,x,U,J,k,F,j,q⟩:=K.open
 obtain⟨a0,m,_⟩:=K
 have Y:=SV.cT m
 have ev:=SV.dI m
 rw[iA] at J k F j
 have L: ∀a,Fr d a->a.cell B 0=some (aC n):=λa f=>by rw[f.cell om,H.aF R];rfl
 have s: ∀a,Fr d a->a.cell B 1=some o:=λa f=>by rw[f.cell om,H.aF R];rfl
 simp(disch:=omega)only[go_sem,Ej,aE,Q,qP h (v:= aC n) (u:=o) rfl Y.2.1,e1,L d (Fr.refl _),s d (Fr.refl _),Z,W,t,d3]
 refine aI (λO vs a=> ∃(i:Nat),(∃g:Nat->V,vs= [g 0,.ptr B 0,g 2,aC i,g 4,g 5,g 6,g 7,g 8,g 9])/\i<=l.length/\Fr d a/\O=l.length-i) l.length
  ⟨0,aB rfl,iB _,Fr.refl d,rfl⟩ ?_
 rintro O P w ⟨i,⟨g,rfl⟩,hi,f,rfl⟩
 by_cases p:(i:Int)<(l.length:Int)
 case neg=>
  have G:=bI p;simp(disch:=omega)only[go_sem,s w f,t,G];exact y.trans f
 have G:=cI p
 have c:i<l.length:=om
 have F2:=y.trans f
 have cell: ∀a,Fr h a->a.cell id (x+i)=some (U.getD i .undef):=λa f=>by rw[f.cell (k om),j i c]
 have r:=xJ q c
 have X:aY n (l.getD i []):=hP _ (bC c)
 generalize U.getD i .undef=vx at cell r
 have N:=r.lens
 rw[aS,X.len] at N
 have A:=SV.dI r
 simp(disch:=omega)only[go_sem,s w f,t,G,J.ixa,cell w F2]
 refine (Hn vx _ w (by rw[aS,X.len];omega) (r.mono F2)).mono ?_
 rw[Wm X n0 om]
 rintro _ z ⟨rfl,f3⟩
 have b:=f.trans f3
 simp(disch:=omega)only[go_sem]
 refine bA (λj=>(j rfl).elim) (λ_=>?_)
 simp(disch:=omega)only[go_sem,L z b,s z b,J.ixa,cell z (y.trans b),N,ev,A]
 refine bA (λj=>(j rfl).elim) (λ_=>?_)
 simp(disch:=omega)only[go_sem]
 rw[fJ i]
 exact⟨l.length-(i+1),om,i+1,aB rfl,om,b.bH om,rfl⟩
theorem agE (a:V)(n:Nat)(l:LN)(h:H)(r:1<=n)(n7:n<=7)(hl:l.length<=16)(F:SP h a l)(t: ∀g∈l,aY n g):
  Ev T 34 [.agg [aC n,a]] h (λv h'=> ∃vc O R,v= .tup [vc,aC 0]/\GC (λid=>id<h.next) h' vc n O R (bM n (· ∈l))/\Fr h h'):=by
 refine dW Pv rfl ?_
 obtain⟨B,q⟩:=exI h.next
 obtain⟨h1,e1,p,g1,o1,K⟩:=dK q [aC n,a]
 obtain⟨y,P,n2,g2,o2,Z⟩:=dK p [aC 0,.aD,.aD]
 have d:=F
 obtain⟨a1,m,_⟩:=F
 have L:=SV.cT m
 have c:y.get B=bB [aC n,a]:=by rw[o2 B om];exact g1
 have r2:=Io c
 simp(disch:=omega)only[go_sem,Pv,aE,q,qP h (v:= aC n) (u:=a) rfl L.2.1,e1,p,P,r2]
 have F2:=K.trans Z
 refine (LC a n l y r om hl (d.mono F2) t).mono ?_
 rintro _ j ⟨rfl,f⟩
 have i:j.get B=bB [aC n,a]:=by rw[f.get B om];exact c
 have Q:j.cell B 0=some (aC n):=by rw[H.aF i];rfl
 have U:j.cell B 1=some a:=by rw[H.aF i];rfl
 simp(disch:=omega)only[go_sem]
 refine bA (λhc=>(hc rfl).elim) (λ_=>?_)
 simp(disch:=omega)only[go_sem,Q,U]
 refine (rL a n l j r n7 om (d.mono (F2.trans f)) t).mono ?_
 rintro _ k ⟨vc,O,R,rfl,x,o⟩
 have n3:=f.next
 have n4:=o.next
 have g4:k.get (B+1)=bB [aC 0,.aD,.aD]:=by rw[o.get _ om,f.get _ om];exact g2
 obtain⟨z,A,a0,W,e,N,_,_,t2,_,_⟩:=x.cw
 subst e
 obtain⟨h5,e5,n5,Y,s⟩:=mV k (B+1) [aC n,z,A]
 have J:=aJ Y
 simp(disch:=omega)only[go_sem,cF k (B+1) 0 (v:= aC n) (u:=z) (w:=A) rfl N.cT.2.1 t2.cT.2.1,g4,cH,e5,J]
 have F4:=(F2.trans f).trans o
 have G:Fx (λid=>id<j.next) k h5:=⟨om,λid _ b=>s id om⟩
 exact⟨_,O,R,rfl,x.go G (λid _ b=>om),⟨om,λid b=>by rw[s id om];exact F4.get id b⟩⟩
section
variable {n:Nat} {G:List Nat->Prop} {L:LN} {K:List Nat}
theorem Ab.lt (k:Ab n G L K){r:Nat}(a:r∈K):r<L.length:=(jY.1 (k.perm.mem_iff.1 a)).1
theorem Ab.nd (k:Ab n G L K):K.Nodup:=k.perm.nodup_iff.2 (by unfold kC;exact List.nodup_range.filter _)
theorem Kc (a:dO n G){x:List Nat}(b:G x): ∀k,G (pw n x k)
 |0=>a.one
 |k+1=>a.mul (Kc a b k) b
theorem IJ {x c:List Nat}(X:aY n x)(C:aY n c): ∀k,aT (pw n x k) c=pw n (aT x c) k
 |0=>by
  show aM (aM (bZ c) (aX n)) c=aX n;rw[aZ C.inv,dL C]
 |k+1=>by
  have P:=iE X k;show aT (aM (pw n x k) x) c=aM (pw n (aT x c) k) (aT x c);rw[←IJ X C k];unfold aT;rw[aG (C.inv.mul P) C (C.inv.mul X|>.mul C),←aG C (C.inv.mul X) C,←aG C C.inv X,cG C,bX X,←aG (C.inv.mul P) X C,aG C.inv P X]
theorem Hi {x c:List Nat}(X:aY n x)(C:aY n c):aT x c=aX n↔x=aX n:=by
 constructor
 ·intro h
  have e:=jA X C;rw[h] at e;rw[←e];show aM (aM (bZ (bZ c)) (aX n)) (bZ c)=aX n;rw[aZ C.inv.inv,dL C.inv]
 ·rintro rfl
  show aM (aM (bZ c) (aX n)) c=aX n;rw[aZ C.inv,dL C]
theorem IW {x:List Nat}(X:aY n x)(a:Nat): ∀b,pw n (pw n x a) b=pw n x (a*b)
 |0=>rfl
 |b+1=>by
  show aM (pw n (pw n x a) b) (pw n x a)=_;rw[IW X a b,Nat.mul_succ,Fy X]
variable (hG:dO n G) (E:cZ G L) (k:Ab n G L K)
include hG E k
end
def abX (n:Nat)(x:List Nat):Nat->Nat->Nat
 |0,k=>k
 |f+1,k=>if pw n x k=aX n then k else abX n x f (k+1)
def KY (n:Nat)(x:List Nat):Nat:=abX n x 420 1
theorem HW {n:Nat}{x:List Nat}(X:aY n x): ∀f k,0<k->k<=oJ x n->oJ x n<=k+f->abX n x f k=oJ x n
 |0,k,_,h1,h2=>by show k=_;omega
 |f+1,k,h0,h1,h2=>by
  unfold abX;split
  ·rename_i e
   exact Nat.le_antisymm h1 (Nat.le_of_dvd h0 ((Aw X k).2 e))
  ·rename_i e
   refine HW X f (k+1) om ?_ om
   by_cases h:k=oJ x n
   ·exact absurd ((Aw X k).1 (by rw[h];exact Nat.dvd_refl _)) e
   ·omega
theorem YO {n:Nat}{x:List Nat}(X:aY n x)(a:n<=7):oJ x n=KY n x:=
 (HW X 420 1 om (Zj X) (by have:=Nat.le_of_dvd om (SN X a);omega)).symm
def cRb (L:LN)(i j:Nat):Bool:=L.any λc=>aT (L.getD i []) c==L.getD j []
def NY (L:LN)(i:Nat):List Nat:=(List.range L.length).filter (cRb L i)
def Xn (L:LN):List Nat:=(List.range L.length).filter λj=>(List.range j).all λi=>!cRb L i j
def ahC (n:Nat)(L:LN)(r s:Nat):Bool:=decide (KY n (L.getD r [])<KY n (L.getD s [])∨KY n (L.getD r [])=KY n (L.getD s [])/\((NY L r).length<(NY L s).length∨(NY L r).length=(NY L s).length/\r<s))
section
variable {n:Nat} {G:List Nat->Prop} {L:LN} {K:List Nat}
theorem agJ (E:cZ G L){x y:List Nat}:cj G x y↔(L.any λc=>aT x c==y)=true:=by
 rw[List.any_eq_true];constructor
 ·rintro⟨c,hc,e⟩
  exact⟨c,(E.mem c).2 hc,by simpa using e⟩
 ·rintro⟨c,hc,e⟩
  exact⟨c,(E.mem c).1 hc,by simpa using e⟩
theorem DY (E:cZ G L){i j:Nat}:cR G L i j↔cRb L i j=true:=agJ E
theorem ahO (E:cZ G L)(i j:Nat)(d:Decidable (cR G L i j)): @decide (cR G L i j) d=cRb L i j:=by
 rw[DW,Ak];exact DY E
theorem IH (E:cZ G L)(i:Nat):kU G L i=NY L i:=by
 unfold kU NY;exact List.filter_congr λj _=>ahO E i j _
theorem Xb (E:cZ G L):kC G L L.length=Xn L:=by
 unfold kC Xn;refine List.filter_congr λj _=>?_
 classical
 rw[DW,Ak,zP];unfold GU;constructor
 ·intro h i hi
  have:=h i (Dj.1 hi);rw[DY E] at this;simpa using this
 ·intro h i hi
  have:=h i (Dj.2 hi);rw[DY E];simpa using this
theorem akE (b:dO n G)(E:cZ G L): ∀x∈L,aY n x:=λx a=>b.bF ((E.mem x).1 a)
theorem TC (a:dO n G)(E:cZ G L)(b:n<=7){r:Nat}(c:r<L.length):oJ (L.getD r []) n=KY n (L.getD r []):=YO (akE a E _ (bC c)) b
theorem aaF (a:dO n G)(E:cZ G L)(b:n<=7){r s:Nat}(d:r<L.length)(c:s<L.length):kLt n G L r s↔ahC n L r s=true:=by
 unfold kLt ahC;rw[Ak,TC a E b d,TC a E b c,IH E,IH E]
def KOk (n:Nat)(L:LN)(K:List Nat):Bool:=K.isPerm (Xn L)&&decide (K.Pairwise λr s=>ahC n L r s=true)
theorem KOk.isK (f:dO n G)(E:cZ G L)(c:n<=7)(h:KOk n L K=true):Ab n G L K:=by
 unfold KOk at h;rw[sE,Ak] at h;have p:K.Perm (Xn L):=List.isPerm_iff.1 h.1
 have b: ∀r∈K,r<L.length:=λr a=>by
  have:=p.mem_iff.1 a;unfold Xn at this;exact Dj.1 (Rq.1 this).1
 exact⟨by rw[Xb E];exact p,List.Pairwise.imp_of_mem (λa d h=>(aaF f E c (b _ a) (b _ d)).2 h) h.2⟩
theorem KOk.eq (b:dO n G)(E:cZ G L)(c:n<=7){a:List Nat}(h:KOk n L a=true)(k:Ab n G L K):K=a:=k.uniq (KOk.isK b E c h)
end
def akF (n:Nat)(S:LN)(w:List Nat):List Nat:=w.foldl (λx i=>aM x (S.getD i [])) (aX n)
theorem AE {n:Nat}{S:LN}: ∀(w:List Nat) (x:List Nat),(∀i∈w,i<S.length)->bM n (· ∈S) x->bM n (· ∈S) (w.foldl (λx i=>aM x (S.getD i [])) x)
 | [],_,_,h=>h
 |i::w,x,hw,h=>AE w _ (λj a=>hw j (by simp [a])) (h.mul (bC (hw i (by simp))))
def Zm (n:Nat)(S L:LN)(ws:LN):Bool:=
 L==ws.map (akF n S)&&ws.all (λw=>w.all λi=>decide (i<S.length))&&decide (L.Pairwise λx y=>sQ x y=true)&&L.all (λx=>x.length==n)&&L.contains (aX n)&&L.all λx=>S.all λg=>L.contains (aM x g)
theorem Zm.AV {n:Nat}{S L:LN}{ws:LN}(h:Zm n S L ws=true):cZ (bM n (· ∈S)) L:=by
 unfold Zm at h;simp only[sE,beq_iff_eq,zP,Ak,List.contains_iff_mem] at h;obtain⟨⟨⟨⟨⟨c,i⟩,l⟩,b⟩,f⟩,k⟩:=h;refine⟨List.Pairwise.imp_of_mem (λa j h=>(mQ (by rw[b _ a,b _ j])).1 h) l,λx=>⟨λa=>?_,λa=>?_⟩⟩
 ·rw[c] at a
  obtain⟨w,d,rfl⟩:=pH.1 a;exact AE w _ (i w d) .one
 ·induction a with
  |one=>exact f
  |mul _ hg ih=>exact k _ ih _ hg
def A4:LN:= [[1,2,0,3], [0,2,3,1]]
def L3:LN:= [[0,1,2], [0,2,1], [1,0,2], [1,2,0], [2,0,1], [2,1,0]]
def aeL (n:Nat)(x:List Nat):Bool:=x.length==n&&decide x.Nodup&&x.all λp=>decide (p<n)
theorem RT (h:H)(x y z:Int):mH h 1 [aC 0] 3 [(0,1,aC x),(1,1,aC y),(2,1,aC z)]=some (.sl h.next 0 3 (.kn 3),h.new (.cells false (ints [x,y,z]))):=by
 have e:dP [aC 0] 3= [aC 0,aC 0,aC 0]:=rfl;simp [mH,iK,e,putAt,V.cells,V.one,ints]
theorem Gh (h:H)(x y z w:Int):mH h 1 [aC 0] 4 [(0,1,aC x),(1,1,aC y),(2,1,aC z),(3,1,aC w)]=some (.sl h.next 0 4 (.kn 4),h.new (.cells false (ints [x,y,z,w]))):=by
 have e:dP [aC 0] 4= [aC 0,aC 0,aC 0,aC 0]:=rfl;simp [mH,iK,e,putAt,V.cells,V.one,ints]
theorem Vf (h:H){v u:V}(a:v.cells= [v]/\v.one=true)(b:u.cells= [u]/\u.one=true):mH h 1 [.aD] 2 [(0,1,v),(1,1,u)]=some (.sl h.next 0 2 (.kn 2),h.new (.cells false [v,u])):=by
 have e:dP [V.aD] 2= [.aD,.aD]:=rfl;simp [mH,iK,e,putAt,a.1,a.2,b.1,b.2]
theorem nL (id o m:Nat)(c:pY):(V.sl id o m c).cells= [.sl id o m c]/\(V.sl id o m c).one=true:=⟨rfl,rfl⟩
theorem mkI {h:H}{ID:Nat}(a:h.next=ID)(l:List Int): ∃x,h.new (.cells false (ints l))=x/\x.next=ID+1/\SI x (.sl ID 0 l.length (.kn l.length)) l/\Fr h x:=by
 obtain⟨x,e,n,g,o,f⟩:=dK a (ints l);exact⟨x,e,n,SV.all (by rw[aP,tW]) om g _,f⟩
theorem SP.two {h h':H}{id:Nat}{v u:V}{a b:List Nat}(i:SI h v (zi a))(j:SI h u (zi b))(c:id<h'.next)(f:Fr h h')(g:h'.get id=bB [v,u])(d:pY):SP h' (.sl id 0 2 d) [a,b]:=
 ⟨[v,u],SV.all rfl c g _,i.mono f,j.mono f,trivial⟩
theorem SP.ajW {h h':H}{id:Nat}{v:V}{a:List Nat}(d:SI h v (zi a))(b:id<h'.next)(f:Fr h h')(g:h'.get id=bB [v])(c:pY):SP h' (.sl id 0 1 c) [a]:=
 ⟨[v],SV.all rfl b g _,d.mono f,trivial⟩
theorem GC.sl {W:Nat->Prop}{h:H}{c:V}{n:Nat}{O:LN}{R:jJ}{G:List Nat->Prop}(g:GC W h c n O R G): ∃vO vR,c= .agg [aC n,vO,vR]/\vO.one=true/\vR.one=true/\dI vO vO=true/\dI vR vR=true:=by
 obtain⟨vO,vR,f,d,e,b,_,_,a,_,_⟩:=g.cw;exact⟨vO,vR,e,b.cT.2.1,a.cT.2.1,b.dI,a.dI⟩
theorem GC.el {W:Nat->Prop}{h:H}{a:V}{n:Nat}{O:LN}{R:jJ}{G:List Nat->Prop}{L:LN}(g:GC W h a n O R G)(E:cZ G L):dM O R n 0 (aX n)=L:=(dB g.cY g.isc).1.uniq E
theorem vE {v:V}{h:H}{l:List Int}(s:SI h v l):v.cells= [v]/\v.one=true:=⟨(SV.cT s).1,(SV.cT s).2.1⟩
theorem dT {i:Decidable True}: @decide True i=true:=cI trivial
def SB (h:H)(v:V)(l:List Bool):Prop:=SV h v 1 (l.map V.bool)
theorem SB.mono {h h':H}{v:V}{l:List Bool}(s:SB h v l)(f:Fr h h'):SB h' v l:=SV.mono s f
theorem SB.open {h:H}{v:V}{l:List Bool}(s:SB h v l):bL v=some (aC (l.length:Int))/\ ∃id off,Sl v 1 l.length id off/\ ∀i,i<l.length->id<h.next/\h.cell id (off+i)=some (.bool (l.getD i false)):=by
 have d:(l.map V.bool).length=l.length:=iA ..;refine⟨by unfold bL;rw[SV.len s (n:=l.length) om om];rfl,?_⟩;obtain⟨id,off,b,a,c⟩:=SV.shape s l.length om om;exact⟨id,off,b,λi hi=>⟨a om,by rw[c i om,Qy,List.getD,dD hi];rfl⟩⟩
set_option maxRecDepth 100000
theorem GC.all {W:Nat->Prop}{h:H}{a:V}{n:Nat}{O:LN}{R:jJ}{G:List Nat->Prop}(g:GC W h a n O R G):cZ G (dM O R n 0 (aX n))/\(dM O R n 0 (aX n)).length<=5040:=by
 have e:=dB g.cY g.isc;exact⟨e.1,by rw[e.2];exact jE g⟩
section
variable {n:Nat} {x:List Nat}
theorem Gb {a b:List Nat}(A:aY n a)(B:aY n b)(X:aY n x):aT (aM a b) x=aM (aT a x) (aT b x):=by
 unfold aT;rw[aG (X.inv.mul A) X (X.inv.mul B|>.mul X),←aG X (X.inv.mul B) X,←aG X X.inv B,cG X,bX B,←aG (X.inv.mul A) B X,aG X.inv A B]
theorem Gk {g c:List Nat}(G':aY n g)(C:aY n c)(X:aY n x):aT (aT g x) (aT c x)=aT (aT g c) x:=by
 have e:aM x (aT c x)=aM c x:=by
  unfold aT;rw[←aG X (X.inv.mul C) X,←aG X X.inv C,cG X,bX C]
 rw[←gW G' X (dC C X),e,gW G' C X]
theorem Dh {a b:List Nat}(A:aY n a)(B:aY n b)(X:aY n x)(h:aT a x=aT b x):a=b:=by
 rw[←jA A X,h,jA B X]
theorem Zz {S:LN}(c: ∀g∈S,aY n g)(X:aY n x)(y:List Nat):bM n (· ∈S.map λg=>aT g x) y↔ ∃g,bM n (· ∈S) g/\aT g x=y:=by
 constructor
 ·intro h
  induction h with
  |one=>exact⟨aX n,.one,(Hi (aY.one n) X).2 rfl⟩
  |mul _ hg ih=>
   obtain⟨a,d,rfl⟩:=ih;obtain⟨g,b,rfl⟩:=pH.1 hg;exact⟨aM a g,d.mul b,Gb (d.bF c) (c g b) X⟩
 ·rintro⟨g,h,rfl⟩
  induction h with
  |one=>rw[(Hi (aY.one n) X).2 rfl];exact .one
  |mul d hg ih=>
   rw[Gb (bM.bF c d) (c _ hg) X];exact ih.mul (pH.2 ⟨_,hg,rfl⟩)
theorem Ry {α:Type}{R:α->α->Prop}(c: ∀a b,R a b->R b a->a=b): ∀{l m:List α},l.Perm m->l.Pairwise R->m.Pairwise R->l=m
 | [],m,p,_,_=>(List.Perm.nil_eq p)
 |a::l,m,p,hl,hm=>by
  match m,p,hm with
  | [],p,_=>exact absurd p.length_eq (by simp)
  |b::m,p,hm=>
   have e:a=b:=by
    have d:a∈b::m:=p.mem_iff.1 (by simp);have f:b∈a::l:=p.mem_iff.2 (by simp);rcases vI.1 d with d|d
    ·exact d
    ·rcases vI.1 f with f|f
     ·exact f.symm
     ·exact c a b ((List.pairwise_cons.1 hl).1 b f) ((List.pairwise_cons.1 hm).1 a d)
   subst e
   rw[Ry c (List.Perm.cons_inv p) (List.pairwise_cons.1 hl).2 (List.pairwise_cons.1 hm).2]
end
def bY (v:V)(id:Nat):Prop:= ∃off m c,v= .sl id off m c
theorem dZ.sp' {W:Nat->Prop}{h:H}{v:V}{ws:List V}{l:LN}(sv:SV h v 1 ws)(p:dZ W h ws l):SP h v l:=by
 refine⟨ws,sv,?_⟩;have a:=aN.length p
 exact aN.lI (by simpa using a) λi hi b=>by
  have:=(aN.get p i hi om).si;simpa using this
theorem OM (u:V)(ws:List V)(h:H)(p:ws.length<1000000)(d:SV h u 1 ws):
  Ev T 163 [u] h (λv h'=>dH h' v 1 ws h.next/\Fr h h'):=by
 refine dW cX rfl ?_
 have b:Ht false u=some (.bool false)->Wp T none cX.fn.body (Hv cX.fn [u]) h (LX cX.fn.results λv h'=>dH h' v 1 ws h.next/\Fr h h'):=λj=>by
  have c:Fr h (h.new (.cells false [])):=(Fr.refl h).new _;have f:dH (h.new (.cells false [])) (.sl h.next 0 0 (.kn 0)) 1 [] h.next:=dH.new h 1 0 _ [] rfl (fN _);obtain⟨q,k,l,A⟩:=f.app (bytes:=24) (by rw[H.aW];omega) (d.mono c) (n:=0) (m:=ws.length) rfl om om om;simp(disch:=omega)only[go_sem,cX,aE,j,l];exact⟨by have:=A.own;rwa [List.nil_append] at this,A.fr _ c (fN _)⟩
 rcases d with ⟨rfl|⟨a,rfl⟩,rfl⟩|⟨id,i,len,o,s,r,rfl,k⟩
 ·simp(disch:=omega)only[go_sem,cX,aE]
  exact⟨dH.aD _ _ _,Fr.refl _⟩
 ·exact b rfl
 ·exact b rfl
theorem ahE {n:Nat}{l:LN}{x:List Nat}(b: ∀g∈l,aY n g)(X:aY n x)(y:List Nat):Jn n (bM n (· ∈l)) [x] y↔bM n (· ∈l++ [x]) y:=by
 have a: ∀g∈l++ [x],aY n g:=λg h=>(oD.1 h).elim (b g) λh=>by rw[List.mem_singleton.1 h];exact X
 have d:=bM.cY (L:=(· ∈l)) b;constructor
 ·refine λh=>bM.le (bM.cY a) (λg h=>?_) h
  rcases h with h|h
  ·exact bM.mono (λg h=>oD.2 (.inl h)) h
  ·exact bM.of a (oD.2 (.inr h))
 ·refine λh=>bM.le (Jn.cY d λg h=>by rw[List.mem_singleton.1 h];exact X) (λg h=>?_) h
  have c: ∀g,(bM n (· ∈l) g∨g∈ [x])->aY n g:=λg h=>h.elim (λh=>h.bF b) λh=>by rw[List.mem_singleton.1 h];exact X
  rcases oD.1 h with h|h
  ·exact bM.of c (.inl (bM.of b h))
  ·exact bM.of c (.inr h)
structure ClJ (h hh:H)(D P4 P id C1 C2:Nat)(r:fK)(vby:V)(n:Nat)(l0 B:LN)(i k:Nat)(l:LN):Prop where
 ex: ∃vl ws,hh.get P=bB [vl]/\dH hh vl 1 ws 0/\dZ (λq=>q=D∨q=P∨q=id∨bY vl q) hh ws l/\Qz (λq=>q<h.next∨q=P∨q=id∨bY vl q) hh D n (bM n (· ∈l))/\ ∀q,bY vl q->h.next<=q/\q≠D/\q≠P4/\q≠P/\q≠C1/\q≠C2/\q≠id/\q<hh.next
 g4:hh.get P4=bB [.ptr D 0]
 c1:hh.get C1=bB [.ptr P 0]
 c2:hh.get C2=bB [vby]
 gr:hh.get id=some (.loop r)
 fr:Fr h hh
 nx:id<hh.next
 pre: ∃t,l=l0++t/\t.Nodup/\ ∀g∈t,aY n g
 nc: ∀g∈l,NC n (· ∈l0) (· ∈B) g
 cj: ∀i' k',(i'<i∨i'=i/\k'<k)->i'<l.length->k'<B.length->bM n (· ∈l) (aT (l.getD i' []) (B.getD k' []))
theorem ClJ.fr' {h u h2:H}{D p P id o s:Nat}{r:fK}{m:V}{n:Nat}{t B:LN}{i k:Nat}{l:LN}(j:ClJ h u D p P id o s r m n t B i k l)(G:p<id/\P<id/\o<id/\s<id)(f:Fr u h2):ClJ h h2 D p P id o s r m n t B i k l:=by
 obtain⟨F,y,g,w,pv,z,A⟩:=j.ex;have nx:=j.nx;exact⟨⟨F,y,by rw[f.get P om];exact g,w.fr f,aN.mono (λ_ _ x=>x.fx (Fx.of f)) pv,z.fr f,λq v=>by obtain⟨a,b,c,d,e,g,i,k⟩:=A q v;exact⟨a,b,c,d,e,g,i,jM k f.next⟩⟩,by rw[f.get p om];exact j.g4,by rw[f.get o om];exact j.c1,by rw[f.get s om];exact j.c2,by rw[f.get id om];exact j.gr,j.fr.trans f,jM nx f.next,j.pre,j.nc,j.cj⟩
theorem Fx.wide {W W':Nat->Prop}{h h':H}(f:Fx W h h')(b: ∀q,W q->W' q):Fx W' h h':=⟨f.next,λq a c=>f.get q a λh=>c (b q h)⟩
theorem ZF {n:Nat}{l:LN}{x g:List Nat}(h:bM n (· ∈l) g):bM n (· ∈l++ [x]) g:=bM.mono (λ_ h=>oD.2 (.inl h)) h
theorem Xq {l:LN}{x:List Nat}{i:Nat}(hi:i<l.length):(l++ [x]).getD i []=l.getD i []:=by
 rw[OU,OU,Dt hi]
theorem afN {n:Nat}{l:LN}(a: ∀g∈l,aY n g)(x:List Nat):Jn n (λx=>x=aX n) l x↔bM n (· ∈l) x:=
 ⟨λh=>bM.le (bM.cY a) (λg h=>h.elim (λe=>by rw[e];exact .one) λh=>bM.of a h) h,λh=>bM.mono (λg h=> .inr h) h⟩
theorem Um (n:Nat):dO n (λx=>x=aX n):=⟨λe=>by rw[e];exact aY.one n,rfl,λa b=>by rw[a,b,bX (aY.one n)],λa=>by rw[a,oX]⟩
theorem Tm (vl J:V)(n:Nat)(Z B:LN)(h:H)(n0:1<=n)(n7:n<=7)(a9: ∀g∈Z,aY n g)(b9: ∀b∈B,aY n b)(k6:Z.length<100000)(Bl:B.length<1000000)(sl:SP h vl Z)(sB:SP h J B):
  Ev T 124 [aC n,vl,J] h (λv h'=> ∃D,v= .ptr D 0/\h.next<=D/\Qz (λq=>q<h.next) h' D n (NC n (· ∈Z) (· ∈B))/\Fr h h'):=by
 refine dW yG rfl ?_
 have hM:n^n<=823543:=by
  have: ∀k,k<=7->k^k<=823543:=by decide
  exact this n n7
 simp(disch:=omega)only[go_sem,yG,aE]
 refine (OZ n h n0 n7).mono ?_
 rintro _ A ⟨D,rfl,hD,b1,f1⟩
 obtain⟨ws,sv,al⟩:=sl
 have lw:=aN.length al
 rw[iA] at lw
 have c3:SV h vl 1 ws:=sv
 have ins:=SV.in c3
 have nD:=b1.nx
 have d5: ∀h',Fr h h'->SV h' vl 1 ws/\Oa (· =D) vl/\dZ (· =D) h' ws Z:=λh' f=>by
  refine⟨c3.mono f,?_,aN.lI lw λi hi hj=>?_⟩
  ·cases vl with
   |sl id K m c=>exact λe=>by have:=ins _ _ _ _ rfl;omega
   |_=>trivial
  ·have s:=aN.get al i hi (by rw[iA];exact hj)
   rw[List.getElem_map] at s;refine⟨s.mono f,?_⟩;generalize ws[i]=v at s;have i2:=SV.in s
   cases v with
   |sl id K m c=>exact λe=>by have:=i2 _ _ _ _ rfl;omega
   |_=>trivial
 obtain⟨s1,i8,p1⟩:=d5 A f1
 simp(disch:=omega)only[go_sem]
 refine (Yx (W:=λq=>q<h.next) D vl ws n _ Z A n0 n7 (Um n) a9 om (λq h=>jM h f1.next) b1 s1 i8 p1).mono ?_
 rintro _ d ⟨rfl,b2,f2⟩
 have l5:=f1.next
 have l6:=f2.next
 have i6:Fr h d:=⟨om,λq N=>by rw[f2.get q om (by show q≠D;omega)];exact f1.get q N⟩
 obtain⟨P4,f7⟩:=exI d.next
 obtain⟨h3,e3,n3,g3,o3,f3⟩:=dK f7 [.nilp]
 obtain⟨h4,e4,n4,g4,o4⟩:=mV h3 P4 [.ptr D 0]
 have d6:Fr d h4:=⟨om,λq N=>by rw[o4 q om,o3 q om]⟩
 have pt: ∀(G:H) (id:Nat) (u w:V),eU (some (.cells false [u])) G id 0 [w]=some (G.set id (some (.cells false [w]))):=λG id u w=>bT (by simp) G _ _
 simp(disch:=omega)only[go_sem,f7,e3,kP (show (V.ptr D 0).cells= [V.ptr D 0] from rfl) rfl,g3,pt,e4]
 have f0:=i6.trans d6
 refine (OM vl ws h4 om (c3.mono f0)).mono ?_
 rintro vk h5 ⟨c0,f5⟩
 have l2:=f5.next
 obtain⟨P,hP⟩:=exI h5.next
 obtain⟨h6,e6,n6,g6,o6,f6⟩:=dK hP [.aD]
 obtain⟨h7,e7,l8,g7,o7⟩:=mV h6 P [vk]
 have c6:Fr h5 h7:=⟨om,λq N=>by rw[o7 q om,o6 q om]⟩
 have wk:=SV.cT c0.sv
 simp(disch:=omega)only[go_sem,hP,e6,kP wk.1 wk.2.1,g6,pt,e7]
 have d1:Fr h h7:=f0.trans (f5.trans c6)
 have wB:=SV.cT (show SV h J 1 _ from sB.choose_spec.1)
 obtain⟨h8,e8,n8,g8,o8,f8⟩:=dK (h:=h7) rfl [.ptr P 0]
 obtain⟨h9,e9,n9,g9,o9,f9⟩:=dK n8 [J]
 refine Ev.mono (Q:=λv h'=>v= .fn 206 [] [.ptr h7.next 0,.ptr (h7.next+1) 0]/\h9=h') ?_ ?_
 ·refine dW rO rfl ?_
  simp(disch:=omega)only[go_sem,rO,aE,mE (x:= .ptr P 0) rfl rfl h7,e8,mE wB.1 wB.2.1 h8,n8,e9]
 rintro _ _ ⟨rfl,rfl⟩
 simp(disch:=omega)only[go_sem]
 obtain⟨C1,j8⟩:=exI h7.next
 obtain⟨C2,i1⟩:=exI (C1+1)
 obtain⟨id,c5⟩:=exI h9.next
 rw[j8] at n8 n9 g8 o8 g9 o9 ⊢
 rw[i1] at n8 n9 g9 o9 ⊢
 refine⟨rfl,wF λr hr=>?_⟩
 rw[c5]
 have jI:r.st= .ready:=by rw[hr]
 have b8:r.pend=none:=by rw[hr]
 have oA: ∀k,k<id->(h9.new (.loop r)).get k=h9.get k:=λk hk=>H.bG h9 om _
 have nA:(h9.new (.loop r)).next=id+1:=by rw[H.aW,c5]
 have hc:P4<id/\P<id/\C1<id/\C2<id:=om
 have d7:Fr h7 h9:=f8.trans f9
 have FA:Fr h7 (h9.new (.loop r)):=d7.new _
 have c4: ∀q,bY vk q->h4.next<=q/\q<P:=λq ⟨K,m,c,e⟩=>by
  have:=c0.in _ _ _ _ e;omega
 have i0: ∀i (hi:i<ws.length) (hj:i<Z.length),PV (λq=>h.next<=q) (h9.new (.loop r)) ws[i] Z[i]:=λi hi hj=>by
  have s:=aN.get al i hi (by rw[iA];exact hj);rw[List.getElem_map] at s;refine⟨s.mono (d1.trans FA),?_⟩;generalize ws[i]=v at s;have i2:=SV.in s
  cases v with
  |sl id K m c=>exact λe=>by have:=i2 _ _ _ _ rfl;have e:h.next<=id:=e;omega
  |_=>trivial
 have J0:ClJ h (h9.new (.loop r)) D P4 P id C1 C2 r J n Z B 0 0 Z:=by
  refine⟨⟨vk,ws,by rw[oA _ om,o9 _ om,o8 _ om];exact g7,(c0.fr (c6.trans FA)).le (iB _),aN.lI lw λi hi hj=>(i0 i hi hj).kO λq _ N=>?_,?_,λq N=>?_⟩,by rw[oA _ om,d7.get _ om,o7 _ om,o6 _ om,f5.get _ om];exact g4,by rw[oA _ om,o9 _ om];exact g8,by rw[oA _ om];exact g9,by rw[←c5,H.aL],d1.trans FA,om,⟨[],(tZ _).symm,List.nodup_nil,λ_ h=>by cases h⟩,λg hg=>NC.of hg,λi' k' h=>om⟩
  ·show h.next<=q
   rcases N with rfl|rfl|rfl|N
   ·exact hD
   ·omega
   ·omega
   ·have:=c4 q N;omega
  ·exact ((b2.kO (W':=λq=>q<h.next∨q=P∨q=id∨bY vk q) (λq A d=>by
    rcases d with e|e|e|e
    ·exact e
    ·omega
    ·omega
    ·have:=c4 q e;omega)).fr (d6.trans (f5.trans (c6.trans FA)))).congr λx=>afN a9 x
  ·have:=c4 q N;omega
 have jf: ∀i k l G h',ClJ h G D P4 P id C1 C2 r J n Z B i k l->Fr G h'->ClJ h h' D P4 P id C1 C2 r J n Z B i k l:=λi k l G h' j f=>j.fr' hc f
 have c9: ∀i k l G,ClJ h G D P4 P id C1 C2 r J n Z B i k l-> ∀g∈l,aY n g:=λi k l G j g hg=>by
  obtain⟨t,e,_,tP⟩:=j.pre;rw[e] at hg;exact (oD.1 hg).elim (a9 g) (tP g)
 refine (RN id C1 C2 P J B n (Z.length+n^n) n0 om b9 Bl om _ (λi k l G=>ClJ h G D P4 P id C1 C2 r J n Z B i k l) Z J0 ?_ jf ?_ ?_).mono ?_
 ·intro i k l G j
  obtain⟨o,a1,gP,ow,pv,bd,bl⟩:=j.ex
  refine⟨j.c1,j.c2,⟨o,a1,gP,ow.sv,aN.mono (λ_ _ x=>x.si) pv⟩,sB.mono j.fr,?_,c9 _ _ _ _ j⟩
  obtain⟨t,e,tN,tP⟩:=j.pre
  have:=Cu tN tP
  rw[e,iV]
  omega
 ·intro i l G j
  exact⟨j.ex,j.g4,j.c1,j.c2,j.gr,j.fr,j.nx,j.pre,j.nc,λi' k' h A d=>j.cj i' k' om A d⟩
 ·intro i k l ha G w b0 g0 j0 fa pw
  have j:=j0.fr' hc fa
  obtain⟨o,a1,g2,i5,e1,a5,a0⟩:=j0.ex
  have k8:=j0.nx
  have l9:=fa.next
  obtain⟨Wl,a6⟩: ∃Wl:Nat->Prop,Wl=λq=>q<h.next∨q=P∨q=id∨bY o q:=⟨_,rfl⟩
  rw[←a6] at a5
  obtain⟨x,hx⟩:=exI (aT (l.getD i []) (B.getD k []))
  rw[hx] at pw
  have Y:=c9 _ _ _ _ j0
  have X:aY n x:=by rw[←hx];exact dC (Y _ (bC b0)) (b9 _ (bC g0))
  refine uC j.gr (by rw[hr];rfl) jI λhb gb nb ob=>?_
  rw[congrArg fK.assign hr,congrArg fK.vars hr,congrArg fK.pars hr]
  simp(disch:=omega)only[go_sem,List.zip_cons_cons,List.zip_nil_left]
  rw[congrArg fK.body hr]
  have g5:Fx (· =id) ha hb:=⟨om,λq A d=>by rw[ob q d,fa.get q A]⟩
  have f4:Wl id:=by rw[a6];exact .inr (.inr (.inl rfl))
  have WP:Wl P:=by rw[a6];exact .inr (.inl rfl)
  have d0:Qz Wl hb D n (bM n (· ∈l)):=a5.fx (Fx.wide g5 λq (h:q=id)=>by rw[h];exact f4)
  obtain⟨vO,vR,O,R,gD,gc⟩:=d0.ex
  have i9:=d0.nx
  have c8:SI hb w (zi x):=SV.fx pw.si (W:=(· =id)) (by
   have:=pw.off
   cases w with
   |sl q K m c=>exact λe=>this (by have e:q=id:=e;omega)
   |_=>trivial) ⟨om,λq A d=>ob q d⟩
  have d9:hb.get P4=some (.cells false [.ptr D 0]):=by rw[ob _ om];exact j.g4
  simp(disch:=omega)only[go_sem,H.aF d9]
  refine (HA D w vO vR n O R _ x hb gc i9 gD X c8).mono ?_
  rintro _ hs ⟨bb,rfl,e0,fs⟩
  have k4:=fs.next
  cases bb with
  |true=>
   simp(disch:=omega)only[go_sem];refine pU jI b8 (by rw[fs.get id om];exact gb) ⟨rfl,l,b0,?_⟩
   have F:Fr G (hs.set id (some (.loop r))):=⟨by simp only[H.cV];omega,λq N=>by
    by_cases e:q=id
    ·rw[e,H.aU];exact j.gr.symm
    ·rw[H.aH _ e,fs.get q om,ob q e]⟩
   have j2:=j.fr' hc F;refine⟨j2.ex,j2.g4,j2.c1,j2.c2,j2.gr,j2.fr,j2.nx,j2.pre,j2.nc,λi' k' h A d=>?_⟩
   by_cases e:i'=i/\k'=k
   ·rw[e.1,e.2,hx];exact e0.1 rfl
   ·exact j2.cj i' k' om A d
  |false=>
   have i4: ¬bM n (· ∈l) x:=λh=>by have:=e0.2 h;cases this
   have gl:=bM.cY (L:=(· ∈l)) Y
   have j4: ∀q,Wl q->q<ha.next:=λq h=>by
    rw[a6] at h;rcases h with h|h|h|h
    ·have:=j0.fr.next;omega
    ·omega
    ·omega
    ·exact (a0 q h).2.2.2.2.2.2.2
   have wx:=SV.cT c8;have h0:hs.get P4=some (.cells false [.ptr D 0]):=by rw[fs.get _ om];exact d9
   obtain⟨S,hS⟩:=exI hs.next;obtain⟨ht,et,nt,gt,ot,ft⟩:=dK hS [w];have d2:Fr hb ht:=fs.trans ft;simp(disch:=omega)only[go_sem,H.aF h0,cK hs (z:= .aD) wx.1 wx.2.1,hS,et];refine (Yx (W:=Wl) D (.sl S 0 1 (.kn 1)) [w] n _ [x] ht n0 n7 gl (λg hg=>by rw[List.mem_singleton.1 hg];exact X) (by show 1<1000000;decide) (λq h=>by have:=j4 q h;omega) (d0.fr d2) (SV.one om gt (.kn 1)) (λe=>by have e:S=D:=e;omega) ⟨⟨c8.mono d2,?_⟩,trivial⟩).mono ?_
   ·have:=pw.off
    have nD:=a5.nx
    cases w with
    |sl q K m c=>exact λe=>this (by have e:q=D:=e;omega)
    |_=>trivial
   rintro _ U ⟨rfl,bw,fw⟩;have l4:=fw.next
   have b4: ∀q,q<ha.next->q≠id->q≠D->U.get q=ha.get q:=λq A d h3=>by
    rw[fw.get q om h3,ft.get q om,fs.get q om,ob q d,fa.get q A]
   have m0:=a5.nx;have PD:P≠D:=λe=>a5.nW (e▸WP)
   have g1:U.get P=some (.cells false [o]):=by rw[b4 P om om PD];exact g2
   have k2:Fx (λq=>q=id∨q=D) ha U:=⟨om,λq A d=>b4 q A (λe=>d (.inl e)) λe=>d (.inr e)⟩
   have e5:dH U o 1 a1 0:=i5.mono om λq _ _ _ e _ A=>b4 q A (a0 q ⟨_,_,_,e⟩).2.2.2.2.2.2.1 (a0 q ⟨_,_,_,e⟩).2.1
   have l3:=SV.cT e5.sv;obtain⟨S2,d4⟩:=exI U.next;obtain⟨d3,j1,k1,i3,k5,b7⟩:=dK d4 [w];have k3:=aN.length e1;obtain⟨t,el,tN,tP⟩:=j0.pre;have l1:=Cu tN tP;have ll:l.length=Z.length+t.length:=by rw[el,iV]
   obtain⟨a8,a2,p2⟩:=(e5.fr b7).push (bytes:=24) (SV.one (v:=w) (id:=S2) om i3 (.kn 1)) (n:=a1.length) (m:=1) om rfl om om om;have k7:=p2.next;have ap: ∀q,¬bY o q->dR o q:=λq N l7 K m c e e2=>N ⟨K,m,c,by rw[e2];exact e⟩
   have j7: ¬bY o P:=λh=>(a0 P h).2.2.2.1 rfl
   have j9: ¬bY o id:=λh=>(a0 id h).2.2.2.2.2.2.1 rfl
   have k0:a8.get P=some (.cells false [o]):=by rw[p2.old P om (ap P j7),b7.get P om];exact g1
   have i7:a8.get id=some (.loop (qE r)):=by rw[p2.old id om (ap id j9),b7.get id om,fw.get id om (λe=>a5.nW (e▸f4)),ft.get id om,fs.get id om];exact gb
   simp(disch:=omega)only[go_sem,H.aF g1,cK U (z:= .aD) wx.1 wx.2.1,d4,j1,a2,k0,pt];refine pU jI b8 (by rw[H.aH _ om];exact i7) ⟨rfl,l++ [x],by rw[iV];omega,?_⟩;obtain⟨vn,c7⟩:=exI (V.sl d3.next 0 (a1.length+1) (.un 1));rw[c7];obtain⟨hz,a3⟩:=exI ((a8.set P (some (.cells false [vn]))).set id (some (.loop r)));rw[a3];have nz:hz.next=a8.next:=by rw[←a3];rfl
   have oz: ∀q,q<U.next->q≠P->q≠id-> ¬bY o q->hz.get q=U.get q:=λq A d h3 h4=>by
    rw[←a3,H.aH _ h3,H.aH _ d,p2.old q om (ap q h4),b7.get q om]
   have a7: ∀q,q<ha.next->q≠P->q≠id->q≠D-> ¬bY o q->hz.get q=ha.get q:=λq A d h3 h4 h5=>by
    rw[oz q om d h3 h5,b4 q A h3 h4]
   have bn: ∀q,bY vn q->q=d3.next:=λq ⟨K,m,c,e⟩=>by rw[←c7] at e;cases e;rfl
   have nb: ∀q,(q=P4∨q=C1∨q=C2)-> ¬bY o q:=λq N h=>by
    obtain⟨_,_,b3,_,b5,b6,_⟩:=a0 q h;rcases N with e|e|e
    ·exact b3 e
    ·exact b5 e
    ·exact b6 e
   have j3:P4≠D:=om
   have Fz:Fx (λq=>q=D∨q=P∨q=id∨bY o q) ha hz:=⟨om,λq A d=>a7 q A (λe=>d (.inr (.inl e))) (λe=>d (.inr (.inr (.inl e)))) (λe=>d (.inl e)) λe=>d (.inr (.inr (.inr e)))⟩
   refine⟨⟨vn,a1++ [w],by rw[←a3,H.aH _ om,H.aU],?_,?_,?_,λq N=>?_⟩,?_,?_,?_,by rw[←a3,H.aU],⟨by have:=j0.fr.next;omega,λq N=>?_⟩,om,⟨t++ [x],by rw[el,Lz],?_,?_⟩,?_,?_⟩
   ·rw[←c7]
    exact (p2.own om rfl (iB _)).mono om λq K m c e _ _=>by
     cases e;rw[←a3,H.aH _ om,H.aH _ om]
   ·refine aN.append (aN.mono (λv y p=>PV.go p Fz λq A d=>?_) e1) ⟨?_,trivial⟩
    ·rcases d with h|h|h|h
     ·exact .inl h
     ·exact .inr (.inl h)
     ·exact .inr (.inr (.inl h))
     ·have:=bn q h;omega
    ·have j6:Fx (λq=>q<ha.next) G hz:=⟨om,λq A d=>by
      have d: ¬q<ha.next:=d
      rw[oz q om om om (λh=>d (a0 q h).2.2.2.2.2.2.2),fw.get q om (by show q≠D;omega),ft.get q om,fs.get q om,ob q om]⟩
     refine PV.go pw j6 λq A d=>?_
     show q<ha.next;rcases d with h|h|h|h
     ·omega
     ·omega
     ·omega
     ·have:=bn q h;omega
   ·refine (bw.go (W':=λq=>q<h.next∨q=P∨q=id∨bY vn q) ⟨om,λq A d=>?_⟩ λq A d=>?_).congr λy=>ahE Y X y
    ·rw[a6] at d
     exact oz q A (λe=>d (.inr (.inl e))) (λe=>d (.inr (.inr (.inl e)))) λe=>d (.inr (.inr (.inr e)))
    ·rw[a6]
     rcases d with h|h|h|h
     ·exact .inl h
     ·exact .inr (.inl h)
     ·exact .inr (.inr (.inl h))
     ·have:=bn q h;omega
   ·have:=bn q N
    have:=j0.fr.next;omega
   ·rw[a7 P4 om om om j3 (nb _ (.inl rfl))];exact j0.g4
   ·rw[a7 C1 om om om om (nb _ (.inr (.inl rfl)))];exact j0.c1
   ·rw[a7 C2 om om om om (nb _ (.inr (.inr rfl)))];exact j0.c2
   ·rw[a7 q (by have:=j0.fr.next;omega) om om om (λh=>by have:=(a0 q h).1;omega)];exact j0.fr.get q N
   ·refine List.nodup_append.2 ⟨tN,(by simp),λa ha b hb e=>?_⟩
    rw[List.mem_singleton.1 hb] at e;exact i4 (bM.of Y (by rw[el];exact oD.2 (.inr (e▸ha))))
   ·intro g hg
    exact (oD.1 hg).elim (tP g) λh=>by rw[List.mem_singleton.1 h];exact X
   ·intro g hg
    rcases oD.1 hg with h|h
    ·exact j0.nc g h
    ·rw[List.mem_singleton.1 h,←hx]
     exact NC.cj (j0.nc _ (bC b0)) (bC g0)
   ·intro i' k' k9 A d
    by_cases e:i'=i/\k'=k
    ·obtain⟨rfl,rfl⟩:=e
     rw[Xq b0,hx];exact bM.of (λg hg=>(oD.1 hg).elim (Y g) λh=>by rw[List.mem_singleton.1 h];exact X) (oD.2 (.inr (List.mem_singleton.2 rfl)))
    ·have a4:i'<l.length:=om
     rw[Xq a4];exact ZF (j0.cj i' k' om a4 d)
 ·rintro _ G ⟨l,j⟩
  refine⟨r,j.gr,by rw[jI];simp,?_⟩
  have en:r.pend.getD .norm= .norm:=by rw[b8];rfl
  rw[en]
  have nx:=j.nx
  obtain⟨o,a1,gP,ow,pv,bd,bl⟩:=j.ex
  have j5:(G.set id (some (.loop {r with st:= .out}))).get P4=some (.cells false [.ptr D 0]):=by rw[H.aH _ om];exact j.g4
  simp(disch:=omega)only[go_sem,H.aF j5]
  have fz:Fx (λq=>q<h.next∨q=P∨q=id∨bY o q) G (G.set id (some (.loop {r with st:= .out}))):=Fx.set (W:=λq=>q<h.next∨q=P∨q=id∨bY o q) _ (.inr (.inr (.inl rfl))) _
  refine⟨D,rfl,hD,?_,j.fr.set om _⟩
  refine ((bd.fx fz).congr λx=>JR b9 a9 (c9 _ _ _ _ j) ?_ j.nc ?_ x).kO ?_
  ·intro g hg
   obtain⟨t,e,_⟩:=j.pre
   rw[e];exact oD.2 (.inl hg)
  ·intro x hx b hb
   obtain⟨i',a4,rfl⟩:=Ad.1 hx
   obtain⟨k',d8,rfl⟩:=Ad.1 hb
   have:=j.cj i' k' (.inl a4) a4 d8
   rwa [←sD a4,←sD d8] at this
  ·exact λq _ h=> .inl h
theorem GC.one {W:Nat->Prop}{h:H}{a b:V}{d:Int}{n:Nat}{O:LN}{R:jJ}{G:List Nat->Prop}(g:GC W h (.agg [aC d,a,b]) n O R G):d=(n:Int)/\a.one=true/\b.one=true:=by
 obtain⟨_,_,_,_,e,c,_,_,f,_,_⟩:=g.cw;cases e;exact⟨rfl,(SV.cT c).2.1,(SV.cT f).2.1⟩
theorem GC.shape {W:Nat->Prop}{h:H}{a:V}{n:Nat}{O:LN}{R:jJ}{G:List Nat->Prop}(g:GC W h a n O R G): ∃vO vR,a= .agg [aC n,vO,vR]/\vO.one=true/\vR.one=true:=by
 obtain⟨vO,vR,_,_,e,b,_,_,c,_,_⟩:=g.cw;exact⟨vO,vR,e,(SV.cT b).2.1,(SV.cT c).2.1⟩
theorem VY {W W':Nat->Prop}(z x:V)(n:Nat)(O O':LN)(R Q:jJ)(G G':List Nat->Prop)(h:H)(y:GC W h z n O R G)(r:GC W' h x n O' Q G'):
  Ev T 121 [z,x] h (λv h'=>v= aC 0/\Fr h h'):=by
 obtain⟨l,m,rfl,L,K⟩:=y.shape
 obtain⟨d,i,rfl,J,U⟩:=r.shape
 refine dW By rfl ?_
 obtain⟨B,t⟩:=exI h.next
 obtain⟨A,e1,s,g1,o1,F⟩:=dK t [aC n,l,m]
 obtain⟨c,e2,n2,g2,Z,P⟩:=dK s [aC n,d,i]
 have F2:=F.trans P
 have p: ∀b,Fr c b->b.get B=bB [aC n,l,m]:=λb f=>by rw[f.get B om,Z B om];exact g1
 have q: ∀b,Fr c b->b.get (B+1)=bB [aC n,d,i]:=λb f=>by rw[f.get (B+1) om];exact g2
 have Y:=Fr.refl c
 simp(disch:=omega)only[go_sem,By,aE,bV h (v:= aC n) (u:=l) (w:=m) rfl L K,t,e1,bV A (v:= aC n) (u:=d) (w:=i) rfl J U,s,e2,aJ (p c Y)]
 refine ((y.mono F2).check).mono ?_
 rintro _ h3 ⟨rfl,k⟩
 simp(disch:=omega)only[go_sem]
 refine bA (λj=>(j rfl).elim) (λ_=>?_)
 simp(disch:=omega)only[go_sem,aJ (q h3 k)]
 refine ((r.mono (F2.trans k)).check).mono ?_
 rintro _ o ⟨rfl,f4⟩
 have a:=k.trans f4
 simp(disch:=omega)only[go_sem]
 refine bA (λj=>(j rfl).elim) (λ_=>?_)
 have N:decide ((n:Int)≠(n:Int))=false:=bI (λh=>h rfl)
 simp(disch:=omega)only[go_sem,H.aF (p o a),H.aF (q o a),N]
 exact F2.trans a
def OQ (A B:LN):LN:=A.flatMap λp=>B.map (cU p)
theorem GH {A B:LN}{x:List Nat}:x∈OQ A B↔ ∃p,p∈A/\ ∃q,q∈B/\x=cU p q:=by
 unfold OQ;simp only[List.mem_flatMap,pH];exact⟨λ⟨p,hp,q,hq,e⟩=>⟨p,hp,q,hq,e.symm⟩,λ⟨p,hp,q,hq,e⟩=>⟨p,hp,q,hq,e.symm⟩⟩
theorem Ui (A B:LN):(OQ A B).length=A.length*B.length:=by
 induction A with
 |nil=>simp [OQ]
 |cons a A ih=>
  unfold OQ at ih ⊢;rw[List.flatMap_cons,iV,ih,iA,List.length_cons,Nat.succ_mul,Nat.add_comm]
def MT (A B:LN)(i k:Nat):LN:=OQ (A.take i) B++(B.take k).map (cU (A.getD i []))
theorem QA (A B:LN){i k:Nat}(a:k<B.length):MT A B i (k+1)=MT A B i k++ [cU (A.getD i []) (B.getD k [])]:=by
 unfold MT;rw[eY [] a,List.map_append,←Lz];rfl
theorem YP (A B:LN){i:Nat}(hi:i<A.length):MT A B i B.length=MT A B (i+1) 0:=by
 unfold MT;rw[List.take_length,List.take_zero,List.map_nil,tZ,eY [] hi];unfold OQ;rw[List.flatMap_append];simp
theorem YY (A B:LN):MT A B A.length 0=OQ A B:=by
 unfold MT;rw[List.take_length,List.take_zero,List.map_nil,tZ]
theorem ZH {A B:LN}{i k:Nat}(hi:i<=A.length)(a:k<=B.length):(MT A B i k).length<=(A.length+1)*B.length:=by
 unfold MT;rw[iV,Ui,zO,iA,zO,Nat.min_eq_left hi,Nat.min_eq_left a,Nat.succ_mul];have:=Nat.mul_le_mul_right B.length hi;omega
section
variable {h:H} {v:V} {ws:List V} {b k n:Nat} {x y:List Nat} {A S Q:LN}
def Wy (h:H)(v:V)(ws:List V)(b:Nat):Prop:= ∃id cap rest,v= .sl id 0 ws.length cap/\b<=id/\id<h.next/\h.get id=bB (ws++rest)/\(cap= .un 1∨cap= .kn 1/\ws.length+rest.length=1)
theorem Wy.sv (t:Wy h v ws b):SV h v 1 ws:=by
 obtain⟨id,a,c,rfl,i,d,f,_⟩:=t;exact .inr ⟨id,0,_,a,false,_,rfl,(tW _).symm,d,f,by rw[iV];omega,by rw[List.drop_zero,tW,List.take_left' rfl]⟩
theorem Wy.tU {h':H}(t:Wy h v ws b)(l:h.next<=h'.next)(f: ∀id,bY v id->h'.get id=h.get id):Wy h' v ws b:=by
 obtain⟨id,c,a,e,d,m,i,j⟩:=t;exact⟨id,c,a,e,d,om,by rw[f id ⟨_,_,_,e⟩];exact i,j⟩
theorem Wy.in (t:Wy h v ws b){id:Nat}(f:bY v id):b<=id/\id<h.next:=by
 obtain⟨i,j,a,rfl,c,d,_⟩:=t;obtain⟨_,_,_,e⟩:=f;cases e;exact⟨c,d⟩
theorem Wy.pop (t:Wy h v ws b)(p:ws.length=k+1):
  ∃v',rY 1 v none (some (aC k)) none=some v'/\Wy h v' (ws.take k) b/\ ∀id,bY v' id->bY v id:=by
 obtain⟨id,o,a,rfl,d,j,l,m⟩:=t
 have c:(ws.take k).length=k:=by rw[zO];omega
 have f:ws++a=ws.take k++(ws.drop k++a):=by rw[←Lz,List.take_append_drop]
 rcases m with rfl|⟨rfl,q⟩
 ·refine⟨_,ahG om om,⟨id,_,ws.drop k++a,by rw[c,DK],d,j,by rw[l,f],.inl rfl⟩,λi ⟨_,_,_,e⟩=>by cases e;exact⟨_,_,_,rfl⟩⟩
 ·refine⟨_,afM om om,⟨id,_,ws.drop k++a,by rw[c,DK],d,j,by rw[l,f],.inr ⟨rfl,by rw[c,iV,Ra];omega⟩⟩,λi ⟨_,_,_,e⟩=>by cases e;exact⟨_,_,_,rfl⟩⟩
theorem Wy.push {y:V}{S:Nat}{c:pY}(t:Wy h v ws b)(o:SV h (.sl S 0 1 c) 1 [y])(B:b<=h.next)(N:ws.length<1000000):
  ∃v' h',zK h 1 24 v (.sl S 0 1 c)=some (v',h')/\Wy h' v' (ws++ [y]) b/\(∀k,k<h.next-> ¬bY v k->h'.get k=h.get k)/\h.next<=h'.next/\h'.next<=h.next+1/\ ∀k,bY v' k->bY v k∨k=h.next:=by
 have L:zK h 1 24 v (.sl S 0 1 c)=Ay.Fj h 1 24 v 1 [y]:=by
  simp only[zK,o.len (n:=1) rfl om,o.slice]
 rw[L]
 have p:=t.sv
 have f:=p.len (n:=ws.length) om om
 have l:=p.slice
 obtain⟨id,d,i,rfl,r,G,q,w⟩:=t
 unfold Ay.Fj
 simp only[f,l]
 rw[bU om,bJ ⟨om,om⟩]
 have a: ∀g:H,g.next=h.next->(∀k,k<h.next->k≠id->g.get k=h.get k)-> ∃v' h',some (V.sl h.next 0 (ws.length+1) (.un 1),g.new (.cells false (ws++ [y])))=some (v',h')/\Wy h' v' (ws++ [y]) b/\(∀k,k<h.next-> ¬bY (.sl id 0 ws.length d) k->h'.get k=h.get k)/\h.next<=h'.next/\h'.next<=h.next+1/\ ∀k,bY v' k->bY (.sl id 0 ws.length d) k∨k=h.next:=by
  intro g F s;refine⟨_,_,rfl,⟨h.next,_, [],by rw[iV];rfl,B,by rw[H.aW];omega,by rw[←F,H.aL,tZ],.inl rfl⟩,λk j m=>?_,by rw[H.aW];omega,by rw[H.aW];omega,λk ⟨_,_,_,e⟩=>by cases e;exact .inr rfl⟩;rw[H.bG g om];exact s k j (λe=>m ⟨_,_,_,by rw[e]⟩)
 rcases w with rfl|⟨rfl,J⟩
 ·simp only[q,if_true]
  exact a (h.set id none) rfl (λk _ j=>H.aH h j none)
 ·simp only
  by_cases e:ws.length+1<=1
  ·rw[bJ e]
   have K:ws= []:=ON om
   subst K
   obtain⟨z,rfl⟩: ∃z,i= [z]:=List.length_eq_one_iff.1 (by simpa using J)
   have u:h.put id (0+([]:List V).length*1) [y]=some (h.set id (bB [y])):=by
    simp [H.put,q,putAt]
   rw[u]
   refine⟨_,_,rfl,⟨id,_, [],rfl,r,G,by rw[H.aU];rfl,.inr ⟨rfl,rfl⟩⟩,λk j m=>H.aH h (λe=>m ⟨0,0,.kn 1,by rw[e];rfl⟩) _,fN _,Nat.le_succ _,λk ⟨_,_,_,e⟩=>by cases e;exact .inl ⟨_,_,_,rfl⟩⟩
  ·rw[bU e]
   exact a h rfl (λ_ _ _=>rfl)
def ahP (n:Nat):LN:=(Ch n n).filter (aeL n)
theorem QT (X:aY n x):x∈ahP n:=by
 unfold ahP;rw[Rq];refine⟨X.uB,?_⟩;unfold aeL;simp only[sE,beq_iff_eq,zP,Ak];exact⟨⟨X.len,X.nd⟩,X.lt⟩
theorem yV (c:n<=5){l:LN}(nd:l.Nodup)(d: ∀x∈l,aY n x):l.length<=120:=by
 have h: ∀n,n<=5->(ahP n).length<=120:=by decide+kernel
 exact mY (List.Nodup.length_le_of_subset nd λx a=>QT (d x a)) (h n c)
theorem Jb {n:Nat}(a:A.Pairwise Lt):A.Nodup:=a.imp λh e=>by rw[e] at h;exact h.irrefl
def Rn (A:LN)(k:Nat)(y:List Nat):LN:=A.take k++y::A.drop k
theorem pW {z:List Nat}:z∈Rn A k y↔z=y∨z∈A:=by
 unfold Rn;rw[oD,vI];constructor
 ·rintro (h|h|h)
  ·exact .inr (List.mem_of_mem_take h)
  ·exact .inl h
  ·exact .inr (List.mem_of_mem_drop h)
 ·rintro (h|h)
  ·exact .inr (.inl h)
  ·rw[←List.take_append_drop k A,oD] at h
   rcases h with h|h
   ·exact .inl h
   ·exact .inr (.inr h)
theorem Au:(Rn A k y).length=A.length+1:=by
 unfold Rn;rw[iV,List.length_cons,zO,Ra];omega
theorem UC {a b:List Nat}(A:aY n a)(B:aY n b)(s: ¬Lt a b)(h2:a≠b):Lt b a:=by
 have h: ∃i,i<n/\a.getD i 0≠b.getD i 0:=Jj λh=>h2 (uZ (by rw[A.len,B.len]) λi hi=>Jj λd=>h ⟨i,by rw[←A.len];exact hi,d⟩)
 obtain⟨i,hi,c⟩:=h
 have t: ∃i,(i<n/\a.getD i 0≠b.getD i 0)/\ ∀j,j<i-> ¬(j<n/\a.getD j 0≠b.getD j 0):=by
  revert hi c
  induction i using Nat.strongRecOn with
  |ind i ih=>
   intro hi c
   by_cases h: ∃j,j<i/\j<n/\a.getD j 0≠b.getD j 0
   ·obtain⟨j,d,l,u⟩:=h
    exact ih j d l u
   ·exact⟨i,⟨hi,c⟩,λj m o=>h ⟨j,m,o⟩⟩
 obtain⟨k,⟨q,p⟩,f⟩:=t;have r: ∀j,j<k->a.getD j 0=b.getD j 0:=λj m=>Jj λd=>f j m ⟨om,d⟩
 rcases Nat.lt_or_gt_of_ne p with l|l
 ·exact (s ⟨k,by rw[A.len];exact q,r,l⟩).elim
 ·exact⟨k,by rw[B.len];exact q,λj m=>(r j m).symm,l⟩
theorem XB (l: ∀x∈A,aY n x)(Y:aY n y)(c:A.Pairwise Lt)(p:Plc A y k)(s:y∉A):(Rn A k y).Pairwise Lt:=by
 unfold Rn;rw[List.pairwise_append];have at': ∀{z:List Nat},z∈A.take k-> ∃i,i<k/\i<A.length/\A.getD i []=z:=λh=>(Oo (d:= [])).1 h
 have r: ∀{z:List Nat},z∈A.drop k-> ∃i,k<=i/\i<A.length/\A.getD i []=z:=λh=>by
  obtain⟨q,t,e⟩:=Ad.1 h;rw[Ra] at t;rw[List.getElem_drop] at e;exact⟨k+q,om,om,by rw[List.getD,dD om,←e];rfl⟩
 have o: ∀z∈A.take k,Lt z y:=λz a=>by
  obtain⟨i,j,f,rfl⟩:=at' a;exact (mQ (by rw[(l _ (bC f)).len,Y.len])).1 (p.lo i j)
 have hi: ∀z∈A.drop k,Lt y z:=λz a=>by
  obtain⟨i,j,f,rfl⟩:=r a;have Z:=l _ (bC (d:= []) f);refine UC Z Y (λh=>?_) (λe=>s (by rw[←e];exact bC f));have:=p.hi i j f;rw[(mQ (by rw[Z.len,Y.len])).2 h] at this;cases this
 refine⟨c.sublist (List.take_sublist k A),List.pairwise_cons.2 ⟨hi,c.sublist (List.drop_sublist k A)⟩,λz a w m=>?_⟩;rcases vI.1 m with rfl|m
 ·exact o z a
 ·have Z:=l z (List.mem_of_mem_take a)
  exact Lt.trans (by rw[Z.len,Y.len]) (o z a) (hi w m)
structure YT (n:Nat)(S A Q:LN):Prop where
 asc:A.Pairwise Lt
 gen: ∀x∈A,bM n (· ∈S) x
 one:aX n∈A
 sub: ∀x∈Q,x∈A
 cl: ∀x∈A,x∉Q-> ∀g∈S,aM x g∈A
theorem YT.start (n:Nat)(S:LN):YT n S [aX n] [aX n]:=
 ⟨List.pairwise_singleton _ _,λx a=>by simp at a;subst a;exact .one,by simp,λx a=>a,λx a h=>absurd a h⟩
theorem YT.done (j:YT n S A []):cZ (bM n (· ∈S)) A:=by
 refine⟨j.asc,λx=>⟨j.gen x,λh=>?_⟩⟩
 induction h with
 |one=>exact j.one
 |mul _ hg ih=>exact j.cl _ ih List.not_mem_nil _ hg
structure MD (n:Nat)(S:LN)(x:List Nat)(i:Nat)(A Q:LN):Prop where
 asc:A.Pairwise Lt
 gen: ∀x∈A,bM n (· ∈S) x
 one:aX n∈A
 sub: ∀x∈Q,x∈A
 mem:x∈A
 cl: ∀z∈A,z∉Q->z=x∨ ∀g∈S,aM z g∈A
 dn: ∀j,j<i->aM x (S.getD j [])∈A
theorem MD.start (j:YT n S A (Q++ [x])):MD n S x 0 A Q:=
 ⟨j.asc,j.gen,j.one,λz a=>j.sub z (by simp [a]),j.sub x (by simp),λz a c=>by
  by_cases e:z=x
  ·exact .inl e
  ·exact .inr (j.cl z a (by simp [c,e])),λj d=>om⟩
theorem MD.done (j:MD n S x S.length A Q):YT n S A Q:=
 ⟨j.asc,j.gen,j.one,j.sub,λz c d g a=>by
  rcases j.cl z c d with rfl|h
  ·obtain⟨i,hi,e⟩:=Ad.1 a
   have:=j.dn i hi;rwa [List.getD,dD hi,Option.getD_some,e] at this
  ·exact h g a⟩
theorem MD.skip {i:Nat}(j:MD n S x i A Q)(h:aM x (S.getD i [])∈A):MD n S x (i+1) A Q:=
 ⟨j.asc,j.gen,j.one,j.sub,j.mem,j.cl,λk a=>by
  by_cases e:k=i
  ·rw[e];exact h
  ·exact j.dn k om⟩
theorem MD.step {i:Nat}(j:MD n S x i A Q)(f: ∀g∈S,aY n g)(hi:i<S.length)(h:aM x (S.getD i [])∉A)(p:Plc A (aM x (S.getD i [])) k):MD n S x (i+1) (Rn A k (aM x (S.getD i []))) (Q++ [aM x (S.getD i [])]):=by
 have m:=j.gen x j.mem;have c:bM n (· ∈S) (aM x (S.getD i [])):=m.mul (bC hi);obtain⟨y,l⟩:=exI (aM x (S.getD i []));rw[l] at c h p ⊢;refine⟨XB (λz a=>(j.gen z a).bF f) (c.bF f) j.asc p h,λz a=>?_,pW.2 (.inr j.one),λz a=>?_,pW.2 (.inr j.mem),λz a d=>?_,λq d=>?_⟩
 ·rcases pW.1 a with rfl|a
  ·exact c
  ·exact j.gen z a
 ·rcases oD.1 a with a|a
  ·exact pW.2 (.inr (j.sub z a))
  ·simp at a;exact pW.2 (.inl a)
 ·rcases pW.1 a with rfl|a
  ·exact absurd (by simp) d
  ·rcases j.cl z a (λh=>d (by simp [h])) with e|o
   ·exact .inl e
   ·exact .inr λg r=>pW.2 (.inr (o g r))
 ·by_cases e:q=i
  ·rw[e,l];exact pW.2 (.inl rfl)
  ·exact pW.2 (.inr (j.dn q om))
theorem MN {A:List V}(a:k<=A.length)(z y:V):(((A++ [z]).take (k+1)++A.drop k).set k y)=A.take k++y::A.drop k:=by
 have c:(A++ [z]).take (k+1)=A.take k++ [(A++ [z]).getD k .undef]:=by
  rw[eY .undef (by rw[iV];simp;omega),List.take_append_of_le_length a]
 rw[c,Lz,List.set_append_right _ _ (by rw[zO];omega),zO,Nat.min_eq_left a,Nat.sub_self]
 rfl
theorem dZ.Rn {W:Nat->Prop}{c:List V}(p:dZ W h c A)(q:PV W h v y)(i:k<=A.length):dZ W h (c.take k++v::c.drop k) (Go.Proofs.YtcdbmkidaecdiaaGreat.Rn A k y):=by
 have j:=aN.length p
 have t: ∀(k:Nat) (c:List V) (A:LN),dZ W h c A->dZ W h (c.take k) (A.take k)/\dZ W h (c.drop k) (A.drop k):=by
  intro k
  induction k with
  |zero=>intro c A p;exact⟨trivial,p⟩
  |succ k ih=>
   intro c A p
   cases c with
   |nil=>cases A with
    |nil=>exact⟨trivial,trivial⟩
    |cons=>exact p.elim
   |cons a c=>cases A with
    |nil=>exact p.elim
    |cons b A=>
     obtain⟨d,f⟩:=ih c A p.2
     exact⟨⟨p.1,d⟩,f⟩
 obtain⟨d,f⟩:=t k c A p;exact d.append ⟨q,f⟩
theorem Wy.own (t:Wy h v ws b)(m:0<ws.length):dH h v 1 ws b:=by
 obtain⟨id,d,a,rfl,f,i,j,c⟩:=t;refine .inr ⟨id,ws.length,d,a,rfl,(tW _).symm,?_,f,i,j⟩;rcases c with c|⟨rfl,l⟩
 ·exact .inl c
 ·have e:ws.length=1:=om
  exact .inr ⟨by rw[e],ON om⟩
theorem aiB {Q m:Nat}(a:k<=m):rY 1 (.sl Q 0 (m+1) (.un 1)) (some (aC k)) none none=some (.sl Q k (m+1-k) (.un 1)):=by
 simp only[rY,nP];rw[bJ ⟨om,om⟩];simp only[if_true,DK];rw[bJ om,Nat.zero_add,tW]
theorem ZR {Q m:Nat}(a:k<=m):rY 1 (.sl Q 0 (m+1) (.un 1)) (some (aC ((k:Int)+1))) none none=some (.sl Q (if k<m then k+1 else 0) (m-k) (.un 1)):=by
 simp only[rY,nP];rw[bJ ⟨om,om⟩];have e:((k:Int)+1).toNat=k+1:=om
 simp only[if_true,e]
 by_cases h:k<m
 ·rw[bJ om,bJ h]
  simp only[Option.some.injEq,V.sl.injEq,true_and,and_true];omega
 ·rw[bU om,bU h]
  simp only[Option.some.injEq,V.sl.injEq,true_and,and_true];omega
theorem abR {Q:Nat}{z:V}(f:k<=ws.length)(c:h.get Q=bB (ws++ [z])):
  KH h 1 (.sl Q (if k<ws.length then k+1 else 0) (ws.length-k) (.un 1)) (.sl Q k (ws.length+1-k) (.un 1))=some (aC (ws.length-k:Nat),h.set Q (bB ((ws++ [z]).take (k+1)++ws.drop k))):=by
 have d:wZ (.sl Q (if k<ws.length then k+1 else 0) (ws.length-k) (.un 1))=some (ws.length-k):=rfl
 have o:wZ (.sl Q k (ws.length+1-k) (.un 1))=some (ws.length+1-k):=rfl
 have j:min (ws.length+1-k) (ws.length-k)=ws.length-k:=om
 have i:h.row Q k (ws.length-k)=some (ws.drop k):=by
  unfold H.row;rw[c];show sub (ws++ [z]) k (ws.length-k)=_;unfold sub;rw[bJ (by rw[iV];omega),List.drop_append_of_le_length f,List.take_left' (by rw[Ra])]
 have m:h.put Q (if k<ws.length then k+1 else 0) (ws.drop k)=some (h.set Q (bB ((ws++ [z]).take (k+1)++ws.drop k))):=by
  unfold H.put;rw[c];show (putAt (ws++ [z]) _ (ws.drop k)).map _=_;unfold putAt;have a:(ws++ [z]).length=ws.length+1:=by simp
  by_cases h:k<ws.length
  ·rw[bJ h,bJ (by rw[a,Ra];omega),Ra,show (ws++ [z]).drop _= [] from List.drop_eq_nil_of_le (by rw[a];omega),tZ];rfl
  ·have e:k=ws.length:=om
   rw[bU h,bJ (by rw[a,Ra];omega),e,List.drop_length,tZ,tZ];have l:(ws++ [z]).take (ws.length+1)=ws++ [z]:=Ro (by rw[a];omega);rw[l];simp
 simp only[KH,d,o,j,tW,i,m]
structure ESt (h hh:H)(va vt:V)(A Q:LN):Prop where
 ex: ∃wa wt,Wy hh va wa h.next/\Wy hh vt wt h.next/\dZ (λq=>bY va q∨bY vt q) hh wa A/\dZ (λq=>bY va q∨bY vt q) hh wt Q
 Rh: ∀q,bY va q-> ¬bY vt q
 fr:Fr h hh
theorem OD (mo n:Nat)(vl:V)(S:LN)(h:H)(n0:1<=n)(n5:n<=5)(hS: ∀g∈S,aY n g)(hl:S.length<=4096)(j8: ∀A:LN,A.Nodup->(∀x∈A,bM n (· ∈S) x)->A.length<=mo)(hv:SP h vl S):
  Ev T 33 [aC n,vl,aC mo] h (λv h'=> ∃A,cZ (bM n (· ∈S)) A/\A.length<=120/\SP h' v A/\Fr h h'):=by
 refine dW Ba rfl ?_
 have lv:=hv.lens
 rw[iA] at lv
 obtain⟨id,off,ws,sh,e6,g6,hc,f5⟩:=hv.open
 rw[iA] at sh e6 g6 hc
 simp(disch:=omega)only[go_sem,Ba,aE]
 refine (Vk n h om).mono ?_
 rintro v1 h1 ⟨s1,f1,l1⟩
 obtain⟨B,hB⟩:=exI h1.next
 obtain⟨G,e2,n2,g2,o2,f2⟩:=dK hB [v1]
 simp(disch:=omega)only[go_sem,cK _ (z:= .aD) (vE s1).1 (vE s1).2,hB,e2]
 refine (Vk n G om).mono ?_
 rintro v3 h3 ⟨s3,f3,l3⟩
 obtain⟨C,hC⟩:=exI h3.next
 obtain⟨h4,e4,n4,g4,o4,f4⟩:=dK hC [v3]
 have k1:=f1.next
 have k3:=f3.next
 have F4:=((f1.trans f2).trans f3).trans f4
 have a0: ∀{v:V} {hh:H},SI hh v (zi (aX n))->Fr hh h4->(∀id off len i7,v= .sl id off len i7->id≠B/\id≠C)->PV (λq=>bY (.sl B 0 1 (.kn 1)) q∨bY (.sl C 0 1 (.kn 1)) q) h4 v (aX n):=λ{v hh} s f i5=>by
  refine⟨s.mono f,?_⟩
  cases v with
  |sl i o m c=>
   have:=i5 _ _ _ _ rfl;rintro (⟨_,_,_,e⟩|⟨_,_,_,e⟩)
   ·cases e;omega
   ·cases e;omega
  |_=>trivial
 have f6:ESt h h4 (.sl B 0 1 (.kn 1)) (.sl C 0 1 (.kn 1)) [aX n] [aX n]:=by
  refine⟨⟨[v1], [v3],⟨B,_, [],rfl,om,om,by rw[o4 B om,f3.get B om];exact g2,.inr ⟨rfl,rfl⟩⟩,⟨C,_, [],rfl,om,om,g4,.inr ⟨rfl,rfl⟩⟩,dZ.one (a0 s1 ((f2.trans f3).trans f4) λi o m c e=>?_),dZ.one (a0 s3 f4 λi o m c e=>?_)⟩,λq ⟨_,_,_,e⟩ ⟨_,_,_,e2⟩=>by cases e;cases e2;omega,F4⟩
  ·have:=SV.in s1 _ _ _ _ e;omega
  ·have:=SV.in s3 _ _ _ _ e;have:=l3 _ _ _ _ e;omega
 simp(disch:=omega)only[go_sem,cK _ (z:= .aD) (vE s3).1 (vE s3).2,hC,e4]
 refine aI (λk' F hh=> ∃(A Q:LN) (d l:V),(∃g:Nat->V,F= [aC n,vl,aC mo,g 3,d,l,g 6,g 7,g 8,g 9,g 10,g 11,g 12,g 13,g 14])/\YT n S A Q/\ESt h hh d l A Q/\Q.length<=A.length/\k'=1000- 2*A.length+Q.length) _
  ⟨_,_,_,_,aB rfl,YT.start n S,f6,fN _,rfl⟩ ?_
 clear f6 a0 g2 g4 o2 o4 e2 e4 s1 s3 l1 l3 F4 f1 f2 f3 f4 k1 k3 n2 n4 hB hC
 rintro k' F h5 ⟨A,Q,d,l,⟨g,rfl⟩,J,st,k9,rfl⟩
 have AP: ∀x∈A,aY n x:=λx hx=>(J.gen x hx).bF hS
 have la:=yV n5 (Jb J.asc (n:=n)) AP
 obtain⟨⟨u,wt,ta,tt,pa,pt⟩,Rh,fr⟩:=st
 have a8:=aN.length pa
 have c3:=aN.length pt
 have a4:bL l=some (aC (Q.length:Int)):=by unfold bL;rw[SV.len tt.sv (n:=Q.length) om om];rfl
 by_cases w:(0:Int)<(Q.length:Int)
 case neg=>
  have d1:=bI w;have e0:Q= []:=ON om;simp(disch:=omega)only[go_sem,a4,d1];subst e0;exact⟨A,J.done,la,dZ.sp' ta.sv pa,fr⟩
 have d1:=cI w
 obtain⟨m,hm⟩: ∃m,Q.length=m+1:=⟨Q.length- 1,om⟩
 have em:(Q.length:Int)- 1=(m:Int):=om
 obtain⟨_,m0,k4,c5,c0⟩:=dZ.open tt.sv pt
 obtain⟨_,cx,px⟩:=c0 m om
 obtain⟨x,hx⟩:=exI (Q.getD m [])
 rw[hx] at px
 generalize wt.getD m .undef=vx at cx px
 obtain⟨R,b7,c7,L⟩:=tt.pop (k:=m) om
 have hQ:Q=Q.take m++ [x]:=by
  rw[←hx,←eY [] om,Ro om]
 have c6:dZ (λq=>bY d q∨bY R q) h5 (wt.take m) (Q.take m):=by
  have t: ∀(k:Nat) (u:List V) (A:LN),dZ (λq=>bY d q∨bY l q) h5 u A->dZ (λq=>bY d q∨bY l q) h5 (u.take k) (A.take k):=by
   intro k
   induction k with
   |zero=>intro u A p;exact trivial
   |succ k ih=>
    intro u A p
    cases u with
    |nil=>cases A with
     |nil=>exact trivial
     |cons=>exact p.elim
    |cons a u=>cases A with
     |nil=>exact p.elim
     |cons b A=>exact⟨p.1,ih u A p.2⟩
  exact dZ.kO (t m wt Q pt) λq _ hw=>hw.imp (λh=>h) (L q)
 have b8:ESt h h5 d R A (Q.take m):=⟨⟨u,wt.take m,ta,c7,dZ.kO pa λq _ hw=>hw.imp (λh=>h) (L q),c6⟩,λq h1 G=>Rh q h1 (L q G),fr⟩
 have b9:PV (λq=>bY d q∨bY R q) h5 vx x:=PV.kO px λq _ hw=>hw.imp (λh=>h) (L q)
 have J':MD n S x 0 A (Q.take m):=MD.start (by rw[←hQ];exact J)
 have k6:(Q.take m).length=m:=by rw[zO];omega
 simp(disch:=omega)only[go_sem,a4,d1,em,c5.ixa,cx,b7]
 refine uJ (λvs hh=> ∃(r O:LN) (d l:V),(∃g:Nat->V,vs= [aC n,vl,aC mo,g 3,d,l,g 6,g 7,g 8,g 9,g 10,g 11,g 12,g 13,g 14])/\YT n S r O/\ESt h hh d l r O/\O.length<=r.length/\1000- 2*r.length+O.length<1000- 2*A.length+Q.length) ?_ ?_
 ·refine aI (λk' F hh=> ∃(i:Nat) (r O:LN) (d l:V),(∃g:Nat->V,F= [aC n,vl,aC mo,g 3,d,l,vx,aC i,g 8,g 9,g 10,g 11,g 12,g 13,g 14])/\i<=S.length/\MD n S x i r O/\ESt h hh d l r O/\PV (λq=>bY d q∨bY l q) hh vx x/\O.length+A.length+1=r.length+Q.length/\A.length<=r.length/\k'=S.length-i) S.length
   ⟨0,A,Q.take m,d,R,aB rfl,iB _,J',b8,b9,om,fN _,rfl⟩ ?_
  clear b8 b9 J' c6 c7 L b7 Rh fr pa pt ta tt a8 c3 a4 cx px c0 c5 R g
  rintro k' F h6 ⟨i,r,O,d,l,⟨g,rfl⟩,hi,J,st,px,g0,b4,rfl⟩
  have c2: ∀x∈r,aY n x:=λx hx=>(J.gen x hx).bF hS
  have l9:=yV n5 (Jb J.asc (n:=n)) c2
  by_cases d7:(i:Int)<(S.length:Int)
  case neg=>
   have d2:=bI d7;obtain rfl:i=S.length:=om
   simp(disch:=omega)only[go_sem,lv,d2];exact⟨r,O,d,l,aB rfl,J.done,st,om,om⟩
  have d2:=cI d7
  have a9:i<S.length:=om
  obtain⟨⟨u,wt,ta,tt,pa,pt⟩,Rh,fr⟩:=st
  have a8:=aN.length pa
  have c3:=aN.length pt
  have cg:h6.cell id (off+i)=some (ws.getD i .undef):=by rw[fr.cell (e6 om),hc i a9]
  have sg:=(xJ f5 a9).mono fr
  have Gp:aY n (S.getD i []):=hS _ (bC a9)
  generalize ws.getD i .undef=vg at cg sg
  have X:aY n x:=c2 x J.mem
  simp(disch:=omega)only[go_sem,lv,d2,sh.ixa,cg]
  refine (vT vx vg x _ h6 (by rw[X.len];omega) px.si sg (λj hj=>by rw[Gp.len];exact X.fX (by rw[←X.len];exact hj))).mono ?_
  rintro vy h7 ⟨sy,f7,l7⟩
  obtain⟨y,hy⟩:=exI (aM x (S.getD i []))
  have Y:aY n y:=by rw[←hy];exact X.mul Gp
  rw[hy] at sy
  have b6:=ta.tU f7.next λq w=>f7.get q (ta.in w).2
  have d8:=tt.tU f7.next λq w=>f7.get q (tt.in w).2
  have e5:=dZ.fx pa (Fx.of f7:Fx (λq=>bY d q∨bY l q) h6 h7)
  have i0:=dZ.fx pt (Fx.of f7:Fx (λq=>bY d q∨bY l q) h6 h7)
  have i1:=PV.mono px f7
  have g3: ∀q,(bY d q∨bY l q)->q<h6.next:=λq w=>w.elim (λh=>(ta.in h).2) (λh=>(tt.in h).2)
  have j2:PV (λq=>bY d q∨bY l q) h7 vy y:=PV.fresh sy l7 g3
  simp(disch:=omega)only[go_sem]
  refine (WO d vy n r y h7 om om c2 Y J.asc (dZ.sp' b6.sv e5) sy).mono ?_
  rintro _ h8 ⟨k,rfl,pk,_,f8⟩
  have a6:=b6.tU f8.next λq w=>f8.get q (b6.in w).2
  have W:=d8.tU f8.next λq w=>f8.get q (d8.in w).2
  have e3:=dZ.fx e5 (Fx.of f8:Fx (λq=>bY d q∨bY l q) h7 h8)
  have g1:=dZ.fx i0 (Fx.of f8:Fx (λq=>bY d q∨bY l q) h7 h8)
  have e8:=PV.mono i1 f8
  have k0:=PV.mono j2 f8
  have c1:=(fr.trans f7).trans f8
  by_cases a5:y∈r
  ·have d3:=cI a5
   simp(disch:=omega)only[go_sem,d3]
   rw[fJ i]
   exact⟨S.length-(i+1),om,i+1,r,O,d,l,aB rfl,om,J.skip (by rw[hy];exact a5),⟨⟨u,wt,a6,W,e3,g1⟩,Rh,c1⟩,e8,g0,b4,rfl⟩
  have d3:=bI a5
  have J2:=J.step hS a9 (by rw[hy];exact a5) (by rw[hy];exact pk)
  rw[hy] at J2
  have g5:=yV n5 (Jb J2.asc (n:=n)) (λx hx=>(J2.gen x hx).bF hS)
  rw[Au] at g5
  have j9:bL d=some (aC (r.length:Int)):=by unfold bL;rw[SV.len a6.sv (n:=r.length) om om];rfl
  have i4:=j8 _ (Jb J2.asc (n:=n)) J2.gen
  rw[Au] at i4
  have d4:decide ((mo:Int)<=(r.length:Int))=false:=bI om
  have l4:0<r.length:=Rl J.one
  obtain⟨N,hN⟩:=exI h8.next
  obtain⟨h9,e9,n9,g9,o9,f9⟩:=dK hN [.aD]
  have j3:=(a6.own om).fr f9
  obtain⟨U,f0,b5⟩:=j3.push (bytes:=24) (SV.one om g9 (.kn 1)) (n:=r.length) (m:=1) om rfl om om om
  have k7:=b5.next
  rw[n9] at f0
  have hk:=pk.le
  have j7:U.get (N+1)=bB (u++ [.aD]):=by rw[←n9];exact b5.get
  obtain⟨hb,j4,l2,e1⟩: ∃hb:H,H.mk U.tr (U.next+8)=hb/\hb.next=U.next+8/\ ∀q,hb.get q=U.get q:=⟨_,rfl,rfl,λ_=>rfl⟩
  have cp:=abR (k:=k) om ((e1 (N+1)).trans j7)
  rw[a8] at cp
  obtain⟨d0,h0,k8,j5,g7⟩:=mV hb (N+1) ((u++ [V.aD]).take (k+1)++u.drop k)
  rw[h0] at cp
  have d5:decide ((k:Int)<0)=false:=bI om
  have d6:decide (((r.length+1:Nat):Int)<=(k:Int))=false:=bI om
  have k2:((u++ [V.aD]).take (k+1)++u.drop k).length=r.length+1:=by
   rw[iV,zO,iV,Ra];simp;omega
  have c4:=bT (vs:=(u++ [V.aD]).take (k+1)++u.drop k) (off:=k) om d0 (N+1) vy
  rw[MN om] at c4
  obtain⟨a1,i6,l6,j1,j0⟩:=mV d0 (N+1) (u.take k++vy::u.drop k)
  rw[i6] at c4
  have a2:=vE sy
  have fT: ∀q,q<N-> ¬bY d q->a1.get q=h8.get q:=λq h1 G=>by
   rw[j0 q om,g7 q om,e1,b5.old q om (λi o m c e e2=>G ⟨o,m,c,e2▸e⟩),o9 q om]
  have k5:a1.next=N+10:=om
  have b1:=W.tU (h':=a1) om λq w=>fT q (by have:=(W.in w).2;omega) (λh=>Rh q h w)
  obtain⟨P,hP⟩:=exI a1.next
  obtain⟨l0,g8,l5,j6,m3,a7⟩:=dK hP [vy]
  have e7:=b1.tU a7.next λq w=>a7.get q (b1.in w).2
  have m2:=c1.next
  obtain⟨d9,a3,i9,c9,Z,m1,l8,b3⟩:=e7.push (S:=P) (c:= .kn 1) (SV.one om j6 (.kn 1)) om om
  simp(disch:=omega)only[go_sem,d3,j9,d4,cK _ (z:= .aD) (v:= .aD) rfl rfl,hN,e9,f0,ZR hk,aiB hk,j4,cp,d5,d6,j5,kP a2.1 a2.2,c4,cK _ (z:= .aD) a2.1 a2.2,hP,g8,i9]
  rw[fJ i]
  have c8: ∀q,bY l q->q<N:=λq w=>by have:=(W.in w).2;omega
  have K: ∀q,q<N-> ¬bY d q-> ¬bY l q->a3.get q=h8.get q:=λq h1 G h3=>by
   rw[Z q om h3,a7.get q om];exact fT q h1 G
  have xx:Fx (λq=>bY d q∨bY l q) h8 a3:=⟨om,λq h1 G=>K q om (λh=>G (.inl h)) (λh=>G (.inr h))⟩
  have ww: ∀q,q<h8.next->(bY (.sl (N+1) 0 (r.length+1) (.un 1)) q∨bY d9 q)->bY d q∨bY l q:=λq h1 G=>by
   rcases G with ⟨_,_,_,e⟩|G
   ·cases e;omega
   ·rcases b3 q G with h3|h3
    ·exact .inr h3
    ·omega
  have i2:a3.get (N+1)=bB (u.take k++vy::u.drop k):=by
   rw[Z (N+1) om (λh=>by have:=c8 _ h;omega),a7.get (N+1) om];exact j1
  have b0:PV (λq=>bY (.sl (N+1) 0 (r.length+1) (.un 1)) q∨bY d9 q) a3 vy y:=PV.go k0 xx ww
  have b2:=dZ.Rn (dZ.go e3 xx ww) b0 (k:=k) om
  have i3:(u.take k++vy::u.drop k).length=r.length+1:=by rw[aN.length b2,Au]
  refine⟨S.length-(i+1),om,i+1,_,_,_,_,aB rfl,om,J2,⟨⟨_,_,⟨N+1,_, [],by rw[i3],om,om,by rw[tZ];exact i2,.inl rfl⟩,c9,b2,(dZ.go g1 xx ww).append (dZ.one b0)⟩,λq ⟨_,_,_,e⟩ G=>?_,⟨om,λq w=>?_⟩⟩,PV.go e8 xx ww,by rw[Au,iV];simp;omega,by rw[Au];omega,rfl⟩
  ·cases e
   rcases b3 _ G with h3|h3
   ·have:=c8 _ h3;omega
   ·omega
  ·rw[K q om (λh=>by have:=(a6.in h).1;omega) (λh=>by have:=(W.in h).1;omega)]
   exact c1.get q w
 clear b8 b9 J' c6 c7 L b7 Rh fr pa pt ta tt a8 c3 a4 cx px c0 c5 R g
 rintro F h6 ⟨r,O,d,l,⟨g,rfl⟩,J,st,b4,i8⟩
 simp(disch:=omega)only[go_sem]
 exact⟨_,i8,r,O,d,l,aB rfl,J,st,b4,rfl⟩
theorem QI (n:Nat)(a:V)(S:LN)(h:H)(j:1<=n)(c:n<=5)(d: ∀g∈S,aY n g)(m:S.length<=4096)(l:SP h a S):
  Ev T 33 [aC n,a,aC 120] h (λv h'=> ∃A,cZ (bM n (· ∈S)) A/\A.length<=120/\SP h' v A/\Fr h h'):=
 OD 120 n a S h j c d m (λ_ nd i=>yV c nd λx f=>(i x f).bF d) l
end
end Go.Proofs.YtcdbmkidaecdiaaGreat
namespace Go.Proofs.YtcdbmkidaecdiaaGreat
set_option maxRecDepth 100000
open Go Go.Ay Go.Pm
end Go.Proofs.YtcdbmkidaecdiaaGreat
namespace Go.Proofs.YtcdbmkidaecdiaaGreat
open Go Go.Ay Go.Pm
set_option maxRecDepth 100000
set_option maxRecDepth 100000
set_option maxRecDepth 100000
set_option maxRecDepth 100000
set_option maxRecDepth 100000
def wrC (C:LN)(k s j:Nat):Prop:=(∃q,q<k/\j∈C.getD q [])∨j∈(C.getD k []).take s
open Classical in
noncomputable def OS (C:LN)(x:List Nat)(k s j:Nat):V:=if wrC C k s j then aC (x.getD j 0:Nat) else aC 0
structure FrR (n:Nat)(O:List (List Int))(R:List (List (List Int)))(i k:Nat):Prop where
 row: ∀j,j<i->(O.getD j []).length<=n/\(O.getD j []).length=(R.getD j []).length
 perm: ∀j,j<i-> ∀x∈R.getD j [],x.length=n/\nU x=true
 last: ∀x∈(R.getD i []).take k,x.length=n/\nU x=true
theorem FrR.nat {n:Nat}{O:List (List Int)}{R:List (List (List Int))}(f:FrR n O R n 0)(k:R.length=n): ∃R':jJ,R=R'.map (List.map zi)/\ ∀g∈R'.flatten,aY n g:=by
 have a: ∀r∈R,∀x∈r,x.length=n/\nU x=true:=λr c x b=>by
  obtain⟨i,hi,rfl⟩:=Ad.1 c;exact f.perm i om x (by rw[List.getD,dD hi];exact b)
 refine⟨R.map (List.map (List.map Int.toNat)),?_,λg d=>?_⟩
 ·rw[List.map_map]
  refine (List.map_id R).symm.trans (Xa λr c=>?_);show r=(r.map (List.map Int.toNat)).map zi;rw[List.map_map];exact (List.map_id r).symm.trans (Xa λx b=>(Kd (a r c x b).2).1)
 ·obtain⟨j,h,d⟩:=List.mem_flatten.1 d
  obtain⟨r,c,rfl⟩:=pH.1 h;obtain⟨x,b,rfl⟩:=pH.1 d;have:=(Kd (a r c x b).2).2;rwa [(a r c x b).1] at this
theorem FrR.next {n:Nat}{O:List (List Int)}{R:List (List (List Int))}{i k:Nat}(f:FrR n O R i k)(h:(R.getD i []).length<=k)(c:(O.getD i []).length<=n)(h2:(O.getD i []).length=(R.getD i []).length):FrR n O R (i+1) 0:=by
 have b:=f.last;rw[Ro h] at b;refine⟨λj d=>?_,λj d=>?_,λx a=>by rw[List.take_zero] at a;cases a⟩
 ·by_cases e:j=i
  ·subst e;exact⟨c,h2⟩
  ·exact f.row j om
 ·by_cases e:j=i
  ·subst e;exact b
  ·exact f.perm j om
set_option maxRecDepth 100000
end Go.Proofs.YtcdbmkidaecdiaaGreat
namespace Go.Proofs.YtcdbmkidaecdiaaGreat
set_option maxRecDepth 100000
open Go Go.Ay Go.Pm
end Go.Proofs.YtcdbmkidaecdiaaGreat
namespace Go.Proofs.YtcdbmkidaecdiaaGreat
open Go Go.Ay Go.Pm
set_option maxRecDepth 100000
set_option maxRecDepth 100000
theorem agI {i h:H}{d v:V}{a:List V}{ls:LN}{x:List Nat}{b:Nat}(o:dH h d 1 a i.next)(f:Fr i h)(u:a.length<1000000)(A:b<=i.next)(p:dZ (λq=>q<b∨bY d q) h a ls)(pv:PV (λq=>q<b∨bY d q) h v x):
  ∃h2,zK (h.new (.cells false [v])) 1 24 d (.sl h.next 0 1 (.kn 1))=some (.sl (h.next+1) 0 (a.length+1) (.un 1),h2)/\dH h2 (.sl (h.next+1) 0 (a.length+1) (.un 1)) 1 (a++ [v]) i.next/\dZ (λq=>q<b∨bY (.sl (h.next+1) 0 (a.length+1) (.un 1)) q) h2 (a++ [v]) (ls++ [x])/\Fr i h2/\h2.next=h.next+2:=by
 obtain⟨h2,y,s,w,t,r⟩:=Je (v:=v) o f u (bytes:=24) om
 have n:Fx (λq=>q<b∨bY d q) h h2:=⟨om,λq k h2=>r q k λid j m c e z=>h2 (.inr ⟨j,m,c,z▸e⟩)⟩
 have l: ∀q,q<h.next->(q<b∨bY (.sl (h.next+1) 0 (a.length+1) (.un 1)) q)->(q<b∨bY d q):=λq k h2=>by
  rcases h2 with h2|⟨_,_,_,e⟩
  ·exact .inl h2
  ·cases e;omega
 exact⟨h2,y,s,(dZ.go p n l).append (dZ.one (PV.go pv n l)),w,t⟩
theorem PV.aiM {h h':H}{a v:V}{d:List V}{b sz c:Nat}{x:List Nat}(o:dH h a sz d b)(f:c<=h.next)(p:PV (λq=>q<h.next) h' v x):PV (λq=>q<c∨bY a q) h' v x:=
 p.kO λq _ e=>by
  rcases e with e|⟨_,_,_,e⟩
  ·omega
  ·exact (o.in _ _ _ _ e).1
theorem dZ.fr {h h':H}{W:Nat->Prop}{vs:List V}{ls:LN}(p:dZ W h vs ls)(f:Fr h h'):dZ W h' vs ls:=p.mono λ_ _ x=>⟨x.si.mono f,x.off⟩
theorem dZ.aiJ {W:Nat->Prop}{h:H}{ws:List V}{l:LN}(p:dZ W h ws l){i:Nat}(hi:i<l.length):SI h (ws.getD i V.undef) (zi (l.getD i [])):=by
 have a:=aN.length p;have:=(aN.get p i om hi).si;rwa [sD (d:=V.undef),sD (d:= []) hi] at this
theorem Yd {W W':Nat->Prop}(vc vd:V)(n:Nat)(O O':LN)(R R':jJ)(G G':List Nat->Prop)(h:H)(P:GC W h vc n O R G)(gd:GC W' h vd n O' R' G'):
  Ev T 78 [vc,vd] h (λv h'=> ∃vr O2 R2,v= .tup [vr,aC 0]/\GC (λq=>q<h.next) h' vr n O2 R2 (oV n R R')/\Fr h h'):=by
 obtain⟨vO,vR,rfl,oO,oR⟩:=P.shape
 obtain⟨uO,uR,rfl,pO,pR⟩:=gd.shape
 refine dW rI rfl ?_
 have n0:=P.n0
 have n7:=P.n7
 have hG:=P.cY
 have b7:=gd.cY
 obtain⟨B,hB⟩:=exI h.next
 obtain⟨h1,e1,n1,g1,o1,f1⟩:=dK hB [aC n,vO,vR]
 obtain⟨h2,e2,n2,g2,o2,f2⟩:=dK n1 [aC n,uO,uR]
 obtain⟨N,e3,n3,g3,o3,f3⟩:=dK n2 [aC 0,.aD,.aD]
 have F3:=(f1.trans f2).trans f3
 have gB: ∀a,Fr N a->a.get B=bB [aC n,vO,vR]:=λa f=>by rw[f.get B om,o3 B om,o2 B om];exact g1
 have gC: ∀a,Fr N a->a.get (B+1)=bB [aC n,uO,uR]:=λa f=>by rw[f.get (B+1) om,o3 _ om];exact g2
 have gA: ∀a,Fr N a->a.get (B+1+1)=bB [aC 0,.aD,.aD]:=λa f=>by rw[f.get _ om];exact g3
 have r3:=Fr.refl N
 simp(disch:=omega)only[go_sem,rI,aE,bV h (v:= aC n) (u:=vO) (w:=vR) rfl oO oR,hB,e1,bV h1 (v:= aC n) (u:=uO) (w:=uR) rfl pO pR,n1,e2,n2,e3,aJ (gB N r3),aJ (gC N r3)]
 refine (VY _ _ n O O' R R' G G' N (P.mono F3) (gd.mono F3)).mono ?_
 rintro _ r ⟨rfl,f4⟩
 simp(disch:=omega)only[go_sem]
 refine bA (λhc=>(hc rfl).elim) (λ_=>?_)
 have F4:=F3.trans f4
 have fb:Fr r (H.mk r.tr (r.next+6)):=(Fr.refl r).bH om
 simp(disch:=omega)only[go_sem,aJ (gB r f4),aJ (gC r f4)]
 refine (zA _ n O R G h _ P (F4.trans fb)).mono ?_
 rintro L h5 ⟨wA,J,pA,f5⟩
 have a2:=fb.trans f5
 have F5:=f4.trans a2
 have ec:dI uO uO=true/\dI uR uR=true:=by
  obtain⟨_,_,_,_,e,sO,_,_,sR,_,_⟩:=gd.cw;cases e;exact⟨SV.dI sO,SV.dI sR⟩
 simp(disch:=omega)only[go_sem,aJ (gC h5 F5),ec.1,ec.2]
 refine (zA _ n O' R' G' h h5 gd (F4.trans a2)).mono ?_
 rintro vb K ⟨wB,b5,pB,f6⟩
 have F6:=F5.trans f6
 have b2:=F3.trans F6
 have lA:=aN.length pA
 have lB:=aN.length pB
 have sA:=rT hG P.isc
 have sB:=rT b7 gd.isc
 have nn:n*n<=7*7:=Nat.mul_le_mul n7 n7
 obtain⟨A,hA⟩:=exI (cE R)
 obtain⟨C,hC⟩:=exI (cE R')
 have Q: ∀g∈A,aY n g:=λg hg=>hG.bF (bE P.isc (hA▸hg))
 have a5: ∀g∈C,aY n g:=λg hg=>b7.bF (bE gd.isc (hC▸hg))
 rw[hA] at pA lA sA
 rw[hC] at pB lB sB
 have e0: ∀a,Fr K a->SV a L 1 wA:=λa f=>J.sv.mono (f6.trans f)
 have b0: ∀a,Fr K a->SV a vb 1 wB:=λa f=>b5.sv.mono f
 have c6:bL L=some (aC (A.length:Int)):=by unfold bL;rw[SV.len J.sv (n:=A.length) om om];rfl
 have e4:bL vb=some (aC (C.length:Int)):=by unfold bL;rw[SV.len b5.sv (n:=C.length) om om];rfl
 have d8: ∀{i k},i<=A.length->k<=C.length->(MT A C i k).length<=50*49:=λ{i k} hi hk=>mY (ZH hi hk) (Nat.mul_le_mul om om)
 simp(disch:=omega)only[go_sem,c6]
 obtain⟨b,hb⟩:=exI K.next
 refine bQ (λvs a=> ∃(l:V) (o:List V),(∃g:Nat->V,vs= [g 0,g 1,.ptr B 0,.ptr (B+1) 0,.ptr (B+1+1) 0,aC 0,g 6,L,vb,l,g 10,g 11,g 12,g 13,g 14,g 15,g 16,g 17,g 18,g 19,g 20,g 21])/\dH a l 1 o K.next/\dZ (λq=>q<b∨bY l q) a o (OQ A C)/\Fr K a) ?_ ?_
 ·refine aI (λk' j a=> ∃(i:Nat) (l:V) (o:List V),(∃g:Nat->V,j= [g 0,g 1,.ptr B 0,.ptr (B+1) 0,.ptr (B+1+1) 0,aC 0,g 6,L,vb,l,g 10,g 11,g 12,g 13,L,aC (A.length:Int),aC i,g 17,g 18,g 19,g 20,g 21])/\i<=A.length/\dH a l 1 o K.next/\dZ (λq=>q<b∨bY l q) a o (MT A C i 0)/\Fr K a/\k'=A.length-i) A.length
   ⟨0,.aD, [],aB rfl,iB _,dH.aD _ _ _,trivial,Fr.refl _,rfl⟩ ?_
  rintro k' j a ⟨i,l,o,⟨g,rfl⟩,hi,t,pv,F,rfl⟩
  by_cases a8:(i:Int)<(A.length:Int)
  case neg=>
   have d1:=bI a8;obtain rfl:i=A.length:=om
   simp(disch:=omega)only[go_sem,d1];exact⟨l,o,aB rfl,t,by rw[YY] at pv;exact pv,F⟩
  have d1:=cI a8
  have a0:i<A.length:=om
  obtain⟨c7,b3,c8,b1,a6⟩:=(e0 a F).shape A.length om om
  have cA:a.cell c7 (b3+i)=some (wA.getD i V.undef):=by rw[a6 i om,List.getD,dD om];rfl
  have LO:=dZ.aiJ pA a0
  have P1:=Q _ (bC (d:= []) a0)
  generalize wA.getD i V.undef=vp at cA LO
  simp(disch:=omega)only[go_sem,d1,c8.ixa,cA,e4]
  refine aI (λk' j a=> ∃(k:Nat) (l:V) (o:List V),(∃g:Nat->V,j= [g 0,g 1,.ptr B 0,.ptr (B+1) 0,.ptr (B+1+1) 0,aC 0,g 6,L,vb,l,vp,g 11,g 12,g 13,L,aC (A.length:Int),aC i,g 17,vb,aC (C.length:Int),aC k,g 21])/\k<=C.length/\dH a l 1 o K.next/\dZ (λq=>q<b∨bY l q) a o (MT A C i k)/\Fr K a/\k'=C.length-k) C.length
   ⟨0,l,o,aB rfl,iB _,t,pv,F,rfl⟩ ?_
  clear t pv F cA a6 b1
  rintro k' j a4 ⟨k,l,o,⟨g,rfl⟩,hk,t,pv,F,rfl⟩
  by_cases b4:(k:Int)<(C.length:Int)
  case neg=>
   have d2:=bI b4;obtain rfl:k=C.length:=om
   simp(disch:=omega)only[go_sem,d2];rw[fJ i];exact⟨A.length-(i+1),om,i+1,l,o,aB rfl,om,t,by rw[YP A C a0] at pv;exact pv,F,rfl⟩
  have d2:=cI b4
  have Y:k<C.length:=om
  obtain⟨c9,b6,d5,e5,d9⟩:=(b0 a4 F).shape C.length om om
  have cC:a4.cell c9 (b6+k)=some (wB.getD k V.undef):=by rw[d9 k om,List.getD,dD om];rfl
  have sq:=(dZ.aiJ pB Y).mono (b2.trans F)
  have Q1:=a5 _ (bC (d:= []) Y)
  generalize wB.getD k V.undef=vq at cC sq
  simp(disch:=omega)only[go_sem,d2,d5.ixa,cC]
  have sp:=LO.mono (b2.trans F)
  refine (VC vp vq n _ _ a4 n0 om P1 Q1 sp sq).mono ?_
  rintro _ c2 ⟨w,rfl,pw,Z⟩
  have ll:=d8 (i:=i) (k:=k) om om
  have l9:=aN.length pv
  obtain⟨f8,a3,d4,c0,d3,f0⟩:=agI (x:=cU (A.getD i []) (C.getD k [])) (v:=w) (t.fr Z) (F.trans Z) om (b:=b) om (dZ.fr pv Z) (PV.aiM t (by have:=F.next;omega) pw)
  have wx:=SV.cT pw.si
  simp(disch:=omega)only[go_sem,cK c2 (z:= .aD) wx.1 wx.2.1,a3]
  rw[fJ k]
  exact⟨C.length-(k+1),om,k+1,_,_,aB rfl,om,d4,by rw[QA A C Y];exact c0,d3,rfl⟩
 rintro j a ⟨l,o,⟨g,rfl⟩,t,pv,F⟩
 have l9:=aN.length pv
 rw[Ui] at l9
 have e9:A.length*C.length<=49*49:=Nat.mul_le_mul om om
 have a7:=F6.trans F
 have e7:=F3.trans a7
 have a1:Fr a (H.mk a.tr (a.next+12)):=(Fr.refl a).bH om
 have f7:(H.mk r.tr (r.next+6)).next=r.next+6:=rfl
 have e6:r.next+6<=h5.next:=f5.next
 have e8:=f6.next
 have nF:=F.next
 have nb:(H.mk a.tr (a.next+12)).next=a.next+12:=rfl
 have FA:Fr h5 (H.mk a.tr (a.next+12)):=f6.trans (F.trans a1)
 obtain⟨vl,s,c5,Ap⟩:=dH.app (h:=H.mk a.tr (a.next+12)) (bytes:=24) (b:=r.next) ((J.fr FA).le om) om ((b0 a F).mono a1) (n:=A.length) (m:=C.length) om om om om
 have nq:=Ap.next
 have aA: ∀k,b<=k->dR L k:=λk hk g0 d0 m c e e2=>by have:=(J.in _ _ _ _ e).1;omega
 have b8:Fx (λq=>q<b) a s:=⟨om,λq h1 h2=>Ap.get q om (aA q om)⟩
 have c4:Fr r s:=Ap.fr r (a2.trans (f6.trans (F.trans a1))) (fN _)
 have y:Fr N s:=f4.trans c4
 have b9:Fr h s:=F3.trans y
 have cB:okV (s.cell B 0) (aC n)=true:=by rw[H.aF (gB s y)];simp [okV,dI]
 have d6:SP s l (OQ A C):=by
  refine dZ.LO (W:=λq=>q<b) (SV.fx t.sv (W:=λq=>q<b) ?_ b8) (aN.mono (λ_ _ p=>PV.go p (Fx.wide b8 λq h=> .inl h) λq _ h=> .inl h) pv)
  cases l with
  |sl id d0 m c=>exact λ(e:id<b)=>by have:=(t.in _ _ _ _ rfl).2.1;omega
  |_=>trivial
 have c3:SP s vl (A++C):=dZ.LO (W:=λ_=>False) Ap.own.sv (aN.append (aN.mono (λ_ _ p=>⟨p.si.mono b9,Ct _⟩) pA) (aN.mono (λ_ _ p=>⟨p.si.mono b9,Ct _⟩) pB))
 simp(disch:=omega)only[go_sem,H.aF (gB a a7),c5]
 refine⟨cB,?_⟩
 refine (Tm l vl n (OQ A C) (A++C) s n0 n7 (λg hg=>?_) (λg hg=>(oD.1 hg).elim (Q g) (a5 g)) (by rw[Ui];omega) (by rw[iV];omega) d6 c3).mono ?_
 ·obtain⟨p,hp,q,s,rfl⟩:=GH.1 hg
  exact qV (Q p hp) (a5 q s)
 rintro _ hr ⟨D,rfl,hD,bd,fr⟩
 obtain⟨xO,xR,O2,R2,gD,U⟩:=bd.ex
 obtain⟨_,d7,c1⟩:=U.one
 have f9:=fr.next
 have a9:=y.trans fr
 obtain⟨hs,es,ns,gs,os⟩:=mV hr (B+1+1) [aC n,xO,xR]
 simp(disch:=omega)only[go_sem,aJ gD,cF hr (B+1+1) 0 (v:= aC n) (u:=xO) (w:=xR) rfl d7 c1,gA hr a9,cH,es,aJ gs]
 have q3:=y.next
 refine⟨_,O2,R2,rfl,?_,⟨om,λq s=>by rw[os q om,a9.get q om];exact F3.get q s⟩⟩
 have e1:(λx=>x∈OQ A C)=(λx=> ∃p,p∈A/\ ∃q,q∈C/\x=cU p q):=funext λx=>propext GH
 have e2:(λx=>x∈A++C)=(λx=>x∈A∨x∈C):=funext λx=>propext oD
 rw[e1,e2] at U
 unfold oV
 rw[hA,hC]
 exact U.go ⟨om,λq h1 h2=>os q λe=>h2 (.inl om)⟩ λq _ h=> .inl om
theorem yB {W:Nat->Prop}(vc:V)(n:Nat)(O:LN)(R:jJ)(G:List Nat->Prop)(h:H)(k:GC W h vc n O R G):
  Ev T 65 [vc] h (λv h'=>v= aC (iW O n 0:Nat)/\Fr h h'):=by
 obtain⟨t,vR,o,a0,rfl,K,oO,Q,sR,oR,aR⟩:=k.cw
 refine dW Ep rfl ?_
 have l:=(SV.cT K).2.1
 have s:=(SV.cT sR).2.1
 have c:=k.isc
 have n7:=k.n7
 have a1:=jE k
 have lO:=aN.length Q
 rw[c.lo] at lO
 obtain⟨B,Z⟩:=exI h.next
 obtain⟨P,e1,n1,g1,o1,x⟩:=dK Z [aC n,t,vR]
 have y:bL t=some (aC n):=by unfold bL;rw[SV.len K (n:=n) om om];rfl
 obtain⟨A,p,J,q,cO⟩:=SV.shape K n om om
 simp(disch:=omega)only[go_sem,Ep,aE,bV h (v:= aC n) (u:=t) (w:=vR) rfl l s,Z,e1,H.aF g1,y]
 refine aI (λY b F=> ∃(i a:Nat),(∃g:Nat->V,b= [g 0,g 1,g 2,aC a,g 4,t,aC n,aC i,g 8])/\i<=n/\a*iW O (n-i) i=iW O n 0/\F=P/\Y=n-i) n
  ⟨0,1,aB rfl,iB _,by rw[Nat.one_mul];rfl,rfl,rfl⟩ ?_
 rintro Y b F ⟨i,a,⟨g,rfl⟩,hi,f,rfl,rfl⟩
 by_cases r:(i:Int)<(n:Int)
 case neg=>
  have z:=bI r;obtain rfl:i=n:=om
  simp(disch:=omega)only[go_sem,z];rw[Nat.sub_self] at f;have:iW O 0 i=1:=rfl;rw[this,tW] at f;exact⟨by rw[f],x⟩
 have z:=cI r
 have d:i<n:=om
 have L:=aN.get Q i om (by rw[c.lo];exact d)
 rw[show O[i]'(by rw[c.lo];exact d)=O.getD i [] from sD _] at L
 have U:F.cell A (p+i)=some (o[i]'om):=by
  rw[x.cell (q om),cO i om,dD om]
 generalize o[i]'om=vo at L U
 have N:=(L.si.mono x).lens
 rw[aS] at N
 obtain⟨r1,r2⟩:=k.row d
 have st:iW O (n-i) i=(O.getD i []).length*iW O (n-(i+1)) (i+1):=by
  rw[show n-i=(n-(i+1))+1 by omega];rfl
 have pos:=Mz (O:=O) (n-(i+1)) (i+1) (λj P h2=>(k.row om).1)
 obtain⟨m,hm⟩:=exI ((O.getD i []).length)
 rw[st,←Nat.mul_assoc,hm] at f
 rw[hm] at N
 have bd:a*m<=iW O n 0:=by rw[←f];exact Nat.le_mul_of_pos_right _ pos
 have em:(a:Int)*(m:Int)=((a*m:Nat):Int):=rfl
 obtain⟨w,hw⟩:=exI (a*m)
 rw[hw] at em bd f
 simp(disch:=omega)only[go_sem,z,J.ixa,U,N,em]
 rw[fJ i]
 exact⟨n-(i+1),om,i+1,w,aB rfl,om,f,rfl⟩
theorem Xh {W:Nat->Prop}(d:V)(n:Nat)(O:LN)(R:jJ)(G:List Nat->Prop)(h:H)(a:GC W h d n O R G):
  Ev T 74 [d] h (λv h'=>v= .tup [aC (iW O n 0:Nat),aC 0]/\Fr h h'):=by
 obtain⟨f,b,rfl,m,l⟩:=a.shape
 refine dW Bw rfl ?_
 have o:=jE a
 obtain⟨B,i⟩:=exI h.next
 obtain⟨j,r,x,k,s,c⟩:=dK i [aC n,f,b]
 simp(disch:=omega)only[go_sem,Bw,aE,bV h (v:= aC n) (u:=f) (w:=b) rfl m l,i,r,aJ k]
 refine (YV _ n O R G j (a.mono c)).mono ?_
 rintro _ t ⟨rfl,q⟩
 have p:decide ((5040:Int)<((iW O n 0:Nat):Int))=false:=bI om
 simp(disch:=omega)only[go_sem,p,eq_self,decide_true]
 exact c.trans q
abbrev jZ:=LN×jJ
def yE (n:Nat)(w:Bool)(c d:jZ):List Nat->Prop:=oV n d.2 (if w then c.2 else d.2)
structure lX (n:Nat)(w:Bool)(c:jZ)(l:List jZ):Prop where
 hd:l[0]? =some c
 st: ∀k d e,l[k]? =some d->l[k+1]? =some e->aV n (yE n w c d) e.1 e.2/\e≠d
 en: ∀d,l[l.length- 1]? =some d->aV n (yE n w c d) d.1 d.2
theorem lX.uniq {n:Nat}{w:Bool}{c:jZ}{l m:List jZ}(a:lX n w c l)(b:lX n w c m):l=m:=by
 have one: ∀{d e f:jZ},aV n (yE n w c d) e.1 e.2->aV n (yE n w c d) f.1 f.2->e=f:=λh k=>by
  obtain⟨q,i⟩:=h.uniq k;exact Prod.ext q i
 have z:0<l.length:=by
  cases l with
  |nil=>exact absurd a.hd (by simp)
  |cons x r=>simp
 have lb:0<m.length:=by
  cases m with
  |nil=>exact absurd b.hd (by simp)
  |cons x r=>simp
 have u: ∀k,(k<l.length↔k<m.length)/\l[k]? =m[k]? :=by
  intro k
  induction k with
  |zero=>exact⟨⟨λ_=>lb,λ_=>z⟩,by rw[a.hd,b.hd]⟩
  |succ k ih=>
   obtain⟨o,p⟩:=ih
   have j: ∀{l m:List jZ},lX n w c l->lX n w c m->(k<l.length↔k<m.length)->l[k]? =m[k]? ->k+1<l.length->k+1<m.length/\l[k+1]? =m[k+1]? :=λ{l m} a b o p h=>by
    have v:k<l.length:=om
    have A:=o.1 v;have s:=a.st k _ _ (dD v) (dD h);have y:m[k]? =some l[k]:=by rw[←p];exact dD v
    by_cases i:k+1<m.length
    ·have t:=b.st k _ _ y (dD i)
     exact⟨i,by rw[dD h,dD i,one s.1 t.1]⟩
    ·have t:=b.en l[k] (by rw[show m.length- 1=k by omega];exact y)
     exact absurd (one s.1 t) s.2
   by_cases h:k+1<l.length
   ·obtain⟨q,i⟩:=j a b o p h
    exact⟨⟨λ_=>q,λ_=>h⟩,i⟩
   ·have i: ¬k+1<m.length:=λi=>h (j b a o.symm p.symm i).1
    exact⟨⟨λx=>absurd x h,λx=>absurd x i⟩,by rw[List.getElem?_eq_none om,List.getElem?_eq_none om]⟩
 exact List.ext_getElem? λk=>(u k).2
theorem GL {G K:List Nat->Prop}{L M:LN}(E:cZ G L)(F:cZ K M)(h: ∀x,K x->G x)(j:M.length=L.length)(x:List Nat):G x↔K x:=by
 refine⟨λd=>?_,h x⟩;have i: ∀y∈M,y∈L:=λy a=>(E.mem y).2 (h y ((F.mem y).1 a))
 refine (F.mem x).1 ?_;have c:=(E.mem x).2 d;apply Jj;intro f
 have b: ∀y∈M,y∈L.erase x:=λy a=>by
  have ne:y≠x:=λe=>by subst e;exact f a
  exact (List.mem_erase_of_ne ne).2 (i y a)
 have:=List.Nodup.length_le_of_subset F.nodup b;rw[List.length_erase_of_mem c] at this;have:=Rl c;omega
section
variable {n:Nat} {w:Bool} {c d e:jZ} {Gc Gd:List Nat->Prop}
structure Dx (n:Nat)(w:Bool)(Gc:List Nat->Prop)(d:jZ)(Gd:List Nat->Prop):Prop where
 cY:dO n Gd
 isc:aV n Gd d.1 d.2
 le: ∀x,Gd x->Gc x
 norm:w=true-> ∀y b,Gd y->Gc b->Gd (aT y b)
theorem Dx.first (a:dO n Gc)(j:aV n Gc c.1 c.2):Dx n w Gc c Gc:=
 ⟨a,j,λ_ h=>h,λ_ y b i f=>a.mul (a.mul (a.inv f) i) f⟩
theorem Dx.nx (f:dO n Gc)(i:aV n Gc c.1 c.2)(x:Dx n w Gc d Gd):dO n (yE n w c d)/\(∀y,yE n w c d y->Gd y)/\(w=true-> ∀y b,yE n w c d y->Gc b->yE n w c d (aT y b)):=by
 unfold yE
 cases w with
 |false=>exact⟨oV.cY x.cY x.cY x.isc x.isc,λy a=>oV.self x.cY x.isc a,λh=>by cases h⟩
 |true=>exact⟨oV.cY x.cY f x.isc i,λy a=>oV.le x.cY f x.isc i (x.norm rfl) a,λ_ y b a j=>oV.norm x.cY f x.isc i a j⟩
theorem Dx.next (f:dO n Gc)(h:aV n Gc c.1 c.2)(x:Dx n w Gc d Gd)(i:aV n (yE n w c d) e.1 e.2):Dx n w Gc e (yE n w c d):=by
 obtain⟨b,k,j⟩:=x.nx f h;exact⟨b,i,λy a=>x.le y (k y a),j⟩
theorem Dx.size (q:dO n Gc)(r:aV n Gc c.1 c.2)(x:Dx n w Gc d Gd)(j:aV n (yE n w c d) e.1 e.2):iW e.1 n 0<=iW d.1 n 0/\(iW e.1 n 0=iW d.1 n 0->e=d):=by
 obtain⟨o,l,_⟩:=x.nx q r;obtain⟨k,m⟩:=dB x.cY x.isc;obtain⟨f,i⟩:=dB o j;refine⟨?_,λh=>?_⟩
 ·rw[←m,←i]
  exact List.Nodup.length_le_of_subset f.nodup λy p=>(k.mem y).2 (l y ((f.mem y).1 p))
 ·have:=GL k f l (by rw[m,i,h])
  obtain⟨a,b⟩:=(j.congr λy=>(this y).symm).uniq x.isc;exact Prod.ext a b
structure Qi (n:Nat)(w:Bool)(c:jZ)(l:List jZ)(d:jZ):Prop where
 hd:l= []->d=c
 h0:l≠ []->l[0]? =some c
 st: ∀k d e,l[k]? =some d->l[k+1]? =some e->aV n (yE n w c d) e.1 e.2/\e≠d
 la: ∀e,l[l.length- 1]? =some e->aV n (yE n w c e) d.1 d.2
theorem Qi.start:Qi n w c [] c:=⟨λ_=>rfl,λh=>absurd rfl h,λk d e h=>by simp at h,λe h=>by simp at h⟩
theorem Qi.push {l:List jZ}(s:Qi n w c l d)(j: ∀e,l[l.length- 1]? =some e->d≠e)(q:aV n (yE n w c d) e.1 e.2):Qi n w c (l++ [d]) e:=by
 refine⟨λh=>by simp at h,λ_=>?_,λk a b f i=>?_,λa f=>?_⟩
 ·cases l with
  |nil=>rw[s.hd rfl];rfl
  |cons x r=>have:=s.h0 (by simp);simpa using this
 ·by_cases o:k+1<l.length
  ·rw[Dt o] at i
   rw[Dt om] at f;exact s.st k a b f i
  ·have p:k+1=l.length:=by
    have:=(vJ.1 i).1;simp at this;omega
   rw[Dt om] at f;rw[p,Jg om,Nat.sub_self] at i;have i:d=b:=by simpa using i
   subst i;have m:l[l.length- 1]? =some a:=by rw[show l.length- 1=k by omega];exact f
   exact⟨s.la a m,j a m⟩
 ·have:a=d:=by
   rw[iV,show l.length+ [d].length- 1=l.length from rfl,Jg om,Nat.sub_self] at f;simpa using f.symm
  rw[this];exact q
theorem Qi.done {l:List jZ}(s:Qi n w c l d)(b:l≠ [])(h:l[l.length- 1]? =some d):lX n w c l:=
 ⟨s.h0 b,s.st,λe a=>by rw[h] at a;cases a;exact s.la d h⟩
end
def NxF (n:Nat)(w:Bool)(c:jZ)(h:H)(F:Nat)(caps:List V):Prop:=
 ∀(hh:H) (vd:V) (W:Nat->Prop) (d:jZ) (Gd:List Nat->Prop),Fr h hh->GC W hh vd n d.1 d.2 Gd->
  Ev T F (vd::caps) hh (λv h'=> ∃(p:V×V) (e:jZ),v= .agg [aC n,p.1,p.2]/\GC (λq=>q<hh.next) h' v n e.1 e.2 (yE n w c d)/\Fr hh h')
theorem XN (n:Nat)(c:jZ)(h:H):NxF n false c h 77 []:=by
 intro F vd W d A _ l;obtain⟨m,y,rfl,Y,U⟩:=l.shape;refine dW uV rfl ?_;obtain⟨B,J⟩:=exI F.next;obtain⟨h1,e1,G,g1,o1,P⟩:=dK J [aC n,m,y];obtain⟨k,e2,n2,R,K,f2⟩:=dK G [aC 0,.aD,.aD];have r:k.get B=bB [aC n,m,y]:=by rw[K B om];exact g1
 simp(disch:=omega)only[go_sem,uV,aE,bV F (v:= aC n) (u:=m) (w:=y) rfl Y U,J,e1,G,e2,aJ r];have F2:=P.trans f2;refine (Yd _ _ n d.1 d.1 d.2 d.2 A A k (l.mono F2) (l.mono F2)).mono ?_;rintro _ Q ⟨vr,O2,R2,rfl,O,p⟩;obtain⟨a,f,rfl,j,b⟩:=O.shape;have n3:=p.next;obtain⟨S,L⟩:=exI Q.next;obtain⟨z,e4,n4,g4,s,f4⟩:=dK L [aC 0,.aD,.aD];obtain⟨x,e5,n5,g5,o⟩:=mV z S [aC n,a,f];have t:x.get (B+1)=bB [aC 0,.aD,.aD]:=by rw[o _ om,s _ om,p.get _ om];exact R
 obtain⟨h6,e6,n6,g6,N⟩:=mV x (B+1) [aC n,a,f];simp(disch:=omega)only[go_sem,L,e4,cF z S 0 (v:= aC n) (u:=a) (w:=f) rfl j b,g4,cH,e5,aJ g5,cF x (B+1) 0 (v:= aC n) (u:=a) (w:=f) rfl j b,t,e6,aJ g6];refine⟨(a,f),(O2,R2),rfl,?_,⟨om,λq hq=>by rw[N q om,o q om,s q om,p.get q om,K q om,o1 q om]⟩⟩;refine O.go ⟨om,λq Z i=>?_⟩ λq _ (h:q<B)=>by show q<k.next;omega
 have i: ¬q<k.next:=i;rw[N q om,o q om,s q om]
theorem QZ {W0:Nat->Prop}(n:Nat)(c:jZ)(h:H)(l:Nat)(b a:V)(G0:List Nat->Prop)(z:h.get l=bB [aC n,b,a])(A:l<h.next)(g0:GC W0 h (.agg [aC n,b,a]) n c.1 c.2 G0):NxF n true c h 81 [.ptr l 0]:=by
 intro Q vd W d Gd s P;obtain⟨r,y,rfl,oO,oR⟩:=P.shape;refine dW yP rfl ?_;obtain⟨B,L⟩:=exI Q.next;have nh:=s.next;obtain⟨h1,e1,R,g1,o1,f1⟩:=dK L [aC n,r,y];obtain⟨m,e2,n2,g2,U,f2⟩:=dK R [aC 0,.aD,.aD];have G:m.get B=bB [aC n,r,y]:=by rw[U B om];exact g1
 have F2:=f1.trans f2;have p:m.get l=bB [aC n,b,a]:=by rw[(s.trans F2).get l A];exact z
 simp(disch:=omega)only[go_sem,yP,aE,bV Q (v:= aC n) (u:=r) (w:=y) rfl oO oR,L,e1,R,e2,aJ G,aJ p];refine (Yd _ _ n d.1 c.1 d.2 c.2 Gd G0 m (P.mono F2) (g0.mono (s.trans F2))).mono ?_;rintro _ h3 ⟨vr,O2,R2,rfl,Z,t⟩;obtain⟨o,j,rfl,i,f⟩:=Z.shape;have n3:=t.next;obtain⟨S,Y⟩:=exI h3.next;obtain⟨O,e4,n4,g4,J,f4⟩:=dK Y [aC 0,.aD,.aD];obtain⟨K,e5,n5,g5,F⟩:=mV O S [aC n,o,j];have x:K.get (B+1)=bB [aC 0,.aD,.aD]:=by rw[F _ om,J _ om,t.get _ om];exact g2
 obtain⟨h6,e6,n6,g6,N⟩:=mV K (B+1) [aC n,o,j];simp(disch:=omega)only[go_sem,Y,e4,cF O S 0 (v:= aC n) (u:=o) (w:=j) rfl i f,g4,cH,e5,aJ g5,cF K (B+1) 0 (v:= aC n) (u:=o) (w:=j) rfl i f,x,e6,aJ g6];refine⟨(o,j),(O2,R2),rfl,?_,⟨om,λq hq=>by rw[N q om,F q om,J q om,t.get q om,U q om,o1 q om]⟩⟩;refine Z.go ⟨om,λq a0 k=>?_⟩ λq _ (h:q<B)=>by show q<m.next;omega
 have k: ¬q<m.next:=k;rw[N q om,F q om,J q om]
def Mj (n:Nat)(ls:List (V×V)):List V:=ls.flatMap λp=> [aC n,p.1,p.2]
theorem Wd (n:Nat)(a b:List (V×V)):Mj n (a++b)=Mj n a++Mj n b:=by unfold Mj;rw[List.flatMap_append]
theorem jP (n:Nat)(ls:List (V×V)):(Mj n ls).length=ls.length*3:=by
 induction ls with
 |nil=>rfl
 |cons a r ih=>
  unfold Mj at ih ⊢;rw[List.flatMap_cons,iV,ih,List.length_cons,List.length_cons,List.length_cons,List.length_cons,List.length_nil];omega
theorem XL {n:Nat}: ∀{ls:List (V×V)} {i:Nat} (hi:i<ls.length),(Mj n ls)[i*3]? =some (aC n)/\(Mj n ls)[i*3+1]? =some ls[i].1/\(Mj n ls)[i*3+2]? =some ls[i].2
 |p::r,0,_=>⟨rfl,rfl,rfl⟩
 |p::r,i+1,hi=>by
  have:=XL (n:=n) (ls:=r) (i:=i) (by simpa using hi);have e:Mj n (p::r)= [aC n,p.1,p.2]++Mj n r:=rfl;rw[e];refine⟨?_,?_,?_⟩
  ·rw[Jg (by show 3<=(i+1)*3;omega)]
   rw[show (i+1)*3- [aC n,p.1,p.2].length=i*3 from by show (i+1)*3- 3=i*3;omega];exact this.1
  ·rw[Jg (by show 3<=(i+1)*3+1;omega)]
   rw[show (i+1)*3+1- [aC n,p.1,p.2].length=i*3+1 from by show (i+1)*3+1- 3=i*3+1;omega];exact this.2.1
  ·rw[Jg (by show 3<=(i+1)*3+2;omega)]
   rw[show (i+1)*3+2- [aC n,p.1,p.2].length=i*3+2 from by show (i+1)*3+2- 3=i*3+2;omega];exact this.2.2
def YE (C1 P id:Nat)(vl:V)(q:Nat):Prop:=q=C1∨q=P∨q=id∨bY vl q
def GD (W:Nat->Prop)(h:H)(n:Nat)(w:Bool)(Gc:List Nat->Prop)(p:V×V)(e:jZ):Prop:= ∃G,GC W h (.agg [aC n,p.1,p.2]) n e.1 e.2 G/\Dx n w Gc e G
theorem GD.go {W W':Nat->Prop}{h h':H}{n:Nat}{w:Bool}{a:List Nat->Prop}{p:V×V}{e:jZ}(g:GD W h n w a p e)(f:Fx W h h')(b: ∀q,q<h.next->W' q->W q):GD W' h' n w a p e:=by
 obtain⟨G,c,x⟩:=g;exact⟨G,c.go f b,x⟩
structure DeH (h0 hh:H)(C1 C2 K P id:Nat)(r:fK)(f:V)(n:Nat)(w:Bool)(Gc:List Nat->Prop)(l:List jZ)(d:jZ):Prop where
 ex: ∃vl ls p,hh.get P=bB [vl]/\dH hh vl 3 (Mj n ls) 0/\(∀q,bY vl q->h0.next<=q/\q≠C1/\q≠C2/\q≠K/\q≠P/\q≠id/\q<hh.next)/\aN (GD (YE C1 P id vl) hh n w Gc) ls l/\hh.get C1=bB [aC n,p.1,p.2]/\GD (YE C1 P id vl) hh n w Gc p d
 k:hh.get K=bB [.fn 65 [] []]
 c2:hh.get C2=bB [f]
 gr:hh.get id=some (.loop r)
 fr:Fr h0 hh
 nx:id<hh.next
def muS (n:Nat)(l:List jZ):Nat:=match l[l.length- 1]? with|none=>6000|some e=>iW e.1 n 0
theorem aaE (n:Nat)(l:List jZ)(d:jZ):muS n (l++ [d])=iW d.1 n 0:=by
 unfold muS
 have:(l++ [d])[(l++ [d]).length- 1]? =some d:=by
  rw[iV,show l.length+ [d].length- 1=l.length from rfl,Jg om,Nat.sub_self];rfl
 rw[this]
theorem DeH.at {m c:H}{h o K P id:Nat}{r:fK}{f:V}{n:Nat}{w:Bool}{b:List Nat->Prop}{l:List jZ}{d:jZ}(j:DeH m c h o K P id r f n w b l d){i:Nat}{e:jZ}(k:l[i]? =some e): ∃W p,GD W c n w b p e:=by
 obtain⟨s,q,p,_,_,_,a,_⟩:=j.ex;obtain⟨hi,rfl⟩:=vJ.1 k;have:=aN.length a;exact⟨_,_,aN.get a i om hi⟩
theorem SH (W:H)(f y K P id:Nat)(r:fK)(F:Nat)(m:List V)(n:Nat)(w:Bool)(c:jZ)(R:List Nat->Prop)(hG:dO n R)(hc:aV n R c.1 c.2)(nx:NxF n w c W F m)(J:W.next<=f)(ho:f<id/\y<id/\K<id/\P<id)(O:f≠y/\f≠K/\f≠P)(h:H)(j0:DeH W h f y K P id r (.fn F [] m) n w R [] c)(Q:H->Prop)
  (hy: ∀l d hh (p:V×V),DeH W hh f y K P id r (.fn F [] m) n w R l d->hh.get f=bB [aC n,p.1,p.2]->Qi n w c l d->Ey T id [.agg [aC n,p.1,p.2]] hh (λv h'=>v= .bool true/\DeH W h' f y K P id r (.fn F [] m) n w R (l++ [d]) d/\(∀e,l[l.length- 1]? =some e->d≠e)∨v= .bool false/\Q h')):
  Ev T 120 [.yl id,.ptr f 0,.ptr y 0] h (λ_ h'=>Q h'):=by
 refine dW vF rfl ?_
 simp(disch:=omega)only[go_sem,vF,aE]
 refine aI (λk' A hh=> ∃(l:List jZ) (d:jZ),(∃g:Nat->V,A= [.yl id,.ptr f 0,.ptr y 0,g 3])/\DeH W hh f y K P id r (.fn F [] m) n w R l d/\Qi n w c l d/\k'=muS n l) 6000
  ⟨[],c,aB rfl,j0,Qi.start,rfl⟩ ?_
 rintro k' A hh ⟨l,d,⟨g,rfl⟩,j,s,rfl⟩
 obtain⟨vl,ls,p,gP,ow,bl,al,a0,gd⟩:=j.ex
 simp(disch:=omega)only[go_sem,aJ a0]
 refine (hy l d hh p j a0 s).mono ?_
 rintro _ o (⟨rfl,t,z⟩|⟨rfl,q2⟩)
 case inr=>
  simp(disch:=omega)only[go_sem];exact q2
 obtain⟨N,a1,p2,b1,a4,L,a8,Y,a5⟩:=t.ex
 obtain⟨Gd,B,dx⟩:=a5
 obtain⟨_,b2,b3⟩:=B.one
 simp(disch:=omega)only[go_sem,H.aF t.c2,aJ Y]
 refine (nx o _ _ d Gd t.fr B).mono ?_
 rintro _ h3 ⟨Z,e,rfl,G,f3⟩
 obtain⟨_,a2,a3⟩:=G.one
 have n3:=f3.next
 have b5:=t.nx
 have a9:h3.get f=bB [aC n,p2.1,p2.2]:=by rw[f3.get f om];exact Y
 obtain⟨h4,e4,n4,g4,o4⟩:=mV h3 f [aC n,Z.1,Z.2]
 simp(disch:=omega)only[go_sem,cF h3 f 0 (v:= aC n) (u:=Z.1) (w:=Z.2) rfl a2 a3,a9,cH,e4]
 have hE:=G.isc
 have b4:=jE B
 have b0:muS n (l++ [d])<muS n l:=by
  rw[aaE];unfold muS
  cases hl:l[l.length- 1]? with
  |none=>show iW d.1 n 0<6000;omega
  |some a=>
   obtain⟨_,_,Ga,b6,a6⟩:=j.at hl;have:=a6.size hG hc (s.la a hl);have ne:iW d.1 n 0≠iW a.1 n 0:=λh=>z a hl (this.2 h)
   show iW d.1 n 0<iW a.1 n 0;omega
 have fx:Fx (YE f P id N) o h4:=⟨om,λq J o=>by rw[o4 q λe=>o (.inl e),f3.get q J]⟩
 have U: ∀q,q<o.next->q≠f->h4.get q=o.get q:=λq J o=>by rw[o4 q o,f3.get q J]
 refine⟨_,b0,l++ [d],e,aB rfl,⟨⟨N,a1,Z,by rw[U P om (Ne.symm O.2.2)];exact b1,a4.mono om λq _ _ _ ee _ J=>U q J (L q ⟨_,_,_,ee⟩).2.1,λq hq=>by obtain⟨a,b,c,d,e,g,i⟩:=L q hq;exact⟨a,b,c,d,e,g,om⟩,aN.mono (λ_ _ x=>x.go fx λ_ _ h=>h) a8,g4,yE n w c d,?_,dx.next hG hc hE⟩,by rw[U K om (Ne.symm O.2.1)];exact t.k,by rw[U y om (Ne.symm O.1)];exact t.c2,by rw[U id om om];exact t.gr,⟨by have:=t.fr.next;omega,λq hq=>by rw[U q (by have:=t.fr.next;omega) om];exact t.fr.get q hq⟩,om⟩,s.push z hE,rfl⟩
 have a7: ∀q,YE f P id N q->q<o.next:=λq h=>by
  rcases h with h|h|h|h
  ·omega
  ·omega
  ·omega
  ·exact (L q h).2.2.2.2.2.2
 exact G.go ⟨om,λq J o=>o4 q λe=>o (by show q<_;omega)⟩ λq _ h=>a7 q h
theorem Ub {h:H}{id o:Nat}{a b c:V}(i:h.cell id o=some a)(f:h.cell id (o+1)=some b)(d:h.cell id (o+2)=some c):h.row id o 3=some [a,b,c]:=by
 unfold H.cell at i f d;unfold H.row;split at i
 ·rename_i q j e
  rw[e] at f d;have f:j[o+1]? =some b:=f;have d:j[o+2]? =some c:=d;obtain⟨m,k⟩:=vJ.1 i;obtain⟨lb,p⟩:=vJ.1 f;obtain⟨l,n⟩:=vJ.1 d;rw[e];simp only[sub];rw[bJ om,Zh m,Zh lb,Zh l,k,p,n]
  rfl
 ·cases i
theorem My {h:H}{v:V}{n:Nat}{ls:List (V×V)}(s:SV h v 3 (Mj n ls)){i:Nat}(hi:i<ls.length): ∃id off,Sl v 3 ls.length id off/\h.row id (off+i*3) 3=some [aC n,ls[i].1,ls[i].2]:=by
 obtain⟨id,off,c,j,a⟩:=s.shape ls.length (jP n ls) om;obtain⟨f,d,b⟩:=XL (n:=n) hi;have k:=jP n ls;refine⟨id,off,c,Ub ((a (i*3) om).trans f) ?_ ?_⟩
 ·have:=(a (i*3+1) om).trans d
  rwa [←Nat.add_assoc] at this
 ·have:=(a (i*3+2) om).trans b
  rwa [←Nat.add_assoc] at this
theorem Va (h:H){x y:V}{d:Int}(a:x.one=true)(b:y.one=true):mH h 3 [aC 0,.aD,.aD] 1 [(0,3,.agg [aC d,x,y])]=some (.sl h.next 0 1 (.kn 1),h.new (.cells false [aC d,x,y])):=by
 have e:dP [aC 0,.aD,.aD] (1*3)= [aC 0,.aD,.aD]:=rfl;simp [mH,iK,e,putAt,V.cells,a,b,show (aC d).one=true from rfl]
theorem DeH.short {u B:H}{t v K P id:Nat}{r:fK}{f:V}{n:Nat}{w:Bool}{c:jZ}{m:List Nat->Prop}{l:List jZ}{d:jZ}(j:DeH u B t v K P id r f n w m l d)(z:dO n m)(A:aV n m c.1 c.2)(s:Qi n w c l d):l.length<=6000:=by
 have i: ∀k e,l[k]? =some e->k+iW e.1 n 0<=5999:=by
  intro k
  induction k with
  |zero=>
   intro e a;obtain⟨_,_,_,x,_⟩:=j.at a;have:=jE x;omega
  |succ k ih=>
   intro e a;have q:k<l.length:=by have:=(vJ.1 a).1;omega
   have o:l[k]? =some l[k]:=dD q;obtain⟨_,_,J,_,b⟩:=j.at o;obtain⟨p,y⟩:=s.st k _ _ o a;have F:=b.size z A p;have G:=ih _ o;have:iW e.1 n 0≠iW l[k].1 n 0:=λh=>y (F.2 h)
   omega
 by_cases h:l.length=0
 ·omega
 ·have:=i (l.length- 1) _ (dD om)
  omega
theorem Tx {W0:Nat->Prop}(Y h:H)(y Q:Nat)(F:Nat)(z:List V)(n:Nat)(w:Bool)(c:jZ)(Gc:List Nat->Prop)(vO vR:V)(f0:Fr Y h)(a:Y.next<=y)(h2:Y.next<=Q)(d3:y≠Q)(l1:y<h.next)(l2:Q<h.next)(b9:h.get y=bB [aC n,vO,vR])(b6:h.get Q=bB [.fn F [] z])(Z:GC W0 Y (.agg [aC n,vO,vR]) n c.1 c.2 Gc)(nx:NxF n w c Y F z):
  Ev T 75 [.fn 120 [] [.ptr y 0,.ptr Q 0],.fn 65 [] []] h (λv h'=> ∃ls l,SV h' v 3 (Mj n ls)/\aN (GD (λ_=>False) h' n w Gc) ls l/\lX n w c l/\Fr Y h'):=by
 refine dW jD rfl ?_
 obtain⟨K,hK⟩:=exI h.next
 obtain⟨h3,e3,n3,g3,o3,f3⟩:=dK hK [.fn 65 [] []]
 obtain⟨W,e4,n4,g4,o4,f4⟩:=dK n3 [.aD]
 simp(disch:=omega)only[go_sem,jD,aE,mE (x:= .fn 65 [] []) rfl rfl h,hK,e3,n3,e4]
 obtain⟨P,hP⟩:=exI (K+1)
 rw[hP] at n3 n4 g4 o4 ⊢
 obtain⟨id,a4⟩:=exI W.next
 refine⟨rfl,wF λr hr=>?_⟩
 rw[a4]
 have jI:r.st= .ready:=by rw[hr]
 have b7:r.pend=none:=by rw[hr]
 have oA: ∀k,k<id->(W.new (.loop r)).get k=W.get k:=λk hk=>H.bG W om _
 have nA:(W.new (.loop r)).next=id+1:=by rw[H.aW,a4]
 have fA:Fr h (W.new (.loop r)):=(f3.trans f4).new _
 have n0:=f0.next
 have J0:DeH Y (W.new (.loop r)) y Q K P id r (.fn F [] z) n w Gc [] c:=by
  refine⟨⟨.aD, [],(vO,vR),by rw[oA _ om];exact g4,dH.aD _ _ _,λq ⟨_,_,_,e⟩=>(by cases e),trivial,by rw[fA.get _ l1];exact b9,Gc,(Z.kO λq a h2=>?_).mono (f0.trans fA),Dx.first Z.cY Z.isc⟩,by rw[oA _ om,o4 _ om];exact g3,by rw[fA.get _ l2];exact b6,by rw[←a4,H.aL],f0.trans fA,om⟩;rcases h2 with h|h|h|⟨_,_,_,e⟩
  ·omega
  ·omega
  ·omega
  ·cases e
 refine (SH Y y Q K P id r F z n w c Gc Z.cY Z.isc nx a om om _ J0 (λh'=> ∃f ls l,h'.get P=bB [f]/\(dH h' f 3 (Mj n ls) 0/\ ∀q,bY f q->q≠id)/\aN (GD (YE y P id f) h' n w Gc) ls l/\lX n w c l/\Fr Y h'/\h'.get id=some (.loop (vD r (.exit 0)))/\id<h'.next) ?_).mono ?_
 ·intro l d O p j gp s
  obtain⟨f,ls,t,gP,ow,U,al,a2,a3⟩:=j.ex
  have c6:t=p:=by
   have:=a2.symm.trans gp;simp only[Option.some.injEq,Ob.cells.injEq,List.cons.injEq,true_and,and_true] at this;exact Prod.ext this.1 this.2
  subst c6
  have c0:=a3
  obtain⟨Gd,gc,dx⟩:=c0
  obtain⟨_,b3,a8⟩:=gc.one
  have jn:=j.nx
  have jf:=j.fr.next
  have la:=aN.length al
  have l6:=j.short Z.cY Z.isc s
  obtain⟨X,hX⟩:=exI O.next
  obtain⟨hA,eA,nA,gA,oA,fA⟩:=dK hX [aC 0,.aD,.aD]
  obtain⟨hB,eB,nB,gB,oB⟩:=mV hA X [aC n,t.1,t.2]
  refine afA j.gr (by rw[hr];rfl) ?_
  rw[congrArg fK.assign hr,congrArg fK.vars hr,congrArg fK.pars hr]
  simp(disch:=omega)only[go_sem,List.zip_cons_cons,List.zip_nil_left,hX,eA,cF hA X 0 (v:= aC n) (u:=t.1) (w:=t.2) rfl b3 a8,gA,cH,eB]
  refine⟨r,by rw[oB _ om,oA _ om];exact j.gr,jI,?_⟩
  obtain⟨A,eC⟩: ∃x,hB.set id (some (.loop (qE r)))=x:=⟨_,rfl⟩
  have c1:hB.set id (some (.loop {r with st:= .busy}))=A:=eC
  rw[c1,congrArg fK.body hr]
  have nC:A.next=X+1:=by rw[←eC];show hB.next=_;omega
  have a7:A.get id=some (.loop (qE r)):=by rw[←eC,H.aU]
  have oC: ∀q,q≠id->q≠X->A.get q=O.get q:=λq a h2=>by rw[←eC,H.aH _ a,oB q h2,oA q h2]
  have a6:A.get X=bB [aC n,t.1,t.2]:=by rw[←eC,H.aH _ om];exact gB
  have fx:Fx (YE y P id f) O A:=⟨om,λq a h2=>oC q (λe=>h2 (.inr (.inr (.inl e)))) om⟩
  rw[Xw]
  refine Ix (λa1 hf=>(∃g:Nat->V,a1= [g 0,g 1,g 2,g 3,.ptr P 0,.ptr X 0,g 6,g 7,g 8])/\Fr A hf/\ ∀e,l[l.length- 1]? =some e->d≠e) ?_ ?_
  ·have sv:=(ow.mono (h':=A) om λq o m R e _ a=>oC q (U q ⟨o,m,R,e⟩).2.2.2.2.2.1 om).sv
   have lv:bL f=some (aC (ls.length:Int)):=by unfold bL;rw[SV.len sv (n:=ls.length) (jP n ls) om];rfl
   have b0:A.get P=bB [f]:=by rw[oC P om om];exact gP
   have fb:Fr A (H.mk A.tr (A.next+17)):=(Fr.refl A).bH om
   have b2:A.get K=bB [.fn 65 [] []]:=by rw[oC K om om];exact j.k
   by_cases hl:ls.length=0
   ·have d1:decide ((ls.length:Int)>0)=false:=bI om
    have l0:l= []:=ON om
    simp(disch:=omega)only[go_sem,H.aF b0,lv,d1]
    exact .inl ⟨aB rfl,fb,λe he=>by rw[l0] at he;cases he⟩
   ·have d1:decide ((ls.length:Int)>0)=true:=cI om
    have hi:ls.length- 1<ls.length:=om
    obtain⟨ri,ro,c5,rC⟩:=My sv hi
    have gl:=aN.get al (ls.length- 1) hi om
    obtain⟨Gl,a5,b1⟩:=gl
    have em:((ls.length:Nat):Int)- 1=((ls.length- 1:Nat):Int):=om
    have B:l[ls.length- 1]? =some (l[ls.length- 1]'om):=dD om
    generalize (ls[ls.length- 1]'hi)=pl at a5 rC
    generalize (l[ls.length- 1]'om)=e0 at a5 b1 B
    rw[la] at B
    have c7:=b1.size Z.cY Z.isc (s.la e0 B)
    simp(disch:=omega)only[go_sem,H.aF b0,lv,d1,H.aF b2,em,c5.ixa,rC,aJ a6]
    refine (yB _ n e0.1 e0.2 Gl _ ((a5.go fx λ_ _ h=>h).mono fb)).mono ?_
    rintro _ h5 ⟨rfl,f5⟩
    have F5:=fb.trans f5
    have ec:dI t.1 t.1=true/\dI t.2 t.2=true:=by
     obtain⟨_,_,_,_,e,sO,_,_,sR,_,_⟩:=gc.cw;simp only[V.agg.injEq,List.cons.injEq,true_and,and_true] at e;rw[e.1,e.2];exact⟨SV.dI sO,SV.dI sR⟩
    simp(disch:=omega)only[go_sem,aJ (show h5.get X=_ from (F5.get X om).trans a6),H.aF (show h5.get K=_ from (F5.get K om).trans b2),ec.1,ec.2,show dI (.fn 65 [] []) (.fn 65 [] [])=true from rfl]
    refine (yB _ n d.1 d.2 Gd _ ((gc.go fx λ_ _ h=>h).mono F5)).mono ?_
    rintro _ h6 ⟨rfl,f6⟩
    have F6:=F5.trans f6
    by_cases hs:iW e0.1 n 0=iW d.1 n 0
    ·have d2:decide (((iW e0.1 n 0:Nat):Int)=((iW d.1 n 0:Nat):Int))=true:=cI (by rw[hs])
     simp(disch:=omega)only[go_sem,d2]
     obtain⟨hz,G⟩: ∃x,h6.set id (some (.loop (vD r (.exit 0))))=x:=⟨_,rfl⟩
     have nz:hz.next=h6.next:=by rw[←G];rfl
     have n6:=F6.next
     have oz: ∀q,q≠id->q<X->hz.get q=O.get q:=λq a h2=>by rw[←G,H.aH _ a,F6.get q om,oC q a om]
     have fz:Fx (YE y P id f) O hz:=⟨om,λq a h2=>oz q (λe=>h2 (.inr (.inr (.inl e)))) om⟩
     refine .inr ⟨λe=>(by cases e),CU (by rw[F6.get id om];exact a7) ?_⟩
     rw[G]
     exact .inr ⟨rfl,f,ls,l,by rw[oz P om om];exact gP,⟨ow.mono om λq o m R e _ a=>oz q (U q ⟨o,m,R,e⟩).2.2.2.2.2.1 om,λq h=>(U q h).2.2.2.2.2.1⟩,aN.mono (λ_ _ x=>x.go fz λ_ _ h=>h) al,s.done (λe=>hl (by rw[la,e];rfl)) (by rw[B,c7.2 hs.symm]),⟨om,λq L=>by rw[oz q om om];exact j.fr.get q L⟩,by rw[←G,H.aU],om⟩
    ·have d2:decide (((iW e0.1 n 0:Nat):Int)=((iW d.1 n 0:Nat):Int))=false:=bI om
     simp(disch:=omega)only[go_sem,d2]
     exact .inl ⟨aB rfl,F6,λe he c3=>by rw[B] at he;cases he;exact hs (by rw[c3])⟩
  ·rintro a1 hf ⟨⟨g,rfl⟩,ff,a9⟩
   have nf:=ff.next
   have of: ∀q,q≠id->q<X->hf.get q=O.get q:=λq a h2=>by rw[ff.get q om,oC q a om]
   obtain⟨S,hS⟩:=exI hf.next
   obtain⟨a,e1,n1,g1,o1,f1⟩:=dK hS [aC n,t.1,t.2]
   have c9:dH a f 3 (Mj n ls) 0:=ow.mono om λq o m R e _ L=>by rw[o1 q om,of q (U q ⟨o,m,R,e⟩).2.2.2.2.2.1 om]
   have c8:SV a (.sl S 0 1 (.kn 1)) 3 [aC n,t.1,t.2]:=SV.all rfl om g1 _
   obtain⟨h2,e2,pu⟩:=c9.push (bytes:=56) c8 (n:=ls.length) (m:=1) (jP n ls) rfl om om om
   have n2:=pu.next
   obtain⟨v2,N⟩: ∃x,V.sl a.next 0 (ls.length+1) (.un 3)=x:=⟨_,rfl⟩
   have b8: ∀q,¬bY f q->dR f q:=λq h i o m R e L=>h ⟨o,m,R,by rw[L];exact e⟩
   have o2: ∀q,q≠a.next-> ¬bY f q->h2.get q=a.get q:=λq a h2=>pu.old q a (b8 q h2)
   have d0:h2.get P=bB [f]:=by rw[o2 P om (λh=>(U P h).2.2.2.2.1 rfl),o1 P om,of P om om];exact gP
   obtain⟨h3,e3,n3,g3,o3⟩:=mV h2 P [v2]
   have c4:Wz h2 1 (.ptr P 0) v2=some h3:=by rw[←N,OY,d0,bT (by show 0<1;omega),N];exact congrArg some e3
   rw[N] at e2
   simp(disch:=omega)only[go_sem,H.aF (show hf.get P=_ from (of P om om).trans gP),aJ (show hf.get X=_ from (ff.get X om).trans a6),Va hf b3 a8,hS,e1,e2,c4]
   obtain⟨hz,G⟩: ∃x,h3.set id (some (.loop r))=x:=⟨_,rfl⟩
   have nz:hz.next=a.next+1:=by rw[←G];show h3.next=_;omega
   have J: ∀q,q<X->(¬bY f q->q≠id->q≠P->hz.get q=O.get q):=λq a h2 h3 W=>by
    rw[←G,H.aH _ h3,o3 q W,o2 q om h2,o1 q om,of q h3 a]
   have a0: ¬bY f y/\ ¬bY f Q/\ ¬bY f K/\ ¬bY f id:=⟨λh=>(U y h).2.1 rfl,λh=>(U Q h).2.2.1 rfl,λh=>(U K h).2.2.2.1 rfl,λh=>(U id h).2.2.2.2.2.1 rfl⟩
   have fz:Fx (YE y P id f) O hz:=⟨om,λq a h2=>J q om (λh=>h2 (.inr (.inr (.inr h)))) (λe=>h2 (.inr (.inr (.inl e)))) (λe=>h2 (.inr (.inl e)))⟩
   have b4: ∀q,bY v2 q->q=a.next:=λq ⟨_,_,_,e⟩=>by rw[←N] at e;cases e;rfl
   have hw: ∀q,q<O.next->YE y P id v2 q->YE y P id f q:=λq a h2=>by
    rcases h2 with h|h|h|h
    ·exact .inl h
    ·exact .inr (.inl h)
    ·exact .inr (.inr (.inl h))
    ·have:=b4 q h;omega
   refine pU jI b7 (by rw[o3 id om,o2 id om a0.2.2.2,o1 id om,ff.get id om];exact a7) ?_
   rw[G]
   refine .inl ⟨rfl,⟨⟨v2,ls++ [t],t,?_,?_,?_,?_,?_,?_⟩,?_,?_,?_,?_,?_⟩,a9⟩
   ·rw[←G,H.aH _ om];exact g3
   ·rw[Wd,←N]
    refine (pu.own (b:=0) (jP n ls) rfl om).mono om λq o m R e _ L=>?_
    cases e
    rw[←G,H.aH _ om,o3 _ om]
   ·intro q L
    have:=b4 q L
    omega
   ·exact aN.append (aN.mono (λ_ _ x=>x.go fz hw) al) ⟨a3.go fz hw,trivial⟩
   ·rw[J y om a0.1 om om];exact a2
   ·exact a3.go fz hw
   ·rw[J K om a0.2.2.1 om om];exact j.k
   ·rw[J Q om a0.2.1 om om];exact j.c2
   ·rw[←G,H.aU]
   ·refine⟨om,λq L=>?_⟩
    rw[J q om (λh=>?_) om om]
    ·exact j.fr.get q L
    ·have:=(U q h).1;omega
   ·omega
 ·rintro _ O ⟨f,ls,l,gP,⟨ow,bi⟩,al,s,F,gr,nx⟩
  refine⟨_,gr,by simp [vD],?_⟩
  have en:(vD r (.exit 0)).pend.getD .norm= .exit 0:=rfl
  rw[en]
  have b5:(O.set id (some (.loop {vD r (.exit 0) with st:= .out}))).get P=bB [f]:=by rw[H.aH _ om];exact gP
  simp(disch:=omega)only[go_sem,H.aF b5]
  have n0:=F.next
  refine⟨ls,l,?_,?_,s,⟨?_,λq L=>?_⟩⟩
  ·refine dH.sv (b:=0) ?_
   exact ow.mono (fN _) λq o m R e _ a=>H.aH _ (bi q ⟨o,m,R,e⟩) _
  ·exact aN.mono (λ_ _ x=>x.go ⟨fN _,λq a h2=>H.aH _ (λe=>h2 (.inr (.inr (.inl e)))) _⟩ λ_ _ h=>h.elim) al
  ·exact n0
  ·rw[H.aH _ (by have:=f0.next;omega)]
   exact F.get q L
section
variable {W:Nat->Prop} {n:Nat} {w:Bool}
theorem Qv (h:H){a b c:V}(f:V)(t:a.one=true)(r:b.one=true)(z:c.one=true)(q:f.one=true)(d:f.cells= [f]):
  Ev T 76 [.agg [a,b,c],f] h (λv h'=>v= .fn 120 [] [.ptr h.next 0,.ptr (h.next+1) 0]/\h'.get h.next=bB [a,b,c]/\h'.get (h.next+1)=bB [f]/\h'.next=h.next+2/\Fr h h'):=by
 refine dW yK rfl ?_
 obtain⟨B,j⟩:=exI h.next
 obtain⟨l,s,i,o,G,m⟩:=dK j [a,b,c]
 obtain⟨J,F,p,A,k,y⟩:=dK i [f]
 simp(disch:=omega)only[go_sem,yK,aE,bV h (v:=a) (u:=b) (w:=c) t r z,j,s,mE (x:=f) d q l,i,F]
 exact⟨by rw[k B om];exact o,A,p,m.trans y⟩
def ajK (n:Nat)(w:Bool)(c:jZ)(G:List Nat->Prop)(h:H)(v:V)(h':H):Prop:= ∃vl ls l,v= .tup [vl,aC 0]/\SV h' vl 3 (Mj n ls)/\aN (GD (λ_=>False) h' n w G) ls l/\lX n w c l/\Fr h h'
theorem vA (q:V)(n:Nat)(O:LN)(R:jJ)(G:List Nat->Prop)(h:H)(j:GC W h q n O R G):
  Ev T 18 [q] h (ajK n false (O,R) G h):=by
 obtain⟨d,b,rfl,p,o⟩:=j.shape
 refine dW yL rfl ?_
 obtain⟨B,r⟩:=exI h.next
 obtain⟨t,P,Z,m,Q,f⟩:=dK r [aC n,d,b]
 simp(disch:=omega)only[go_sem,yL,aE,bV h (v:= aC n) (u:=d) (w:=b) rfl p o,r,P,aJ m]
 refine (Xh _ n O R G t (j.mono f)).mono ?_
 rintro _ a ⟨rfl,k⟩
 have i:a.get B=bB [aC n,d,b]:=by rw[k.get B om];exact m
 have L:decide ((0:Int)≠0)=false:=rfl
 simp(disch:=omega)only[go_sem,L,aJ i]
 refine (Qv a (.fn 77 [] []) rfl p o rfl rfl).mono ?_
 rintro _ z ⟨rfl,K,N,Y,A⟩
 simp(disch:=omega)only[go_sem]
 refine (Tx (c:=(O,R)) a z a.next (a.next+1) 77 [] n false G d b A (fN _) om om om om K N (j.mono (f.trans k)) (XN n (O,R) a)).mono ?_
 rintro F U ⟨x,l,sv,y,s,J⟩
 simp(disch:=omega)only[go_sem]
 exact⟨F,x,l,rfl,sv,y,s,(f.trans k).trans J⟩
theorem Pe (r:V)(n:Nat)(O:LN)(R:jJ)(G:List Nat->Prop)(h:H)(k:GC W h r n O R G):
  Ev T 20 [r] h (ajK n true (O,R) G h):=by
 obtain⟨f,i,rfl,o,m⟩:=k.shape
 refine dW Br rfl ?_
 obtain⟨B,p⟩:=exI h.next
 obtain⟨t,P,Y,q,Z,j⟩:=dK p [aC n,f,i]
 simp(disch:=omega)only[go_sem,Br,aE,bV h (v:= aC n) (u:=f) (w:=i) rfl o m,p,P,aJ q]
 refine (Xh _ n O R G t (k.mono j)).mono ?_
 rintro _ a ⟨rfl,b⟩
 have Q:=b.next
 have d:a.get B=bB [aC n,f,i]:=by rw[b.get B om];exact q
 have y:decide ((0:Int)≠0)=false:=rfl
 simp(disch:=omega)only[go_sem,y,aJ d]
 refine (Qv a (.fn 81 [] [.ptr B 0]) rfl o m rfl rfl).mono ?_
 rintro _ N ⟨rfl,K,L,U,A⟩
 simp(disch:=omega)only[go_sem]
 refine (Tx (c:=(O,R)) a N a.next (a.next+1) 81 [.ptr B 0] n true G f i A (fN _) om om om om K L (k.mono (j.trans b)) (QZ n (O,R) a B f i G d om (k.mono (j.trans b)))).mono ?_
 rintro F h5 ⟨z,l,sv,x,s,J⟩
 simp(disch:=omega)only[go_sem]
 exact⟨F,z,l,rfl,sv,x,s,(j.trans b).trans J⟩
def rM (n:Nat)(l:List jZ):Bool:=match l[l.length- 1]? with|none=>false|some e=>decide (iW e.1 n 0=1)
theorem lX.pos {c:jZ}{l:List jZ}(s:lX n w c l):0<l.length:=by
 have:=(vJ.1 s.hd).1;omega
theorem lX.short {h:H}{c:jZ}{i:List Nat->Prop}{ls:List (V×V)}{l:List jZ}(s:lX n w c l)(q:dO n i)(r:aV n i c.1 c.2)(al:aN (GD W h n w i) ls l):l.length<=6000:=by
 have u:=aN.length al
 have f: ∀k e,l[k]? =some e->k+iW e.1 n 0<=5999:=by
  intro k
  induction k with
  |zero=>
   intro e b;obtain⟨a,rfl⟩:=vJ.1 b;obtain⟨_,o,_⟩:=aN.get al 0 om a;have:=jE o;omega
  |succ k ih=>
   intro e b;have a:k<l.length:=by have:=(vJ.1 b).1;omega
   have j:l[k]? =some l[k]:=dD a;obtain⟨x,_,d⟩:=aN.get al k om a;obtain⟨m,p⟩:=s.st k _ _ j b;have t:=d.size q r m;have v:=ih _ j;have:iW e.1 n 0≠iW l[k].1 n 0:=λh=>p (t.2 h)
   omega
 by_cases h:l.length=0
 ·omega
 ·have:=f (l.length- 1) _ (dD om)
  omega
theorem IA {c:jZ}{G:List Nat->Prop}{ls:List (V×V)}{l:List jZ}(j:V)(h:H)(sv:SV h j 3 (Mj n ls))(al:aN (GD W h n w G) ls l)(s:lX n w c l)(v:dO n G)(x:aV n G c.1 c.2):
  Ev T 82 [j,aC 0] h (λr h'=>r= .tup [.bool (rM n l),aC 0]/\Fr h h'):=by
 refine dW Eo rfl ?_
 have m:=aN.length al
 have F:=s.pos
 have u:bL j=some (aC (ls.length:Int)):=by unfold bL;rw[SV.len sv (n:=ls.length) (jP n ls) om];rfl
 have hi:ls.length- 1<ls.length:=om
 obtain⟨y,z,i,k⟩:=My sv hi
 obtain⟨p,a,f⟩:=aN.get al (ls.length- 1) hi om
 have b:l[ls.length- 1]? =some (l[ls.length- 1]'om):=dD om
 generalize (ls[ls.length- 1]'hi)=pl at a k
 generalize (l[ls.length- 1]'om)=d at a f b
 have q:((ls.length:Nat):Int)- 1=((ls.length- 1:Nat):Int):=om
 have A:=s.short v x al
 have t:decide ((0:Int)≠0)=false:=rfl
 simp(disch:=omega)only[go_sem,Eo,aE,t,u,q,i.ixa,k]
 refine (yB _ n d.1 d.2 p _ a).mono ?_
 rintro _ B ⟨rfl,o⟩
 simp(disch:=omega)only[go_sem]
 refine⟨?_,o⟩
 rw[m] at b
 unfold rM
 rw[b]
 rw[show decide (((iW d.1 n 0:Nat):Int)=1)=decide (iW d.1 n 0=1) from by
  by_cases e:iW d.1 n 0=1
  ·rw[cI e,cI om]
  ·rw[bI e,bI om]]
theorem vZ (d:V)(n:Nat)(O:LN)(R:jJ)(G:List Nat->Prop)(h:H)(a:GC W h d n O R G):
  Ev T 22 [d] h (λv h'=> ∃l,lX n false (O,R) l/\v= .tup [.bool (rM n l),aC 0]/\Fr h h'):=by
 obtain⟨f,b,rfl,r,q⟩:=a.shape
 refine dW vU rfl ?_
 obtain⟨B,i⟩:=exI h.next
 obtain⟨j,y,F,m,z,c⟩:=dK i [aC n,f,b]
 simp(disch:=omega)only[go_sem,vU,aE,bV h (v:= aC n) (u:=f) (w:=b) rfl r q,i,y,aJ m]
 refine (vA _ n O R G j (a.mono c)).mono ?_
 rintro _ x ⟨p,A,l,rfl,sv,k,s,t⟩
 simp(disch:=omega)only[go_sem]
 refine (IA p x sv k s a.cY a.isc).mono ?_
 rintro _ J ⟨rfl,o⟩
 simp(disch:=omega)only[go_sem]
 exact⟨l,s,rfl,(c.trans t).trans o⟩
theorem Gq (d:V)(n:Nat)(O:LN)(R:jJ)(G:List Nat->Prop)(h:H)(a:GC W h d n O R G):
  Ev T 24 [d] h (λv h'=> ∃l,lX n true (O,R) l/\v= .tup [.bool (rM n l),aC 0]/\Fr h h'):=by
 obtain⟨f,b,rfl,r,q⟩:=a.shape
 refine dW uP rfl ?_
 obtain⟨B,i⟩:=exI h.next
 obtain⟨j,y,F,m,z,c⟩:=dK i [aC n,f,b]
 simp(disch:=omega)only[go_sem,uP,aE,bV h (v:= aC n) (u:=f) (w:=b) rfl r q,i,y,aJ m]
 refine (Pe _ n O R G j (a.mono c)).mono ?_
 rintro _ x ⟨p,A,l,rfl,sv,k,s,t⟩
 simp(disch:=omega)only[go_sem]
 refine (IA p x sv k s a.cY a.isc).mono ?_
 rintro _ J ⟨rfl,o⟩
 simp(disch:=omega)only[go_sem]
 exact⟨l,s,rfl,(c.trans t).trans o⟩
end
theorem Nn (u:V)(a:List Nat)(h:H)(Y:a.length<=1000)(y: ∀x∈a,x<256)(A:SI h u (zi a)):
  Ev T 99 [u] h (λv h'=>v= .str a/\Fr h h'):=by
 refine dW Eh rfl ?_
 obtain⟨n,s⟩:=exI a.length
 have G:=A.lens
 rw[aS,s] at G
 obtain⟨id,off,O,l,J⟩:=A.open
 rw[aS,s] at O l J
 simp(disch:=omega)only[go_sem,Eh,aE,G,Sj h n om]
 have o:Fr h (h.new (.cells false (rc n λ_=> .int .u8 0))):=(Fr.refl h).new _
 have c:(h.new (.cells false (rc n λ_=> .int .u8 0))).get h.next=some (.cells false (rc n λ_=> .int .u8 0)):=H.aL ..
 have f:(h.new (.cells false (rc n λ_=> .int .u8 0))).next=h.next+1:=H.aW ..
 generalize h.new (.cells false (rc n λ_=> .int .u8 0))=U at*
 obtain⟨S,L⟩:=exI h.next
 rw[L] at c f
 rw[L]
 refine aI (λB b t=> ∃(i:Nat),(∃j:Nat->V,b= [u,j 1,.sl S 0 n (.kn n),j 3,j 4,u,aC n,aC i,j 8])/\i<=n/\
   t.get S=some (.cells false (rc n λj=>if j<i then .int .u8 ((a.getD j 0:Nat):Int) else .int .u8 0))/\t.next=S+1/\Fr h t/\B=n-i) n
  ⟨0,aB rfl,iB _,by rw[c];rfl,f,o,rfl⟩ ?_
 clear c o f
 rintro B b q ⟨i,⟨W,rfl⟩,hi,z,Q,F,rfl⟩
 simp(disch:=omega)only[go_sem]
 by_cases m:(i:Int)<(n:Int)
 ·rw[cI m]
  have d:i<n:=om
  have ci:q.cell id (off+i)=some (aC (a.getD i 0:Nat)):=by rw[F.cell (l om),J i d];congr 2;simp [zi,s,d]
  have r:=y (a.getD i 0) (bC om)
  generalize R:a.getD i 0=k at ci r
  have N:=bT (vs:=rc n λj=>if j<i then .int .u8 ((a.getD j 0:Nat):Int) else .int .u8 0) (off:=i) (by rw[iQ];exact d) q S (.int .u8 (k:Int))
  rw[lH] at N
  simp(disch:=omega)only[go_sem,O.ixa,ci,z,zG,N]
  rw[fJ i]
  refine⟨n-(i+1),om,i+1,aB rfl,om,?_,Q,F.set om _,rfl⟩
  congr 2
  refine dJ λj K=>?_
  by_cases e:j=i
  ·rw[bJ e,bJ om,e,R]
  ·rw[bU e]
   by_cases P:j<i
   ·rw[bJ P,bJ om]
   ·rw[bU P,bU om]
 rw[bI m]
 obtain rfl:i=n:=om
 have p:q.row S 0 i=some (a.map λ(x:Nat)=>V.int .u8 (x:Int)):=by
  have e:(rc i λj=>if j<i then V.int .u8 ((a.getD j 0:Nat):Int) else .int .u8 0)=a.map λ(x:Nat)=>V.int .u8 (x:Int):=Lq (by rw[iA,s]) λj K=>by
   rw[bJ K,Qy,dD om,List.getD,dD om];rfl
  unfold H.row;rw[z,e];simp only[sub];rw[bJ (by rw[iA];omega)];rw[List.drop_zero,Ro (by rw[iA];omega)]
 have w:LL q (.sl S 0 i (.kn i))=some (.str a):=by
  show (match q.row S 0 i with|some ys=>(qL ys).map V.str|none=>none)=_;rw[p];show (qL (a.map λ(x:Nat)=>V.int .u8 (x:Int))).map V.str=_;rw[Gj a y];rfl
 simp(disch:=omega)only[go_sem,HC,w]
 exact F
structure YB (n:Nat)(O:LN)(R:jJ)(G:List Nat->Prop)(L:LN)(K:List Nat)(h:H)(p:Nat):Prop where
 ex: ∃vO vR M vr,h.get p=some (.cells false [aC n,vO,vR,.mp M,vr])/\h.get M=some (.wmap .str (Jl L L.length))/\GC (λ_=>False) h (.agg [aC n,vO,vR]) n O R G/\SP h vr (K.map λr=>L.getD r [])/\M<h.next
 hL:dM O R n 0 (aX n)=L
 isK:Ab n G L K
 nx:p<h.next
theorem YB.mono {n:Nat}{O:LN}{R:jJ}{G:List Nat->Prop}{L:LN}{K:List Nat}{h h':H}{p:Nat}(l:YB n O R G L K h p)(f:Fr h h'):YB n O R G L K h' p:=by
 obtain⟨c,i,M,d,g,b,j,sp,a⟩:=l.ex;have nx:=l.nx;exact⟨⟨c,i,M,d,by rw[f.get p nx];exact g,by rw[f.get M a];exact b,j.mono f,sp.mono f,jM a f.next⟩,l.hL,l.isK,jM nx f.next⟩
theorem aaO {a b c m:V}(h:a.one=true)(i:b.one=true)(f:c.one=true)(j:m.cells= [m])(d:m.one=true):qU [aC 0,.aD,.aD,.nilm,.aD] [(0,3,.agg [a,b,c]),(3,1,m)]=some (.agg [a,b,c,m,.aD]):=by
 simp [qU,iK,putAt,h,i,f,j,d,show (V.agg [a,b,c]).cells= [a,b,c] from rfl]
theorem adW {a b:V}(d:a.one=true)(c:b.one=true)(n:Int)(M:Nat)(h:H):Ce h (.agg [aC n,a,b,.mp M,.aD])=some (.ptr h.next 0,h.new (.cells false [aC n,a,b,.mp M,.aD])):=rK h _ (by simp [d,c,show (aC n).one=true from rfl,show (V.mp M).one=true from rfl,show V.aD.one=true from rfl])
theorem SI.Ag {h h':H}{v:V}{l:List Int}{q:Nat}{n:Int}{a b m x y:V}(s:SI h v l)(G:l≠ [])(g:h.get q=bB [aC n,a,b,m,x])(g':h'.get q=bB [aC n,a,b,m,y])(A: ∀z,a≠ aC z)(J: ∀z,b≠ aC z)(F: ∀z,m≠ aC z)(nx: ∀z,x≠ aC z)(f:Fx (· =q) h h'):SI h' v l:=by
 rcases s with s|⟨id,off,len,i,N,K,o,B,w,u,p,d⟩
 ·exact .inl s
 ·by_cases e:id=q
  ·subst e
   rw[g] at u;cases u
   cases l with
   |nil=>exact absurd rfl G
   |cons z r=>
    have j: ∀(c:V) (t:List V),(∀z,c≠ aC z)->c::t≠ints (z::r):=λc t L e=>L z (List.cons.inj e).1
    match off,len,o,p,d with
    |off,0,_,_,d=>simp [ints] at d
    |0,1,o,p,d=>exact .inr ⟨id,0,1,i,false,_,o,B,jM w f.next,g',p,d⟩
    |0,k+2,_,_,d=>
     exfalso
     cases r with
     |nil=>
      have:=congrArg List.length d;simp [ints] at this
      try omega
     |cons z2 r2=>
      have:=congrArg (λl:List V=>l[1]?) d;simp [ints] at this;exact A z2 this
    |1,k+1,_,_,d=>exact absurd d (by simpa using j a _ A)
    |2,k+1,_,_,d=>exact absurd d (by simpa using j b _ J)
    |3,k+1,_,_,d=>exact absurd d (by simpa using j m _ F)
    |4,k+1,_,_,d=>exact absurd d (by simpa using j x _ nx)
    |off+5,k+1,_,_,d=>simp [ints] at d
  ·exact .inr ⟨id,off,len,i,N,K,o,B,jM w f.next,by rw[f.get id w e];exact u,p,d⟩
theorem IX {W0:Nat->Prop}(vc:V)(n:Nat)(O:LN)(R:jJ)(G:List Nat->Prop)(h:H)(gc:GC W0 h vc n O R G):
  Ev T 46 [vc] h (λv h'=> ∃p L K,v= .tup [.ptr p 0,aC 0]/\YB n O R G L K h' p/\Fr h h'):=by
 obtain⟨y,s,rfl,a5,a3⟩:=gc.shape
 refine dW tA rfl ?_
 obtain⟨A,hA⟩:=exI h.next
 obtain⟨J,e1,n1,g1,o1,f1⟩:=dK hA [aC n,y,s]
 have bx:=bV h (v:= aC n) (u:=y) (w:=s) rfl a5 a3
 have rB:=aJ g1
 obtain⟨L,hL⟩:=exI (dM O R n 0 (aX n))
 obtain⟨E,ll⟩:=dB gc.cY gc.isc
 have g4:=jE gc
 rw[hL] at E ll
 have hG:=gc.cY
 have n7:=gc.n7
 have n0:=gc.n0
 simp(disch:=omega)only[go_sem,tA,aE,bx,hA,e1,rB]
 refine (Wb _ n O R G J (gc.mono f1)).mono ?_
 rw[hL]
 rintro _ j ⟨vL,rfl,nw⟩
 obtain⟨wL,W,d1,c5,g3,W1⟩:=nw.ex
 have c7:=aN.length c5
 obtain⟨m,hm⟩:=exI L.length
 rw[hm] at c7
 have f4:=dH.lens d1 c7
 have f2:=nw.fr
 have e0:j.row A 0 3=some [aC n,y,s]:=aJ (by rw[f2.get A om];exact g1)
 simp(disch:=omega)only[go_sem]
 refine bA (λhc=>(hc rfl).elim) (λ_=>?_)
 obtain⟨X,hX⟩:=exI j.next
 simp(disch:=omega)only[go_sem,e0,f4,hX,aaO (a:= aC n) (b:=y) (c:=s) (m:= .mp (X+3)) rfl a5 a3 rfl rfl,adW a5 a3]
 obtain⟨h3,Y⟩: ∃h3:H,h3=H.mk ((H.mk ((H.mk j.tr (X+3)).new (Ob.wmap Gn.str [])).tr (X+5)).new (Ob.cells false [aC n,y,s,.mp (X+3),.aD])).tr (X+7):=⟨_,rfl⟩
 rw[←Y]
 have n3:h3.next=X+7:=by rw[Y]
 have gB:h3.get (X+5)=bB [aC n,y,s,.mp (X+3),.aD]:=by rw[Y];exact H.aL (H.mk _ (X+5)) _
 have gM:h3.get (X+3)=some (.wmap .str (Jl L 0)):=by
  rw[Y];exact (H.bG (H.mk _ (X+5)) (show X+3≠X+5 by omega) _).trans (H.aL (H.mk _ (X+3)) _)
 have f3:Fr j h3:=⟨om,λq hq=>by
  rw[Y]
  exact (H.bG (H.mk _ (X+5)) (show q≠X+5 by omega) _).trans (H.bG (H.mk _ (X+3)) (show q≠X+3 by omega) _)⟩
 clear Y
 have Q: ∀i,i<m->(L.getD i []).length<=1000/\ ∀x∈L.getD i [],x<256:=λi hi=>by
  have P:=lE hG E (show i<L.length by omega);exact⟨by rw[P.len];omega,λx hx=>by have:=P.lt x hx;omega⟩
 obtain⟨d7,c9,d3,c8,d5⟩:=SV.shape d1.sv m om om
 have e3: ∀i,i<m-> ∃vx,(∀h',Fr j h'->h'.cell d7 (c9+i)=some vx)/\SI j vx (zi (L.getD i [])):=λi hi=>by
  obtain⟨v,J,f6⟩:=dZ.at c5 (i:=i) om;exact⟨v,λh' f=>by rw[f.cell (c8 om),d5 i om,J],f6.si⟩
 have hK: ∀i,i<m->isKey .str (.str (L.getD i []))=true:=λi hi=>zJ (Q i hi).1 (Q i hi).2
 refine bQ (λvs B=>(∃g:Nat->V,vs= [g 0,.ptr A 0,.nilp,aC 0,vL,g 5,.ptr (X+5) 0,g 7,g 8,g 9,g 10,g 11,g 12,g 13,g 14,g 15,g 16,g 17,g 18,g 19])/\B.get (X+3)=some (.wmap .str (Jl L m))/\Fx (· =X+3) h3 B) ?_ ?_
 ·refine aI (λk' vs B=> ∃(i:Nat),(∃g:Nat->V,vs= [g 0,.ptr A 0,.nilp,aC 0,vL,g 5,.ptr (X+5) 0,g 7,g 8,g 9,g 10,g 11,vL,aC m,aC i,g 15,g 16,g 17,g 18,g 19])/\i<=m/\B.get (X+3)=some (.wmap .str (Jl L i))/\Fx (· =X+3) h3 B/\k'=m-i) m
   ⟨0,aB rfl,iB _,gM,Fx.refl _ h3,rfl⟩ ?_
  rintro k' b4 Z ⟨i,⟨g,rfl⟩,hi,a7,F4,rfl⟩
  by_cases a0:(i:Int)<(m:Int)
  case neg=>
   have d4:=bI a0;obtain rfl:i=m:=om
   simp(disch:=omega)only[go_sem,d4];exact⟨aB rfl,a7,F4⟩
  have d4:=cI a0
  have l:i<m:=om
  have a8:Fr j Z:=⟨by have:=F4.next;omega,λq hq=>by rw[F4.get q om om];exact f3.get q hq⟩
  have b9:Z.get (X+5)=bB [aC n,y,s,.mp (X+3),.aD]:=by rw[F4.get _ om om];exact gB
  obtain⟨vx,cx,sx⟩:=e3 i l
  have d0:Z.cell (X+5) 3=some (.mp (X+3)):=by rw[H.aF b9];rfl
  simp(disch:=omega)only[go_sem,d4,d3.ixa,cx Z a8,d0]
  refine (Nn vx (L.getD i []) _ (Q i l).1 (Q i l).2 (sx.mono (a8.trans ((Fr.refl Z).bH om)))).mono ?_
  rintro _ F ⟨rfl,f5⟩
  have b1:Fr Z F:=((Fr.refl Z).bH om).trans f5
  have n4:=F4.next
  have b5:F.get (X+3)=some (.wmap .str (Jl L i)):=by rw[b1.get _ om];exact a7
  have d9:F.cell (X+5) 3=some (.mp (X+3)):=by rw[b1.cell om];exact d0
  have pt:=λB=>AJ E.nodup (show i<L.length by omega) (hK i l) B (X+3)
  simp(disch:=omega)only[go_sem,d9,b5,pt]
  rw[fJ i]
  refine⟨by simp [dI],m-(i+1),om,i+1,aB rfl,om,rfl,⟨by have:=b1.next;show h3.next<=F.next;omega,λq J j=>by rw[H.aH _ (λe=>j e),b1.get q om];exact F4.get q J j⟩,rfl⟩
 rintro b4 Z ⟨⟨g,rfl⟩,a7,F4⟩
 have n4:=F4.next
 have a8:Fr j Z:=⟨om,λq hq=>by rw[F4.get q om om];exact f3.get q hq⟩
 have b9:Z.get (X+5)=bB [aC n,y,s,.mp (X+3),.aD]:=by rw[F4.get _ om om];exact gB
 have b7:=f2.trans a8
 have rA:=aJ (h:=Z) (id:=A) (ro:=false) (by rw[b7.get _ om];exact g1)
 simp(disch:=omega)only[go_sem,rA]
 refine (QC _ n O R G Z (gc.mono (f1.trans b7)) L hL).mono ?_
 rintro _ F ⟨vl,K,ks,rfl,ik,sl,al,f5⟩
 have lk:=aN.length al
 have kl:K.length<=5040:=mY (List.Nodup.length_le_of_subset ik.nd (l₂:=List.range L.length) λx hx=>Dj.2 (ik.lt hx)) (by rw[Xf];omega)
 have d6:bL vl=some (aC (K.length:Int)):=by unfold bL;rw[SV.len sl (n:=K.length) (by rw[tX,lk]) om];rfl
 have n5:=f5.next
 have b8:F.get (X+5)=bB [aC n,y,s,.mp (X+3),.aD]:=by rw[f5.get _ om];exact b9
 obtain⟨b0,RP,f8,d2,a9⟩:=SV.shape sl K.length (by rw[tX,lk]) om
 have b3:=b7.trans f5
 obtain⟨nO,nR⟩:(∀k z,y≠ .int k z)/\ ∀k z,s≠ .int k z:=by
  obtain⟨_,_,_,_,ev,sO,_,_,sR,_,_⟩:=gc.cw;simp only[V.agg.injEq,List.cons.injEq,true_and,and_true] at ev;rw[←ev.1] at sO;rw[←ev.2] at sR;refine⟨λk z e=>?_,λk z e=>?_⟩
  ·rw[e] at sO
   rcases sO with ⟨h|⟨_,h⟩,_⟩|⟨_,_,_,_,_,_,h,_⟩<;>cases h
  ·rw[e] at sR
   rcases sR with ⟨h|⟨_,h⟩,_⟩|⟨_,_,_,_,_,_,h,_⟩<;>cases h
 simp(disch:=omega)only[go_sem,d6]
 refine aI (λk' vs B=> ∃(i:Nat) (vr:V) (wr:List V),(∃g:Nat->V,vs= [g 0,g 1,g 2,aC 0,g 4,g 5,.ptr (X+5) 0,g 7,g 8,g 9,g 10,g 11,g 12,g 13,g 14,g 15,vl,aC (K.length:Int),aC i,g 19])/\i<=K.length/\B.get (X+5)=bB [aC n,y,s,.mp (X+3),vr]/\dH B vr 1 wr F.next/\aN (λv r=>SI F v (zi (L.getD r []))) wr (K.take i)/\Fx (· =X+5) F B/\k'=K.length-i) K.length
  ⟨0,.aD, [],aB rfl,iB _,b8,dH.aD _ _ _,trivial,Fx.refl _ F,rfl⟩ ?_
 rintro k' b4 h6 ⟨i,vr,wr,⟨g,rfl⟩,hi,b2,ow,aw,F6,rfl⟩
 have n6:=F6.next
 by_cases a0:(i:Int)<(K.length:Int)
 case neg=>
  have d4:=bI a0;obtain rfl:i=K.length:=om
  have f9:Fr h h6:=⟨by have:=f1.next;have:=b3.next;omega,λq hq=>by rw[F6.get q (by have:=b3.next;omega) (by have:=f2.next;omega),b3.get q om];exact f1.get q hq⟩
  have e6: ∀q,q<F.next->q≠X+5->h6.get q=F.get q:=λq J j=>F6.get q J j
  simp(disch:=omega)only[go_sem,d4];rw[List.take_length] at aw;have b5:F.get (X+3)=some (.wmap .str (Jl L L.length)):=by rw[f5.get _ om,a7,hm]
  have Lp: ∀r∈K,zi (L.getD r [])≠ []:=λr hr e=>by
   have P:=lE hG E (ik.lt hr);have:=congrArg List.length e;rw[aS,P.len] at this;exact absurd this (by show n≠0;omega)
  have f0:SP h6 vr (K.map λr=>L.getD r []):=by
   refine dZ.LO (W:=λ_=>False) ow.sv (aN.lI (by rw[iA];exact aN.length aw) λt J j=>?_);rw[iA] at j;rw[List.getElem_map];exact⟨SI.Ag (aN.get aw t J j) (Lp _ (xG _)) b8 b2 (nO _) (nR _) (λ_ e=>(by cases e)) (λ_ e=>(by cases e)) F6,Ct _⟩
  have d8:GC (λ_=>False) h6 (.agg [aC n,y,s]) n O R G:=by
   refine (((gc.mono f1).kO (W':=λq=>q=X+5) λq hq h=>?_).mono b3).go (W':=λ_=>False) (h':=h6) F6 λq _ h=>h.elim
   have:=f2.next;omega
  exact⟨X+5,L,K,rfl,⟨⟨y,s,X+3,vr,b2,by rw[e6 _ om om];exact b5,d8,f0,om⟩,hL,ik,om⟩,f9⟩
 have d4:=cI a0
 have l:i<K.length:=om
 have b6:i<ks.length:=om
 have e4:b0≠X+5:=λe=>by
  obtain⟨_,c1,_⟩:=Yi b6;have c2:=a9 (i*3+1) (by rw[tX];omega);rw[c1,e,H.aF b8] at c2
  match ho:RP+(i*3+1),c2 with
  |0,_=>omega
  |1,c2=>exact nO _ _ (Option.some.inj c2)
  |2,c2=>exact nR _ _ (Option.some.inj c2)
  |3,c2=>cases c2
  |4,c2=>cases c2
  |k+5,c2=>cases c2
 obtain⟨q1,q2,q3⟩:=Yi b6
 have r5:F.row b0 (RP+i*3) 3=some [ks[i].rep,aC (ks[i].ord:Int),aC (ks[i].size:Int)]:=by
  have ll:=tX ks;refine Ub ((a9 (i*3) om).trans q1) ?_ ?_
  ·have:=(a9 (i*3+1) om).trans q2
   rwa [←Nat.add_assoc] at this
  ·have:=(a9 (i*3+2) om).trans q3
   rwa [←Nat.add_assoc] at this
 have r6:h6.row b0 (RP+i*3) 3=some [ks[i].rep,aC (ks[i].ord:Int),aC (ks[i].size:Int)]:=by
  rw[←r5];unfold H.row;rw[F6.get b0 (d2 om) e4]
 have kr:=(aN.get al i b6 l).rep
 have U:=ks[i].hrep
 generalize ks[i].rep=rp at r6 kr U
 generalize ((ks[i].ord:Nat):Int)=a1 at r6
 generalize ((ks[i].size:Nat):Int)=a2 at r6
 obtain⟨D,hD⟩:=exI h6.next
 obtain⟨h7,e7,g2,g7,o7,f7⟩:=dK hD [.aD,aC 0,aC 0]
 obtain⟨N,e8,n8,g8,o8⟩:=mV h7 D [rp,aC a1,aC a2]
 have e5:N.get (X+5)=bB [aC n,y,s,.mp (X+3),vr]:=by rw[o8 _ om,o7 _ om];exact b2
 simp(disch:=omega)only[go_sem,d4,f8.ixa,r6,hD,e7,cF h7 D 0 (v:=rp) (u:= aC a1) (w:= aC a2) U.2.1 rfl rfl,g7,cH,e8,H.aF e5,H.aF g8,cK (H.mk N.tr (N.next+7)) (z:= .aD) U.1 U.2.1]
 obtain⟨h9,a4⟩: ∃h9:H,h9=H.mk ((H.mk N.tr (N.next+7)).new (Ob.cells false [rp])).tr (N.next+12):=⟨_,rfl⟩
 rw[←a4]
 have g9:h9.get (N.next+7)=bB [rp]:=by rw[a4];exact H.aL (H.mk N.tr (N.next+7)) _
 have n9:h9.next=N.next+12:=by rw[a4]
 have o9: ∀k,k≠N.next+7->h9.get k=N.get k:=λk hk=>by rw[a4];exact H.bG (H.mk N.tr (N.next+7)) hk _
 clear a4
 have c0: ∀k,k<h6.next->h9.get k=h6.get k:=λk hk=>by rw[o9 k om,o8 k om,o7 k om]
 have lw:=aN.length aw
 rw[zO,Nat.min_eq_left om] at lw
 obtain⟨c6,e9,a6⟩:=(ow.mono (h':=h9) om λq o m c e _ J=>c0 q J).push (bytes:=24) (SV.one om g9 (.kn 1)) (n:=i) (m:=1) om rfl om om om
 have g0:=a6.next
 have c3: ∀k,k<F.next->dR vr k:=λk hk id o m c e e2=>by have:=(ow.in _ _ _ _ e).2.1;omega
 have c4:c6.get (X+5)=bB [aC n,y,s,.mp (X+3),vr]:=by rw[a6.old _ om (c3 _ om),c0 _ om];exact b2
 have pt: ∀(B:H) (x:V),eU (bB [aC n,y,s,.mp (X+3),vr]) B (X+5) 4 [x]=some (B.set (X+5) (bB [aC n,y,s,.mp (X+3),x])):=λB x=>bT (by simp) B _ x
 simp(disch:=omega)only[go_sem,e9,c4,pt]
 rw[fJ i]
 refine⟨K.length-(i+1),om,i+1,_,_,aB rfl,om,rfl,(a6.own om rfl om).mono (fN _) λq o m c e _ J=>H.aH _ (by cases e;omega) _,?_,⟨by show F.next<=c6.next;omega,λq J j=>?_⟩,rfl⟩
 ·rw[eY 0 l]
  exact aN.append aw ⟨by rw[←sD (d:=0) l];exact kr,trivial⟩
 ·rw[H.aH _ j,a6.old q om (c3 q J),c0 q om]
  exact F6.get q J j
section
variable {a b c d:V}
structure Rk (L:LN)(Gd:List Nat->Prop)(r:List Nat):Prop where
 asc:r.Pairwise (· < ·)
 mem: ∀i,i∈r↔i<L.length/\Gd (L.getD i [])
theorem kV (h:H)(id off:Nat)(k:a.one=true)(i:b.one=true)(j:c.one=true)(f:d.one=true):Wz h 4 (.ptr id off) (.agg [a,b,c,d])=eU (h.get id) h id off [a,b,c,d]:=Di h id off 4 _ rfl (by simp [k,i,j,f])
theorem jS {x y z t:V}(h:H)(id:Nat):eU (some (.cells false [x,y,z,t])) h id 0 [a,b,c,d]=some (h.set id (some (.cells false [a,b,c,d]))):=by
 simp [eU,putAt]
theorem iD {h:H}{id:Nat}{ro:Bool}(f:h.get id=some (.cells ro [a,b,c,d])):h.row id 0 4=some [a,b,c,d]:=by
 simp [H.row,f,sub]
theorem acK (i:a.one=true)(f:b.one=true)(h:c.one=true):qU [aC 0,.aD,.aD,.aD] [(0,3,.agg [a,b,c])]=some (.agg [a,b,c,.aD]):=by
 simp [qU,iK,putAt,i,f,h,show (V.agg [a,b,c]).cells= [a,b,c] from rfl]
theorem aiT {G o:List Nat->Prop}{L l:LN}(t:cZ G L)(E:cZ o l)(le: ∀x,o x->G x){f:List Int}(p:f.Perm (zi (l.map λx=>L.idxOf x)))(s:f.Pairwise (· <= ·)): ∃r,f=zi r/\Rk L o r:=by
 have j: ∀x∈l,x∈L:=λx m=>(t.mem x).2 (le x ((E.mem x).1 m))
 have e:zi (f.map Int.toNat)=f:=by
  unfold zi;rw[List.map_map];refine (Xa λz A=>?_).trans (List.map_id _);have:=p.mem_iff.1 A;unfold zi at this;obtain⟨k,_,rfl⟩:=pH.1 this
  rfl
 have nd:(l.map λx=>L.idxOf x).Nodup:=by
  refine List.pairwise_map.2 (List.Pairwise.imp_of_mem (λ{a b} B w ne e=>ne ?_) E.nodup);have v:=List.getElem_idxOf (List.idxOf_lt_length_of_mem (j a B));have F:=List.getElem_idxOf (List.idxOf_lt_length_of_mem (j b w));rw[←v,←F];congr 1
 have u:(f.map Int.toNat).Perm (l.map λx=>L.idxOf x):=by
  have:=p.map Int.toNat;refine this.trans (List.Perm.of_eq ?_);unfold zi;rw[List.map_map];exact (Xa λz _=>rfl).trans (List.map_id _)
 refine⟨_,e.symm,?_,λi=>?_⟩
 ·have n:=u.nodup_iff.2 nd
  have y:(f.map Int.toNat).Pairwise (· <= ·):=List.pairwise_map.2 (s.imp λh=>Int.toNat_le_toNat h);exact (List.pairwise_and_iff.2 ⟨y,n⟩).imp λh=>Nat.lt_of_le_of_ne h.1 h.2
 ·rw[u.mem_iff,pH]
  constructor
  ·rintro⟨x,m,rfl⟩
   have q:=List.idxOf_lt_length_of_mem (j x m);refine⟨q,?_⟩;rw[List.getD,dD q,Option.getD_some,List.getElem_idxOf q];exact (E.mem x).1 m
  ·rintro⟨hi,hg⟩
   refine⟨_,(E.mem _).2 hg,?_⟩;rw[List.getD,dD hi,Option.getD_some];exact t.nodup.idxOf_getElem i hi
theorem PF {W:Nat->Prop}(T0:Nat)(vd:V)(n:Nat)(O O':LN)(R R':jJ)(G Gd:List Nat->Prop)(L:LN)(K:List Nat)(h:H)(Ag:YB n O R G L K h T0)(gd:GC W h vd n O' R' Gd)(le: ∀x,Gd x->G x):
  Ev T 102 [.ptr T0 0,vd] h (λv h'=> ∃vO vR vr r,vd= .agg [aC n,vO,vR]/\v= .agg [aC n,vO,vR,vr]/\SI h' vr (zi r)/\Rk L Gd r/\Oa (λq=>q<h.next) vr/\Fr h h'):=by
 obtain⟨vO,vR,rfl,B,y⟩:=gd.shape
 obtain⟨lO,lR,M,lr,gT,gM,gc,_,nM⟩:=Ag.ex
 refine dW sG rfl ?_
 obtain⟨E0,d9⟩:=dB gc.cY gc.isc
 rw[Ag.hL] at E0
 obtain⟨E,ll⟩:=dB gd.cY gd.isc
 have e3:=jE gd
 have n7:=gd.n7
 obtain⟨J,b7⟩:=exI (dM O' R' n 0 (aX n))
 rw[b7] at E ll
 have nT:=Ag.nx
 obtain⟨A,hA⟩:=exI h.next
 obtain⟨h1,e1,n1,g1,o1,f1⟩:=dK hA [aC n,vO,vR]
 obtain⟨h2,e2,n2,g2,o2,f2⟩:=dK n1 [aC 0,.aD,.aD,.aD]
 have F2:=f1.trans f2
 have b8:h2.get A=some (.cells false [aC n,vO,vR]):=by rw[o2 A om];exact g1
 simp(disch:=omega)only[go_sem,sG,aE,bV h (v:= aC n) (u:=vO) (w:=vR) rfl B y,hA,e1,n1,e2,aJ b8]
 refine (Wb _ n O' R' Gd h2 (gd.mono F2)).mono ?_
 rw[b7]
 rintro _ h3 ⟨vL,rfl,nw⟩
 obtain⟨wL,W,c0,b0,e0,W1⟩:=nw.ex
 have b3:=aN.length b0
 have d1:=dH.lens c0 b3
 have f3:=nw.fr
 have n3:=f3.next
 have c8:h3.get A=some (.cells false [aC n,vO,vR]):=by rw[f3.get A om];exact b8
 obtain⟨D,hD⟩:=exI h3.next
 obtain⟨h4,e4,n4,g4,o4,f4⟩:=dK hD [aC 0,.aD,.aD,.aD]
 obtain⟨Z,e5,n5,g5,o5⟩:=mV h4 D [aC n,vO,vR,.aD]
 simp(disch:=omega)only[go_sem,aJ c8,acK (a:= aC n) (b:=vO) (c:=vR) rfl B y,hD,e4,kV h4 D 0 (a:= aC n) (b:=vO) (c:=vR) (d:= .aD) rfl B y rfl,g4,jS,e5,d1]
 obtain⟨m,hm⟩:=exI J.length
 rw[hm] at b3
 have a3:Fr h3 Z:=⟨om,λq hq=>by rw[o5 q om,o4 q om]⟩
 obtain⟨c4,b9,c1,b5,c2⟩:=SV.shape c0.sv m om om
 have c6: ∀i,i<m-> ∃vx,(∀h',Fr h3 h'->h'.cell c4 (b9+i)=some vx)/\SI h3 vx (zi (J.getD i [])):=λi hi=>by
  obtain⟨v,h1,d2⟩:=dZ.at b0 (i:=i) om;exact⟨v,λh' f=>by rw[f.cell (b5 om),c2 i om,h1],d2.si⟩
 have F: ∀i,i<m->(J.getD i []).length<=1000/\ ∀x∈J.getD i [],x<256:=λi hi=>by
  have P:=lE gd.cY E (show i<J.length by omega);exact⟨by rw[P.len];omega,λx hx=>by have:=P.lt x hx;omega⟩
 have c7: ∀x∈J,x∈L:=λx hx=>(E0.mem x).2 (le x ((E.mem x).1 hx))
 have a2:Fr h h3:=F2.trans f3
 obtain⟨Y,a0⟩: ∃Y:Nat->List Int,Y=λi=>zi ((J.take i).map λx=>L.idxOf x):=⟨_,rfl⟩
 have rl: ∀i,i<=m->(Y i).length=i:=λi hi=>by rw[a0];simp [aS];omega
 refine bQ (λvs t=> ∃S,(∃g:Nat->V,vs= [g 0,g 1,g 2,.ptr (A+1) 0,g 4,.ptr D 0,g 6,g 7,g 8,g 9,g 10])/\t.get D=some (.cells false [aC n,vO,vR,.sl S 0 m (.un 1)])/\t.get S=some (.cells false (ints (Y m)))/\S<t.next/\Z.next<=S/\Fx (· =D) Z t) ?_ ?_
 ·refine aI (λk' vs t=> ∃(i:Nat) (vr:V),(∃g:Nat->V,vs= [.ptr T0 0,g 1,g 2,.ptr (A+1) 0,g 4,.ptr D 0,g 6,vL,aC m,aC i,g 10])/\i<=m/\t.get D=some (.cells false [aC n,vO,vR,vr])/\dH t vr 1 (ints (Y i)) Z.next/\(0<i-> ∃S,vr= .sl S 0 i (.un 1)/\t.get S=some (.cells false (ints (Y i)))/\S<t.next/\Z.next<=S)/\Fx (· =D) Z t/\k'=m-i) m
   ⟨0,.aD,by rw[hm];exact aB rfl,iB _,g5,by rw[a0];exact dH.aD _ _ _,λh=>absurd h om,Fx.refl _ Z,rfl⟩ ?_
  rintro k' b2 l ⟨i,vr,⟨g,rfl⟩,hi,s,ow,hS,F6,rfl⟩
  have n6:=F6.next
  by_cases a8:(i:Int)<(m:Int)
  case neg=>
   have d4:=bI a8;obtain rfl:i=m:=om
   have mp:0<i:=by
    have:=Rl ((E.mem _).2 gd.cY.one);omega
   obtain⟨S,rfl,gS,s1,s2⟩:=hS mp;simp(disch:=omega)only[go_sem,d4];exact⟨S,aB rfl,s,gS,s1,s2,F6⟩
  have d4:=cI a8
  have N:i<m:=om
  have a4:Fr h3 l:=⟨om,λq hq=>by rw[F6.get q om om];exact a3.get q hq⟩
  have a7:Fr h l:=a2.trans a4
  obtain⟨vx,cx,sx⟩:=c6 i N
  have b4:l.get T0=some (.cells false [aC n,lO,lR,.mp M,lr]):=by rw[a7.get T0 nT];exact gT
  have d0:dI vr vr=true:=ow.sv.dI
  obtain⟨j,hj⟩:=exI (L.idxOf (J.getD i []))
  have xL:J.getD i []∈L:=c7 _ (bC om)
  have jl:j<L.length:=hj▸List.idxOf_lt_length_of_mem xL
  have lj:L.getD j []=J.getD i []:=by
   rw[List.getD,dD jl,Option.getD_some];subst hj;exact List.getElem_idxOf _
  have c9:isKey .str (.str (J.getD i []))=true:=zJ (F i N).1 (F i N).2
  have lk:=λz=>Pl E0.nodup jl (by rw[lj];exact c9) z
  rw[lj] at lk
  have fb:Fr l (H.mk l.tr (l.next+13)):=(Fr.refl l).bH om
  simp(disch:=omega)only[go_sem,d4,c1.ixa,cx l a4,H.aF s,H.aF b4]
  refine (Nn vx (J.getD i []) _ (F i N).1 (F i N).2 (sx.mono (a4.trans fb))).mono ?_
  rintro _ p ⟨rfl,f7⟩
  have a1:=fb.trans f7
  have d3:l.next+13<=p.next:=f7.next
  have a5:p.get D=some (.cells false [aC n,vO,vR,vr]):=by rw[a1.get D om];exact s
  have d6:p.get T0=some (.cells false [aC n,lO,lR,.mp M,lr]):=by rw[a1.get T0 (by have:=a7.next;omega)];exact b4
  have c5:p.get M=some (.wmap .str (Jl L L.length)):=by rw[(a7.trans a1).get M nM];exact gM
  simp(disch:=omega)only[go_sem,H.aF a5,H.aF d6,d0,c5,lk,show dI (.mp M) (.mp M)=true from by simp [dI],cK (H.mk p.tr (l.next+9)) (z:= aC 0) (v:= aC j) rfl rfl]
  obtain⟨h8,U⟩: ∃h8:H,h8=H.mk ((H.mk p.tr (l.next+9)).new (Ob.cells false [aC j])).tr p.next:=⟨_,rfl⟩
  rw[←U]
  have g8:h8.get (l.next+9)=some (.cells false [aC j]):=by rw[U];exact H.aL (H.mk p.tr (l.next+9)) _
  have n8:h8.next=p.next:=by rw[U]
  have o8: ∀k,k≠l.next+9->h8.get k=p.get k:=λk hk=>by rw[U];exact H.bG (H.mk p.tr (l.next+9)) hk _
  clear U
  have a6: ∀k,k<l.next->h8.get k=l.get k:=λk hk=>by rw[o8 k om,a1.get k hk]
  have li:=rl i om
  obtain⟨h9,a9,p9⟩:=(ow.mono (h':=h8) om λq o m c e _ h1=>a6 q h1).push (bytes:=8) (SV.one om g8 (.kn 1)) (n:=i) (m:=1) (by rw[aP];omega) rfl om om om
  have n9:=p9.next
  have b1: ∀k,k<Z.next->dR vr k:=λk hk id o m c e e2=>by have:=(ow.in _ _ _ _ e).2.1;omega
  have d7:h9.get D=some (.cells false [aC n,vO,vR,vr]):=by rw[p9.old _ om (b1 _ om),a6 _ om];exact s
  have pt: ∀(t:H) (x:V),eU (some (.cells false [aC n,vO,vR,vr])) t D 3 [x]=some (t.set D (some (.cells false [aC n,vO,vR,x]))):=λt x=>bT (by simp) t _ x
  simp(disch:=omega)only[go_sem,a9,d7,pt]
  rw[fJ i]
  have er:ints (Y i)++ [aC j]=ints (Y (i+1)):=by
   rw[a0];simp only;rw[eY [] om,List.map_append,List.map_singleton,hj];simp [zi,ints]
  have pg:=p9.get
  have po:=p9.own (b:=Z.next) (by rw[aP];omega) rfl om
  rw[er] at pg po
  refine⟨m-(i+1),om,i+1,_,aB rfl,om,rfl,po.mono (fN _) λq o m c e _ h1=>H.aH _ (by cases e;omega) _,λ_=>⟨_,rfl,(H.aH _ om _).trans pg,by show h8.next<h9.next;omega,om⟩,⟨by show Z.next<=h9.next;omega,λq h1 h2=>?_⟩,rfl⟩
  rw[H.aH _ h2,p9.old q om (b1 q h1),a6 q om]
  exact F6.get q h1 h2
 rintro b2 l ⟨S,⟨g,rfl⟩,s,gS,s1,s2,F6⟩
 have n6:=F6.next
 simp(disch:=omega)only[go_sem,H.aF s]
 have b6:=rl m (fN _)
 refine Ev.mono (Q:=λ_ h'=> ∃l',h'.get S=some (.cells false (ints l'))/\l'.Perm (Y m)/\l'.Pairwise (· <= ·)/\Fx (· =S) l h') (by have:=Mw l S (Y m) (.un 1) om gS s1;rwa [b6] at this) ?_
 rintro _ p ⟨l',d5,pm,so,F7⟩
 have a5:p.get D=some (.cells false [aC n,vO,vR,.sl S 0 m (.un 1)]):=by rw[F7.get D om om];exact s
 obtain⟨r,rfl,rk⟩:=aiT E0 E le (by rw[a0] at pm;simp only[←hm,List.take_length] at pm;exact pm) so
 have d8:(zi r).length=m:=by rw[pm.length_eq,b6]
 have d3:=F7.next
 have c3:p.get (A+1)=some (.cells false [aC 0,.aD,.aD,.aD]):=by rw[F7.get _ om om,F6.get _ om om,a3.get _ om,f3.get _ om];exact g2
 obtain⟨h8,e8,n8,g8,o8⟩:=mV p (A+1) [aC n,vO,vR,.sl S 0 m (.un 1)]
 simp(disch:=omega)only[go_sem,iD a5,kV p (A+1) 0 (a:= aC n) (b:=vO) (c:=vR) (d:= .sl S 0 m (.un 1)) rfl B y rfl,c3,jS,e8,iD g8]
 refine⟨vO,vR,_,r,rfl,rfl,SV.all (by rw[aP,d8,tW]) om (by rw[o8 S om];exact d5) _,rk,λ(e:S<A)=>by have:=a2.next;omega,⟨om,λq hq=>?_⟩⟩
 rw[o8 q om,F7.get q om om,F6.get q om om,a3.get q om]
 exact a2.get q hq
end
set_option maxRecDepth 100000
theorem dbl {n:Nat}{G K:List Nat->Prop}{L M:LN}(d:dO n G)(k:dO n K)(E:cZ G L)(F:cZ K M)(h: ∀y,G y->K y){x:List Nat}(j:K x)(nx: ¬G x):2*L.length<=M.length:=by
 have X:=k.bF j
 have nd:(L++L.map (aM x)).Nodup:=by
  refine List.nodup_append.2 ⟨E.nodup,?_,λa i b f e=>?_⟩
  ·refine List.pairwise_map.2 (List.Pairwise.imp_of_mem (λ{a b} i f ne e=>ne ?_) E.nodup)
   exact Bg (d.bF ((E.mem a).1 i)) (d.bF ((E.mem b).1 f)) X e
  ·obtain⟨y,c,rfl⟩:=pH.1 f
   have Y:=(E.mem y).1 c;have A:=(E.mem a).1 i;rw[e] at A;have:=d.mul A (d.inv Y);rw[aG X (d.bF Y) (d.bF Y).inv,cG (d.bF Y),aZ X] at this;exact nx this
 have:=List.Nodup.length_le_of_subset nd (l₂:=M) λy c=>(F.mem y).2 (by
  rcases oD.1 c with c|c
  ·exact h y ((E.mem y).1 c)
  ·obtain⟨z,l,rfl⟩:=pH.1 c
   exact k.mul j (h z ((E.mem z).1 l)))
 rw[iV,iA] at this;omega
def Mk (n:Nat)(G K:List Nat->Prop)(x:List Nat):List Nat->Prop:=NC n (λa=>K a∨a=x) G
def RG (L:LN)(r:List Nat)(x:List Nat):Prop:= ∃i,i∈r/\L.getD i []=x
section
variable {n:Nat} {G K K':List Nat->Prop} {O O':LN} {R R':jJ} {x y:List Nat} {L:LN} {r r':List Nat}
theorem Mk.cY (c:dO n G)(le: ∀x,K x->G x)(d:G x):dO n (Mk n G K x):=
 NC.cY (λa h=>c.bF (h.elim (le a) λe=>by rw[e];exact d)) λb h=>c.bF h
theorem Mk.le (c:dO n G)(le: ∀x,K x->G x)(f:G x)(h:Mk n G K x y):G y:=
 NC.le h c (λa h=>h.elim (le a) λe=>by rw[e];exact f) λy b i d=>c.mul (c.mul (c.inv d) i) d
theorem abZ (j:dO n G)(c:aV n G O R)(p:dO n K)(d:aV n K O' R')(le: ∀x,K x->G x)(m:G x)(y:List Nat):NC n (· ∈cE R'++ [x]) (· ∈cE R) y↔Mk n G K x y:=by
 have q: ∀a,a∈cE R'++ [x]->aY n a:=λa k=>(oD.1 k).elim (λh=>p.bF (bE d h)) λh=>by rw[List.mem_singleton.1 h];exact j.bF m
 have o: ∀b,b∈cE R->aY n b:=λb h=>j.bF (bE c h)
 constructor
 ·intro h
  exact NC.le h (Mk.cY j le m) (λa k=>(oD.1 k).elim (λh=>NC.of (.inl (bE d h))) λh=>NC.of (.inr (List.mem_singleton.1 h))) λy b f i=>NC.cj f (bE c i)
 ·intro h
  have l:=NC.cY q o;refine NC.le h l ?_ λy b f i=>Nu l o (λy b f i=>NC.cj f i) (oG j c i) y f
  rintro a (h|rfl)
  ·exact bM.le l (λg s=>NC.of (oD.2 (.inl s))) (oG p d h)
  ·exact NC.of (oD.2 (.inr (List.mem_singleton.2 rfl)))
theorem Mk.iff (e: ∀x,K x↔K' x)(y:List Nat):Mk n G K x y↔Mk n G K' x y:=by
 have:K=K':=funext λx=>propext (e x)
 rw[this]
theorem Rk.uniq (a:Rk L K r)(b:Rk L K r'):r=r':=pL a.asc b.asc λi=>(a.mem i).trans (b.mem i).symm
theorem Rk.iff (E:cZ G L)(le: ∀x,K x->G x)(a:Rk L K r)(x:List Nat):K x↔RG L r x:=by
 constructor
 ·intro h
  obtain⟨i,hi,rfl⟩:=Ad.1 ((E.mem x).2 (le x h));have e:L.getD i []=L[i]:=by rw[List.getD,dD hi];rfl
  exact⟨i,(a.mem i).2 ⟨hi,by rw[e];exact h⟩,e⟩
 ·rintro⟨i,hi,rfl⟩
  exact ((a.mem i).1 hi).2
theorem Rk.self (a:Rk L K r)(E:cZ G L):Rk L (RG L r) r:=⟨a.asc,λi=>⟨λh=>⟨((a.mem i).1 h).1,i,h,rfl⟩,λ⟨hi,j,hj,e⟩=>by
 have b:=((a.mem j).1 hj).1;rw[List.getD,dD b,List.getD,dD hi] at e;have:j=i:=(List.getElem_inj E.nodup).1 e
 rw[←this];exact hj⟩⟩
theorem Rk.len (f:dO n K)(d:aV n K O' R')(E:cZ G L)(le: ∀x,K x->G x)(a:Rk L K r):r.length=iW O' n 0:=by
 obtain⟨F,e⟩:=dB f d;rw[←e]
 have p:(r.map λi=>L.getD i []).Perm (dM O' R' n 0 (aX n)):=by
  refine (List.perm_ext_iff_of_nodup ?_ F.nodup).2 λx=>?_
  ·refine List.pairwise_map.2 (List.Pairwise.imp_of_mem (λ{i j} hi h (ne:i<j) e=>?_) a.asc)
   have b:=((a.mem i).1 hi).1;have c:=((a.mem j).1 h).1;rw[List.getD,dD b,List.getD,dD c] at e;have:=(List.getElem_inj E.nodup).1 e;omega
  ·rw[F.mem,a.iff E le,pH]
   rfl
 have:=p.length_eq;rwa [iA] at this
end
open Classical in
noncomputable def Lf (L:LN)(K:List Nat->Prop):List Nat:=(List.range L.length).filter λi=>decide (K (L.getD i []))
open Classical in
theorem zH (L:LN)(K:List Nat->Prop):Rk L K (Lf L K):=⟨List.pairwise_lt_range.filter _,λi=>by
 unfold Lf
 rw[Rq,Dj,Ak]⟩
noncomputable def Ai (n:Nat)(G:List Nat->Prop)(L:LN)(r:List Nat)(i:Nat):List Nat:=Lf L (Mk n G (RG L r) (L.getD i []))
def uD (l:LN)(a:List Nat):LN:=if a∈l then l else l++ [a]
noncomputable def fdF (n:Nat)(G:List Nat->Prop)(L:LN)(r:List Nat)(K:List Nat):LN:=K.foldl (λl i=>if i∈r then l else uD l (Ai n G L r i)) []
def Xp (l:LN)(a:List Nat):Bool:=l.any λb=>decide (b.length<a.length)&&b.all λi=>decide (i∈a)
def KL (l:LN):LN:=l.filter λa=>!Xp l a
def kW:List Nat->List Nat->Bool
 | [], []=>false
 | [],_::_=>true
 |_::_, []=>false
 |a::l,b::m=>if a=b then kW l m else decide (a<b)
def JE:LN->List Nat
 | []=> []
 |a::l=>l.foldl (λm x=>if kW x m then x else m) a
noncomputable def Qx (n:Nat)(G:List Nat->Prop)(L:LN)(K:List Nat)(r:List Nat):List Nat:=JE (KL (fdF n G L r K))
theorem yI {l:LN}{a x:List Nat}:x∈uD l a↔x∈l∨x=a:=by
 unfold uD;split
 ·rename_i h
  exact⟨.inl,λk=>k.elim id λe=>by rw[e];exact h⟩
 ·simp
theorem Gu {n:Nat}{G:List Nat->Prop}{L:LN}{r K:List Nat}{x:List Nat}:x∈fdF n G L r K↔ ∃i,i∈K/\i∉r/\x=Ai n G L r i:=by
 have d: ∀(K:List Nat) (l:LN),x∈K.foldl (λl i=>if i∈r then l else uD l (Ai n G L r i)) l↔x∈l∨ ∃i,i∈K/\i∉r/\x=Ai n G L r i:=by
  intro K
  induction K with
  |nil=>intro l;simp
  |cons k K ih=>
   intro l;rw[List.foldl_cons,ih];split
   ·rename_i h
    refine or_congr_right ⟨λ⟨i,a,b,c⟩=>⟨i,wI _ a,b,c⟩,λ⟨i,a,b,c⟩=>?_⟩;rcases vI.1 a with rfl|a
    ·exact absurd h b
    ·exact⟨i,a,b,c⟩
   ·rename_i h
    rw[yI,or_assoc];refine or_congr_right ⟨?_,λ⟨i,a,b,c⟩=>?_⟩
    ·rintro (e|⟨i,a,b,c⟩)
     ·exact⟨k,tQ,h,e⟩
     ·exact⟨i,wI _ a,b,c⟩
    ·rcases vI.1 a with rfl|a
     ·exact .inl c
     ·exact .inr ⟨i,a,b,c⟩
 exact (d K []).trans (by simp)
theorem YZ: ∀{l:LN},l≠ []->JE l∈l
 |a::l,_=>by
  have c: ∀(l:LN) (a:List Nat),l.foldl (λm x=>if kW x m then x else m) a=a∨l.foldl (λm x=>if kW x m then x else m) a∈l:=by
   intro l
   induction l with
   |nil=>exact λa=> .inl rfl
   |cons b l ih=>
    intro a;rw[List.foldl_cons];split
    ·exact .inr ((ih b).elim (λe=>by rw[e];exact tQ) (wI _))
    ·exact (ih a).imp id (wI _)
  show l.foldl _ a∈_;exact (c l a).elim (λe=>by rw[e];exact tQ) (wI _)
theorem RV {l:LN}(h:l≠ []):KL l≠ []:=by
 have c: ∀(k:Nat) (a:List Nat),a∈l->a.length<=k->KL l≠ []:=by
  intro k
  induction k with
  |zero=>
   intro a d i e
   have:a∈KL l:=Rq.2 ⟨d,by
    rw[Bool.not_eq_true'];refine List.any_eq_false.2 λb f=>?_
    simp;omega⟩
   rw[e] at this;cases this
  |succ k ih=>
   intro a d i
   by_cases h:Xp l a=true
   ·obtain⟨b,f,j⟩:=List.any_eq_true.1 h
    simp only[sE,Ak] at j;exact ih b f om
   ·intro e
    have:a∈KL l:=Rq.2 ⟨d,by simp [h]⟩;rw[e] at this;cases this
 cases l with
 |nil=>exact absurd rfl h
 |cons a l=>exact c _ a tQ (fN _)
theorem RM {W:Nat->Prop}(vc t:V)(n:Nat)(O:LN)(R:jJ)(G:List Nat->Prop)(l:LN)(h:H)(c:GC W h vc n O R G)(hl:l.length<=4096)(sl:SP h t l)(hP: ∀g∈l,aY n g):
  Ev T 107 [vc,t] h (λv h'=> ∃vr O2 R2,v= .tup [vr,aC 0]/\GC (λq=>q<h.next) h' vr n O2 R2 (NC n (· ∈l) (· ∈cE R))/\Fr h h'):=by
 obtain⟨Y,L,rfl,oO,oR⟩:=c.shape
 refine dW vQ rfl ?_
 have n0:=c.n0
 have x:=c.n7
 have hG:=c.cY
 obtain⟨B,hB⟩:=exI h.next
 obtain⟨h1,e1,n1,g1,o1,f1⟩:=dK hB [aC n,Y,L]
 obtain⟨r,e2,n2,g2,o2,f2⟩:=dK n1 [aC 0,.aD,.aD]
 have F2:=f1.trans f2
 have m: ∀i,Fr r i->i.get B=bB [aC n,Y,L]:=λi f=>by rw[f.get B om,o2 B om];exact g1
 have gA: ∀i,Fr r i->i.get (B+1)=bB [aC 0,.aD,.aD]:=λi f=>by rw[f.get _ om];exact g2
 simp(disch:=omega)only[go_sem,vQ,aE,bV h (v:= aC n) (u:=Y) (w:=L) rfl oO oR,hB,e1,n1,e2,aJ (m r (Fr.refl _))]
 refine ((c.mono F2).check).mono ?_
 rintro _ h3 ⟨rfl,Z⟩
 simp(disch:=omega)only[go_sem]
 refine bA (λU=>(U rfl).elim) (λ_=>?_)
 simp(disch:=omega)only[go_sem,H.aF (m h3 Z)]
 refine (Ms t n l h3 n0 x hl (sl.mono (F2.trans Z)) hP).mono ?_
 rintro _ h4 ⟨vm,Om,Rm,rfl,gm,f4⟩
 obtain⟨mO,mR,rfl,N,Q⟩:=gm.shape
 obtain⟨M,hM⟩:=exI h4.next
 obtain⟨h5,e5,n5,g5,o5,f5⟩:=dK hM [aC 0,.aD,.aD]
 obtain⟨d,e6,n6,g6,o6⟩:=mV h5 M [aC n,mO,mR]
 simp(disch:=omega)only[go_sem,hM,e5,cF h5 M 0 (v:= aC n) (u:=mO) (w:=mR) rfl N Q,g5,cH,e6]
 refine bA (λU=>(U rfl).elim) (λ_=>?_)
 have F:Fr h4 d:=⟨om,λq hq=>by rw[o6 q om,o5 q om]⟩
 have b:=Z.trans (f4.trans F)
 have fb: ∀k,d.next<=k->Fr d (H.mk d.tr k):=λk hk=>(Fr.refl d).bH hk
 simp(disch:=omega)only[go_sem,H.aF (m d b),aJ (m d b)]
 refine (zA _ n O R G h _ c (F2.trans (b.trans (fb _ om)))).mono ?_
 rintro va s ⟨wA,A,pA,f7⟩
 have J:=(fb _ om).trans f7
 have a:=b.trans J
 have cB:okV (s.cell B 0) (aC n)=true:=by rw[H.aF (m s a)];simp [okV,dI]
 simp(disch:=omega)only[go_sem]
 refine⟨cB,?_⟩
 have sA:=rT hG c.isc
 have nn:n*n<=7*7:=Nat.mul_le_mul x x
 have P:SP s va (cE R):=dZ.LO (W:=λ_=>False) A.sv (aN.mono (λ_ _ p=>⟨p.si.mono (F2.trans a),Ct _⟩) pA)
 refine (Tm t va n l (cE R) s n0 x hP (λg hg=>hG.bF (bE c.isc hg)) om om (sl.mono (F2.trans a)) P).mono ?_
 rintro _ y ⟨D,rfl,hD,bd,f8⟩
 obtain⟨xO,xR,O2,R2,gD,j⟩:=bd.ex
 obtain⟨_,K,z⟩:=j.one
 have o:=a.trans f8
 obtain⟨h9,e9,n9,g9,o9⟩:=mV y (B+1) [aC n,xO,xR]
 simp(disch:=omega)only[go_sem,aJ gD,cF y (B+1) 0 (v:= aC n) (u:=xO) (w:=xR) rfl K z,gA y o,cH,e9,aJ g9]
 have q2:=a.next
 have q8:=f8.next
 refine⟨_,O2,R2,rfl,?_,⟨om,λq hq=>by rw[o9 q om,o.get q om];exact F2.get q hq⟩⟩
 exact j.go ⟨om,λq h1 r=>o9 q λe=>r (.inl om)⟩ λq _ h=> .inl om
structure Nm (W:Nat->Prop)(n:Nat)(L:LN)(h:H)(p:V×V×V)(r:List Nat):Prop where
 ch: ∃O R,GC W h (.agg [aC n,p.1,p.2.1]) n O R (RG L r)
 si:SI h p.2.2 (zi r)
 off:Oa W p.2.2
 rk:Rk L (RG L r) r
abbrev AY (n:Nat)(p:V×V×V):V:= .agg [aC n,p.1,p.2.1,p.2.2]
section
variable {W W':Nat->Prop} {n:Nat} {L:LN} {h h':H} {p:V×V×V} {r:List Nat}
theorem Nm.go (m:Nm W n L h p r)(f:Fx W h h')(a: ∀q,q<h.next->W' q->W q):Nm W' n L h' p r:=by
 obtain⟨O,R,g⟩:=m.ch;exact⟨⟨O,R,g.go f a⟩,SV.fx m.si m.off f,Oa.kO m.off m.si a,m.rk⟩
theorem Nm.mono (m:Nm W n L h p r)(f:Fr h h'):Nm W n L h' p r:=m.go (Fx.of f) λ_ _ h=>h
theorem Nm.one (m:Nm W n L h p r):p.1.one=true/\p.2.1.one=true/\p.2.2.one=true:=by
 obtain⟨O,R,g⟩:=m.ch;exact⟨g.one.2.1,g.one.2.2,(SV.cT m.si).2.1⟩
theorem Nm.eq (m:Nm W n L h p r):dI p.1 p.1=true/\dI p.2.1 p.2.1=true/\dI p.2.2 p.2.2=true:=by
 obtain⟨O,R,g⟩:=m.ch;obtain⟨_,_,_,_,e,a,_,_,b,_,_⟩:=g.cw;simp only[V.agg.injEq,List.cons.injEq,and_true,true_and] at e;rw[e.1,e.2];exact⟨SV.dI a,SV.dI b,SV.dI m.si⟩
theorem DQ {h h':H}(f:Fr h h'){id off k:Nat}(a:id<h.next):h'.row id off k=h.row id off k:=by
 unfold H.row;rw[f.get id a]
theorem Rk.short (m:Rk L (RG L r) r):r.length<=L.length:=by
 have:=List.Nodup.length_le_of_subset (l₂:=List.range L.length) (m.asc.imp λh=>Nat.ne_of_lt h) λi hi=>Dj.2 ((m.mem i).1 hi).1
 rwa [Xf] at this
end
theorem YB.few {n:Nat}{O:LN}{R:jJ}{G:List Nat->Prop}{L:LN}{K:List Nat}{h:H}{p:Nat}(l:YB n O R G L K h p):L.length<=5040/\cZ G L/\dO n G/\aV n G O R/\1<=n/\n<=7:=by
 obtain⟨c,f,M,d,g,b,a,sp,i⟩:=l.ex;obtain⟨E,e⟩:=dB a.cY a.isc;rw[l.hL] at E e;exact⟨by rw[e];exact jE a,E,a.cY,a.isc,a.n0,a.n7⟩
theorem gY (h:H){a b c d:V}(k:a.one=true)(i:b.one=true)(j:c.one=true)(f:d.one=true):Ce h (.agg [a,b,c,d])=some (.ptr h.next 0,h.new (.cells false [a,b,c,d])):=rK h _ (by simp [k,i,j,f])
theorem IE {W:Nat->Prop}(j:Nat)(p:V×V×V)(u:V)(n:Nat)(O:LN)(R:jJ)(G:List Nat->Prop)(L:LN)(K r:List Nat)(i:Nat)(h:H)(Ag:YB n O R G L K h j)(m:Nm W n L h p r)(hi:i<L.length)(A:SI h u (zi (L.getD i []))):
  Ev T 48 [.ptr j 0,AY n p,u] h (λv h'=>v= .bool (decide (i∈r))/\Fr h h'):=by
 obtain⟨o1,o2,o3⟩:=m.one
 obtain⟨ll,E,hG,a0,n0,n7⟩:=Ag.few
 obtain⟨J,N,M,Y,gT,gM,gc,_,nM⟩:=Ag.ex
 have nT:=Ag.nx
 have rl:=m.rk.short
 refine dW rR rfl ?_
 obtain⟨B,U⟩:=exI h.next
 obtain⟨q,e1,n1,g1,q1,l⟩:=dK U [aC n,p.1,p.2.1,p.2.2]
 have P:=lE hG E hi
 have Q:(L.getD i []).length<=1000:=by rw[P.len];omega
 have Z: ∀x∈L.getD i [],x<256:=λx A=>by have:=P.lt x A;omega
 have o:q.get j=some (.cells false [aC n,J,N,.mp M,Y]):=by rw[l.get j nT];exact gT
 simp(disch:=omega)only[go_sem,rR,aE,gY h (a:= aC n) (b:=p.1) (c:=p.2.1) (d:=p.2.2) rfl o1 o2 o3,U,e1,H.aF g1,H.aF o]
 refine (Nn u (L.getD i []) _ Q Z (A.mono (l.trans ((Fr.refl q).bH om)))).mono ?_
 rintro _ s ⟨rfl,f2⟩
 have f:=((Fr.refl q).bH (n:=q.next+15) om).trans f2
 have y:s.get B=some (.cells false [aC n,p.1,p.2.1,p.2.2]):=by rw[f.get B om];exact g1
 have t:s.get j=some (.cells false [aC n,J,N,.mp M,Y]):=by rw[f.get j om];exact o
 have F:s.get M=some (.wmap .str (Jl L L.length)):=by rw[(l.trans f).get M nM];exact gM
 have lk:=λz=>Pl E.nodup hi (zJ Q Z) z
 have w:dI p.2.2 p.2.2=true:=SV.dI m.si
 simp(disch:=omega)only[go_sem,H.aF y,H.aF t,F,lk,w,show dI (.mp M) (.mp M)=true from by simp [dI]]
 refine (Gi p.2.2 r i s om m.rk.asc (m.si.mono (l.trans f))).mono ?_
 rintro _ h3 ⟨k,b,rfl,hb,_,f3⟩
 simp(disch:=omega)only[go_sem]
 refine⟨?_,l.trans (f.trans f3)⟩
 congr 1
 exact DW.2 (hb.trans Ak.symm)
theorem HU (t:Nat)(n:Nat)(O:LN)(R:jJ)(G:List Nat->Prop)(L:LN)(K:List Nat)(h:H)(Ag:YB n O R G L K h t):
  Ev T 47 [.ptr t 0] h (λv h'=> ∃p,v=AY n p/\Nm (λq=>q<h.next) n L h' p (Lf L λx=>x=aX n)/\Fr h h'):=by
 obtain⟨ll,E,hG,a3,n0,n7⟩:=Ag.few
 obtain⟨lO,lR,M,lr,gT,gM,gc,_,nM⟩:=Ag.ex
 have nT:=Ag.nx
 refine dW oN rfl ?_
 obtain⟨B,hB⟩:=exI h.next
 obtain⟨l,N,n1,g1,q1,P⟩:=dK hB [aC 0,.aD,.aD,.aD]
 have Z:l.get t=some (.cells false [aC n,lO,lR,.mp M,lr]):=by rw[P.get t nT];exact gT
 simp(disch:=omega)only[go_sem,oN,aE,hB,N,H.aF Z]
 refine (Ms .aD n [] l n0 n7 (by show 0<=4096;omega) ⟨[],SV.aD l 1,trivial⟩ (λg hg=>by cases hg)).mono ?_
 rintro _ z ⟨vm,Om,Rm,rfl,gm,m⟩
 obtain⟨j,k,rfl,o,s⟩:=gm.shape
 obtain⟨A,hA⟩:=exI z.next
 obtain⟨h3,e3,n3,g3,o3,f3⟩:=dK hA [aC 0,.aD,.aD]
 obtain⟨h4,e4,n4,g4,o4⟩:=mV h3 A [aC n,j,k]
 have f:Fr z h4:=⟨om,λq hq=>by rw[o4 q om,o3 q om]⟩
 simp(disch:=omega)only[go_sem,hA,e3,cF h3 A 0 (v:= aC n) (u:=j) (w:=k) rfl o s,g3,cH,e4,aJ g4]
 have N: ∀x,bM n (· ∈([]:LN)) x↔x=aX n:=λx=>⟨λh=>by
  have e: ∀g,g∈([]:LN)->g=aX n:=λg hg=>by cases hg
  have r:=bM.le (Um n) e h
  exact r,λh=>by rw[h];exact .one⟩
 have F:=P.trans (m.trans f)
 refine (PF t _ n O Om R Rm G _ L K h4 (Ag.mono F) (((gm.kO (W':=λ_=>False) λ_ _ h=>h.elim).mono f).congr N) (λx Y=>by rw[Y];exact hG.one)).mono ?_
 rintro _ J ⟨vO,vR,Q,r,e5,rfl,sr,rk,U,y⟩
 obtain⟨rfl,rfl⟩:j=vO/\k=vR:=by simpa using e5
 obtain rfl:=rk.uniq (zH _ _)
 have oR:=(SV.cT sr).2.1
 have gB:J.get B=some (.cells false [aC 0,.aD,.aD,.aD]):=by rw[y.get B (by have:=m.next;omega),f.get B (by have:=m.next;omega),m.get B om];exact g1
 obtain⟨h6,e6,n6,g6,o6⟩:=mV J B [aC n,j,k,Q]
 simp(disch:=omega)only[go_sem,kV J B 0 (a:= aC n) (b:=j) (c:=k) (d:=Q) rfl o s oR,gB,jS,e6,iD g6]
 have a1:=m.next
 have a2:=y.next
 have Fb:Fx (· =B) J h6:=⟨om,λq l z=>o6 q z⟩
 have a0:=((((gm.mono f).mono y).go (Fx.wide Fb λq (e:q=B)=>(by omega:q<l.next)) (W':=λq=>q<B) λq _ h=>(by have:q<B:=h;omega:q<l.next)).congr N).congr (rk.iff E λx Y=>by rw[Y];exact hG.one)
 have i:=Oa.kO (W':=λq=>q<B∨q=B) U sr λq _ h=>(by have:q<B∨q=B:=h;omega:q<h4.next)
 refine⟨(j,k,Q),rfl,⟨⟨Om,Rm,a0⟩,SV.fx sr i (Fx.wide Fb λq h=> .inr h),Oa.kO i sr λq _ h=> .inl h,rk.self E⟩,⟨om,λq hq=>by rw[o6 q om,y.get q om,f.get q om,m.get q om];exact P.get q hq⟩⟩
theorem Zs {W:Nat->Prop}(T0:Nat)(p:V×V×V)(vx:V)(n:Nat)(O:LN)(R:jJ)(G:List Nat->Prop)(L:LN)(K r:List Nat)(i:Nat)(h:H)(Ag:YB n O R G L K h T0)(nm:Nm W n L h p r)(hi:i<L.length)(y:SI h vx (zi (L.getD i []))):
  Ev T 50 [.ptr T0 0,AY n p,vx] h (λv h'=> ∃q,v=AY n q/\Nm (λq=>q<h.next) n L h' q (Ai n G L r i)/\Fr h h'):=by
 obtain⟨o1,o2,o3⟩:=nm.one
 obtain⟨ll,E,hG,b4,n0,n7⟩:=Ag.few
 obtain⟨lO,lR,M,lr,gT,gM,gc,_,nM⟩:=Ag.ex
 obtain⟨_,oO,oR⟩:=gc.one
 have nT:=Ag.nx
 obtain⟨Op,Rp,J⟩:=nm.ch
 refine dW pZ rfl ?_
 obtain⟨B,hB⟩:=exI h.next
 obtain⟨h1,e1,n1,g1,q1,f1⟩:=dK hB [aC n,p.1,p.2.1,p.2.2]
 obtain⟨l,e2,n2,g2,q2,f2⟩:=dK n1 [aC 0,.aD,.aD,.aD]
 have F2:=f1.trans f2
 have gB: ∀j,Fr l j->j.get B=some (.cells false [aC n,p.1,p.2.1,p.2.2]):=λj f=>by rw[f.get B om,q2 B om];exact g1
 have gA: ∀j,Fr l j->j.get (B+1)=some (.cells false [aC 0,.aD,.aD,.aD]):=λj f=>by rw[f.get _ om];exact g2
 have a1: ∀j,Fr l j->j.get T0=some (.cells false [aC n,lO,lR,.mp M,lr]):=λj f=>by rw[f.get _ om,F2.get T0 nT];exact gT
 have b0: ∀{j:H} {id:Nat} {a b c d:V},j.get id=some (.cells false [a,b,c,d])->j.row id 0 3=some [a,b,c]:=λhg=>by simp [H.row,hg,sub]
 have a8: ∀{j:H} {id:Nat} {a b c d e:V},j.get id=some (.cells false [a,b,c,d,e])->j.row id 0 3=some [a,b,c]:=λhg=>by simp [H.row,hg,sub]
 simp(disch:=omega)only[go_sem,pZ,aE,gY h (a:= aC n) (b:=p.1) (c:=p.2.1) (d:=p.2.2) rfl o1 o2 o3,hB,e1,n1,e2,b0 (gB l (Fr.refl _))]
 refine (Sd _ n Op Rp _ l (J.mono F2)).mono ?_
 rintro _ k ⟨vs,rfl,nl⟩
 have f3:=nl.fr
 obtain⟨ws,W1,ow,pv,bk,lW⟩:=nl.ex
 have lw:=aN.length pv
 have sl:=rT J.cY J.isc
 have nn:n*n<=7*7:=Nat.mul_le_mul n7 n7
 have wx:=SV.cT y
 obtain⟨C,hC⟩:=exI k.next
 simp(disch:=omega)only[go_sem,a8 (a1 k f3),cK (H.mk k.tr (k.next+6)) (z:= .aD) wx.1 wx.2.1]
 obtain⟨h4,e4,n4,g4,o4⟩:=KW k (k.next+6) (k.next+15) [vx]
 rw[e4]
 have a7:Fr k h4:=⟨om,λq Q=>o4 q om⟩
 obtain⟨F,a5,p5⟩:=((ow.fr a7).le (iB _)).push (bytes:=24) (SV.one om g4 (.kn 1)) (n:=(cE Rp).length) (m:=1) om rfl om om om
 have n5:=p5.next
 have b9:=f3.next
 have vb: ∀id s m c,vs= .sl id s m c->l.next<=id:=λid s m c e=>(ow.in _ _ _ _ e).2.1
 have o:Fr l F:=⟨om,λq Q=>by rw[p5.old q om (λid s m c e e2=>by have:=vb _ _ _ _ e;omega),o4 q om,f3.get q Q]⟩
 have ec:dI lO lO=true/\dI lR lR=true:=by
  obtain⟨_,_,_,_,e,sO,_,_,sR,_,_⟩:=gc.cw;cases e;exact⟨SV.dI sO,SV.dI sR⟩
 simp(disch:=omega)only[go_sem,a5,a8 (a1 F o),ec.1,ec.2]
 have a4:Fx W1 h4 F:=p5.fx λid s m c e=>bk _ _ _ _ e
 have sw:SP F (.sl h4.next 0 ((cE Rp).length+1) (.un 1)) (cE Rp++ [L.getD i []]):=dZ.LO (W:=λ_=>False) (p5.own om rfl (iB _)).sv (aN.append (aN.mono (λ_ _ p=>⟨SV.fx (p.si.mono a7) (W:=W1) p.off a4,Ct _⟩) pv) ⟨⟨y.mono (F2.trans o),Ct _⟩,trivial⟩)
 have le: ∀x,RG L r x->G x:=λx y=>by
  obtain⟨i,hi,rfl⟩:=y;exact (E.mem _).1 (bC ((nm.rk.mem i).1 hi).1)
 have t:G (L.getD i []):=(E.mem _).1 (bC hi)
 refine (RM _ _ n O R G (cE Rp++ [L.getD i []]) F (gc.mono (F2.trans o)) (by rw[iV];show _+1<=4096;omega) sw (λg hg=>(oD.1 hg).elim (λh=>J.cY.bF (bE J.isc h)) λh=>by rw[List.mem_singleton.1 h];exact hG.bF t)).mono ?_
 rintro _ h6 ⟨vr,O2,R2,rfl,P,f6⟩
 obtain⟨Y,U,rfl,a6,Z⟩:=P.shape
 have n6:=f6.next
 obtain⟨h7,e7,c1,g7,o7⟩:=KW h6 (k.next+12) h6.next [aC 0,.aD,.aD]
 obtain⟨h8,e8,n8,g8,o8⟩:=mV h7 (k.next+12) [aC n,Y,U]
 simp(disch:=omega)only[go_sem,e7,cF h7 (k.next+12) 0 (v:= aC n) (u:=Y) (w:=U) rfl a6 Z,g7,cH,e8,aJ g8]
 have a3:Fr l h8:=⟨om,λq Q=>by rw[o8 q om,o7 q om,f6.get q om,o.get q Q]⟩
 have A:Fx (· =k.next+12) h6 h8:=⟨om,λq h1 l=>by rw[o8 q l,o7 q l]⟩
 have eN:=abZ hG b4 J.cY J.isc le t
 refine (PF T0 _ n O O2 R R2 G _ L K h8 (Ag.mono (F2.trans a3)) ((P.go (Fx.wide A λq (e:q=k.next+12)=>(by omega:q<F.next)) (W':=λ_=>False) λ_ _ h=>h.elim).congr eN) (λx y=>Mk.le hG le t y)).mono ?_
 rintro _ h9 ⟨vO,vR,vr,r',e9,rfl,sr,rk,a9,f9⟩
 obtain⟨rfl,rfl⟩:Y=vO/\U=vR:=by simpa using e9
 obtain rfl:=rk.uniq (zH _ _)
 have b5:=(SV.cT sr).2.1
 have N:=a3.trans f9
 obtain⟨b1,b2,b8,b6,a2⟩:=mV h9 (B+1) [aC n,Y,U,vr]
 simp(disch:=omega)only[go_sem,kV h9 (B+1) 0 (a:= aC n) (b:=Y) (c:=U) (d:=vr) rfl a6 Z b5,gA h9 N,jS,b2,iD b6]
 have b7:=N.next
 have c0:=f9.next
 have Fb:Fx (· =B+1) h9 b1:=⟨om,λq h1 l=>a2 q l⟩
 have b3: ∀x,Mk n G (RG L r) (L.getD i []) x->G x:=λx y=>Mk.le hG le t y
 have hw: ∀q,(q<B∨q=B+1)->q<h8.next:=λq Q=>om
 have gq:=((((P.go (Fx.wide A λq (e:q=k.next+12)=>(by omega:q<F.next)) (W':=λq=>q<B∨q=B+1) λq _ h=>(by have:q<B∨q=B+1:=h;omega:q<F.next)).mono f9).go (Fx.wide Fb λq h=> .inr h) (W':=λq=>q<B) λq _ h=> .inl h).congr eN).congr (rk.iff E b3)
 have a0:=Oa.kO (W':=λq=>q<B∨q=B+1) a9 sr λq _ h=>hw q h
 refine⟨(Y,U,vr),rfl,⟨⟨O2,R2,gq⟩,SV.fx sr a0 (Fx.wide Fb λq h=> .inr h),Oa.kO a0 sr λq _ h=> .inl h,rk.self E⟩,⟨om,λq Q=>by rw[a2 q om,N.get q om];exact F2.get q Q⟩⟩
section
variable {α:Type} {f:α->List V} {k:Nat}
theorem tS (b: ∀x,(f x).length=k): ∀ls:List α,(ls.flatMap f).length=ls.length*k
 | []=>by simp
 |a::l=>by rw[List.flatMap_cons,iV,b,tS b l,List.length_cons,Nat.succ_mul];omega
theorem DX (b: ∀x,(f x).length=k): ∀(ls:List α) (i:Nat) (hi:i<ls.length),((ls.flatMap f).drop (i*k)).take k=f ls[i]
 |a::l,0,_=>by rw[List.flatMap_cons,Nat.zero_mul,List.drop_zero,←b a,List.take_left];rfl
 |a::l,i+1,hi=>by
  have:=DX b l i (by simpa using hi);rw[List.flatMap_cons,show (i+1)*k=(f a).length+i*k from by rw[b,Nat.succ_mul];omega,List.drop_append,List.drop_eq_nil_of_le om,List.nil_append,Nat.add_sub_cancel_left];exact this
theorem SV.rec {h:H}{v:V}(d:0<k)(n: ∀x,(f x).length=k){ls:List α}(s:SV h v k (ls.flatMap f)){i:Nat}(hi:i<ls.length): ∃id off,Sl v k ls.length id off/\h.row id (off+i*k) k=some (f ls[i])/\id<h.next:=by
 have b:=tS n ls;obtain⟨id,off,l,_,_⟩:=s.shape ls.length b d;refine⟨id,off,l,?_⟩;have o:(i+1)*k<=ls.length*k:=Nat.mul_le_mul_right k om;rw[Nat.succ_mul] at o;rcases s with ⟨_,s⟩|⟨j,c,len,u,z,w,rfl,m,t,q,y,p⟩
 ·rw[s] at b
  have:0=ls.length*k:=b;omega
 ·have e:=l.ixa .i64 0 om om
  obtain⟨rfl,rfl⟩:j=id/\c=off:=by
   have a:len=ls.length:=Nat.eq_of_mul_eq_mul_right d (m.symm.trans b);have r:0<len:=om
   simpa [Gr,r] using e
  have a:len=ls.length:=Nat.eq_of_mul_eq_mul_right d (m.symm.trans b);subst a;refine⟨?_,t⟩;unfold H.row;rw[q];simp only[sub];rw[bJ om,←DX n ls i hi,←p,List.drop_take,List.take_take,Nat.min_eq_left om,List.drop_drop]
end
abbrev Bz (n:Nat)(p:V×V×V):List V:= [aC n,p.1,p.2.1,p.2.2]
def Ae (n:Nat)(ps:List (V×V×V)):List V:=ps.flatMap (Bz n)
theorem mS (n:Nat)(ps:List (V×V×V)):(Ae n ps).length=ps.length*4:=tS (k:=4) (f:=Bz n) (λ_=>rfl) ps
theorem Wg (n:Nat)(a b:List (V×V×V)):Ae n (a++b)=Ae n a++Ae n b:=by unfold Ae;rw[List.flatMap_append]
theorem Mq {h:H}{v:V}{n:Nat}{ps:List (V×V×V)}(s:SV h v 4 (Ae n ps)){i:Nat}(hi:i<ps.length): ∃id off,Sl v 4 ps.length id off/\h.row id (off+i*4) 4=some [aC n,ps[i].1,ps[i].2.1,ps[i].2.2]/\id<h.next:=SV.rec (k:=4) (f:=Bz n) om (λ_=>rfl) s hi
theorem Bo {h:H}{v:V}{n:Nat}{ps:List (V×V×V)}(s:SV h v 4 (Ae n ps)):bL v=some (aC (ps.length:Int)):=by
 unfold bL;rw[SV.len s (n:=ps.length) (mS n ps) om];rfl
theorem JH (m:V)(F:Nat)(cs:List V)(n:Nat)(ps:List (V×V×V))(P:Nat->Bool)(h:H)(sv:SV h m 4 (Ae n ps))(w:ps.length<1000000)(u: ∀i (hi:i<ps.length) hh,Fr h hh->Ev T F (AY n ps[i]::cs) hh (λv h'=>v= .bool (P i)/\Fr hh h')):
  Ev T 108 [m,.fn F [] cs] h (λv h'=> ∃k:Int,v= aC k/\((k= -1/\ ∀i,i<ps.length->P i=false)∨ ∃i,i<ps.length/\k=(i:Int)/\P i=true/\ ∀j,j<i->P j=false)/\Fr h h'):=by
 refine dW fL rfl ?_
 have s:=Bo sv
 simp(disch:=omega)only[go_sem,fL,aE,s]
 refine aI (λp a hh=> ∃(i:Nat),(∃g:Nat->V,a= [m,.fn F [] cs,g 2,g 3,aC (ps.length:Int),aC i,g 6,g 7])/\i<=ps.length/\(∀j,j<i->P j=false)/\Fr h hh/\p=ps.length-i) ps.length
  ⟨0,aB rfl,iB _,λj q=>om,Fr.refl h,rfl⟩ ?_
 rintro p a hh ⟨i,⟨g,rfl⟩,hi,l,f,rfl⟩
 by_cases c:(i:Int)<(ps.length:Int)
 case neg=>
  have d:=bI c;simp(disch:=omega)only[go_sem,d];exact⟨_,rfl,.inl ⟨rfl,λj q=>l j om⟩,f⟩
 have d:=cI c
 have b:i<ps.length:=om
 obtain⟨id,r,t,row,_⟩:=Mq (sv.mono f) b
 simp(disch:=omega)only[go_sem,d,t.ixa,row]
 refine (u i b hh f).mono ?_
 rintro _ x ⟨rfl,o⟩
 cases hP:P i with
 |true=>
  simp(disch:=omega)only[go_sem];exact⟨_,rfl,.inr ⟨i,b,rfl,hP,l⟩,f.trans o⟩
 |false=>
  simp(disch:=omega)only[go_sem];rw[fJ i]
  exact⟨ps.length-(i+1),om,i+1,aB rfl,om,λj q=>by
   by_cases e:j=i
   ·rw[e];exact hP
   ·exact l j om,f.trans o,rfl⟩
theorem GM (a:V)(F:Nat)(cs:List V)(n:Nat)(ps:List (V×V×V))(P:Nat->Bool)(h:H)(sv:SV h a 4 (Ae n ps))(m:ps.length<1000000)(l: ∀i (hi:i<ps.length) hh,Fr h hh->Ev T F (AY n ps[i]::cs) hh (λv h'=>v= .bool (P i)/\Fr hh h')):
  Ev T 54 [a,.fn F [] cs] h (λv h'=>(∃b,v= .bool b/\(b=true↔ ∃i,i<ps.length/\P i=true))/\Fr h h'):=by
 refine dW eX rfl ?_
 simp(disch:=omega)only[go_sem,eX,aE]
 refine (JH a F cs n ps P h sv m l).mono ?_
 rintro _ o ⟨k,rfl,j,f⟩
 simp(disch:=omega)only[go_sem]
 refine⟨⟨_,rfl,?_⟩,f⟩
 rcases j with ⟨rfl,c⟩|⟨i,hi,rfl,d,_⟩
 ·refine⟨λh=>by simp at h,λ⟨i,hi,e⟩=>by rw[c i hi] at e;cases e⟩
 ·exact⟨λ_=>⟨i,hi,d⟩,λ_=>cI om⟩
theorem aiP {a b:List Nat}:(zi a=zi b)=(a=b):=propext ⟨Wv,λh=>by rw[h]⟩
theorem PW (h:H){a b c d:V}(j:a.one=true)(k:b.one=true)(i:c.one=true)(f:d.one=true):mH h 4 [aC 0,.aD,.aD,.aD] 1 [(0,4,.agg [a,b,c,d])]=some (.sl h.next 0 1 (.kn 1),h.new (.cells false [a,b,c,d])):=by
 have e:dP [aC 0,.aD,.aD,.aD] (1*4)= [aC 0,.aD,.aD,.aD]:=rfl;simp [mH,iK,e,putAt,V.cells,j,k,i,f]
structure NmL (W:Nat->Prop)(n:Nat)(L:LN)(b:Nat)(h:H)(v:V)(rs:LN):Prop where
 ex: ∃ps,dH h v 4 (Ae n ps) b/\aN (Nm (λq=>W q∨bY v q) n L h) ps rs/\ ∀id off m c,v= .sl id off m c->h.get id=some (.cells false (Ae n ps))
theorem NmL.mono {W:Nat->Prop}{n:Nat}{L:LN}{b:Nat}{h h':H}{v:V}{rs:LN}(m:NmL W n L b h v rs)(f:Fr h h'):NmL W n L b h' v rs:=by
 obtain⟨j,o,a,e⟩:=m.ex;exact⟨j,o.fr f,aN.mono (λ_ _ x=>Nm.mono x f) a,λid i m c d=>by rw[f.get id (o.in _ _ _ _ d).1];exact e _ _ _ _ d⟩
theorem HZ {W:Nat->Prop}(n:Nat)(L:LN)(b Q:Nat)(j:V)(rs:LN)(p:V×V×V)(r:List Nat)(h:H)(m:NmL W n L b h j rs)(hb:b<=h.next)(P:Nm (λq=>W q∨bY j q) n L h p r)(hQ:h.get Q=some (.cells false [j]))(J:Q<h.next)(a7: ¬bY j Q)(a5:W Q)(hL:L.length<=5040)(hl:rs.length<1000000):
  Ev T 49 [.ptr Q 0,AY n p] h (λv h'=>v= .tup []/\ ∃vl',h'.get Q=some (.cells false [vl'])/\NmL W n L b h' vl' (uD rs r)/\Fx (λq=>q=Q∨bY j q) h h'/\ ∀q,bY vl' q->bY j q∨h.next<=q):=by
 obtain⟨s,ow,al,_⟩:=m.ex
 obtain⟨o1,o2,o3⟩:=P.one
 have lp:=aN.length al
 refine dW vW rfl ?_
 obtain⟨B,hB⟩:=exI h.next
 obtain⟨F,e1,n1,g1,q1,G⟩:=dK hB [aC n,p.1,p.2.1,p.2.2]
 have Z:F.get Q=some (.cells false [j]):=by rw[G.get Q J];exact hQ
 simp(disch:=omega)only[go_sem,vW,aE,gY h (a:= aC n) (b:=p.1) (c:=p.2.1) (d:=p.2.2) rfl o1 o2 o3,hB,e1,H.aF Z]
 have rl:=P.rk.short
 refine (GM j 104 [.ptr B 0] n s (λi=>decide (rs.getD i []=r)) F (ow.sv.mono G) om λi hi t f=>?_).mono ?_
 ·have mi:=aN.get al i hi om
  obtain⟨a1,a2,a3⟩:=mi.one
  have ri:=mi.rk.short
  have gB:t.get B=some (.cells false [aC n,p.1,p.2.1,p.2.2]):=by rw[f.get B om];exact g1
  refine dW tB rfl ?_
  obtain⟨C,hC⟩:=exI t.next
  obtain⟨k,K,n2,g2,q2,z⟩:=dK hC [aC n,s[i].1,s[i].2.1,s[i].2.2]
  have a9:k.get B=some (.cells false [aC n,p.1,p.2.1,p.2.2]):=by rw[z.get B (by have:=f.next;omega)];exact gB
  simp(disch:=omega)only[go_sem,tB,aE,gY t (a:= aC n) (b:=s[i].1) (c:=s[i].2.1) (d:=s[i].2.2) rfl a1 a2 a3,hC,K,H.aF g2,H.aF a9]
  refine (Yh _ _ (zi rs[i]) (zi r) k (mi.si.mono (G.trans (f.trans z))) (P.si.mono (G.trans (f.trans z))) (by rw[aS];omega) (by rw[aS];omega)).mono ?_
  rintro _ Y ⟨rfl,f3⟩
  simp(disch:=omega)only[go_sem]
  refine⟨?_,z.trans f3⟩
  congr 1
  rw[decide_eq_decide,aiP,List.getD,dD om]
  rfl
 rintro _ k ⟨⟨c,rfl,hc⟩,z⟩
 have F2:=G.trans z
 have N:c=true↔r∈rs:=by
  rw[hc];constructor
  ·rintro⟨i,hi,e⟩
   rw[←of_decide_eq_true e];exact bC om
  ·intro hr
   obtain⟨i,hi,rfl⟩:=Ad.1 hr;exact⟨i,om,cI (by rw[List.getD,dD hi];rfl)⟩
 have y:k.get Q=some (.cells false [j]):=by rw[F2.get Q J];exact hQ
 cases c with
 |true=>
  simp(disch:=omega)only[go_sem];refine⟨rfl,j,y,?_,Fx.of F2,λq h=> .inl h⟩;unfold uD;rw[bJ (N.1 rfl)];exact m.mono F2
 |false=>
  have hn:r∉rs:=λh=>by have:=N.2 h;cases this
  have r4:k.row B 0 4=some [aC n,p.1,p.2.1,p.2.2]:=iD (by rw[z.get B om];exact g1);obtain⟨Y,e3,n3,g3,q3⟩:=KW k (k.next+6) (k.next+11) [aC n,p.1,p.2.1,p.2.2]
  have a0:Fr k Y:=⟨om,λq hq=>q3 q om⟩
  obtain⟨R,a4,O⟩:=((ow.fr (F2.trans a0)).le (iB _)).push (bytes:=80) (SV.all (sz:=4) (len:=1) (vs:=Bz n p) rfl om g3 (.kn 1)) (n:=s.length) (m:=1) (mS n s) rfl om om om;have n4:=O.next;have b0:=F2.next;have vb: ∀id l m c,j= .sl id l m c->b<=id/\id<h.next:=λid l m c e=>by have:=ow.in _ _ _ _ e;omega
  have a8:dR j Q:=λid l m c e K=>a7 (by rw[e,K];exact⟨_,_,_,rfl⟩)
  have a6:R.get Q=some (.cells false [j]):=by rw[O.old Q om a8,q3 Q om];exact y
  have pt: ∀(t:H) (u w:V),eU (some (.cells false [u])) t Q 0 [w]=some (t.set Q (some (.cells false [w]))):=λt u w=>bT (by simp) t _ _
  simp(disch:=omega)only[go_sem,H.aF y,r4,PW (H.mk k.tr (k.next+6)) (a:= aC n) (b:=p.1) (c:=p.2.1) (d:=p.2.2) rfl o1 o2 o3,e3,a4,a6,pt];obtain⟨U,A⟩:=exI (R.set Q (some (Ob.cells false [V.sl Y.next 0 (s.length+1) (pY.un 4)])));rw[A];have n5:U.next=R.next:=by rw[←A];rfl
  have o5: ∀q,q≠Q->U.get q=R.get q:=λq hq=>by rw[←A];exact H.aH _ hq _
  have fx:Fx (λq=>q=Q∨bY j q) h U:=⟨om,λq F k=>by
   rw[o5 q λe=>k (.inl e),O.old q om (λid l m c e K=>k (.inr (by rw[e,K];exact⟨_,_,_,rfl⟩))),q3 q om,F2.get q F]⟩
  have fw:Fx (λq=>W q∨bY j q) h U:=Fx.wide fx λq h=>h.imp (λe=>by rw[e];exact a5) id
  have wk: ∀q,q<h.next->(W q∨bY (V.sl Y.next 0 (s.length+1) (pY.un 4)) q)->(W q∨bY j q):=λq F k=>k.elim .inl λ⟨l,m,c,e⟩=>by cases e;omega
  refine⟨rfl,_,rfl,?_,fx,λq ⟨l,m,c,e⟩=> .inr (by cases e;omega)⟩;unfold uD;rw[bU hn];refine⟨s++ [p],?_,aN.append (aN.mono (λ_ _ x=>Nm.go x fw wk) al) ⟨P.go fw wk,trivial⟩,λid l m c e=>?_⟩
  rotate_left
  ·cases e
   rw[o5 _ om,Wg];exact O.get
  rw[Wg];exact (O.own (mS n s) rfl om).mono om λq o m c e _ F=>o5 q (by cases e;omega)
theorem NG (u:V)(ws:List V)(m:Nat)(h:H)(a:ws.length=m*4)(x:0<m)(s:m<1000000)(c:SV h u 4 ws):
  Ev T 52 [u] h (λv h'=> ∃id cap rest,v= .sl id 0 m cap/\(cap= .un 4∨cap= .kn m/\rest= [])/\h.next<=id/\id<h'.next/\h'.get id=some (.cells false (ws++rest))/\Fr h h'):=by
 refine dW gJ rfl ?_
 have o:Ht false u=some (.bool false):=by
  rcases c with ⟨_,rfl⟩|⟨id,j,len,cap,B,z,rfl,r⟩
  ·simp at a;omega
  ·rfl
 have b:Fr h (h.new (.cells false [])):=(Fr.refl h).new _
 have i:dH (h.new (.cells false [])) (.sl h.next 0 0 (.kn 0)) 4 [] h.next:=dH.new h 4 0 _ [] rfl (fN _)
 obtain⟨y,r,t,A⟩:=i.app (bytes:=80) (by rw[H.aW];omega) (c.mono b) (n:=0) (m:=m) rfl a om om
 have w:mH h 4 [aC 0,.aD,.aD,.aD] 0 []=some (.sl h.next 0 0 (.kn 0),h.new (.cells false [])):=rfl
 simp(disch:=omega)only[go_sem,gJ,aE,o,w,t]
 have fr:=A.fr _ b (fN _)
 rcases A.own with ⟨_,e⟩|⟨id,k,cap,rest,rfl,d,l,q,p,f⟩
 ·rw[List.nil_append] at e
  rw[e] at a
  simp at a;omega
 ·rw[List.nil_append] at d f
  obtain rfl:k=m:=Nat.eq_of_mul_eq_mul_right (by omega:0<4) (d.symm.trans a)
  exact⟨id,cap,rest,rfl,l,q,p,f,fr⟩
def oT {α:Type}(P:Nat->Bool)(l:List α):List α:=l.zipIdx.filterMap λx=>if P x.2 then none else some x.1
section
variable {α β:Type} {P:Nat->Bool}
theorem MG (l:List α)(a:α):oT P (l++ [a])=oT P l++if P l.length then [] else [a]:=by
 unfold oT;rw[List.zipIdx_append,List.filterMap_append];congr 1;simp only[List.zipIdx_singleton,Nat.zero_add,List.filterMap_cons,List.filterMap_nil];split
 ·rename_i h
  split at h
  ·rename_i c;rw[bJ c]
  ·cases h
 ·rename_i b h
  split at h
  ·cases h
  ·rename_i c
   cases h;rw[bU c]
theorem qS {l:List α}{i:Nat}(hi:i<l.length):oT P (l.take (i+1))=oT P (l.take i)++if P i then [] else [l[i]]:=by
 rw[List.take_succ_eq_append_getElem hi,MG,zO,Nat.min_eq_left om]
theorem Kf {l:List α}: ∀{i:Nat},i<=l.length->(∀j,j<i->P j=false)->oT P (l.take i)=l.take i
 |0,_,_=>rfl
 |i+1,hi,h=>by
  rw[qS om,Kf om λj a=>h j om,bU (by rw[h i om];exact Bool.false_ne_true),List.take_succ_eq_append_getElem om]
theorem CA {R:α->β->Prop}{l:List α}{m:List β}(a:aN R l m):aN R (oT P l) (oT P m):=by
 have c:=aN.length a
 have b: ∀i,i<=l.length->aN R (oT P (l.take i)) (oT P (m.take i)):=by
  intro i
  induction i with
  |zero=>exact λ_=>trivial
  |succ i ih=>
   intro hi;rw[qS om,qS om];refine aN.append (ih om) ?_;split
   ·trivial
   ·exact⟨aN.get a i om om,trivial⟩
 have:=b l.length (fN _);rwa [List.take_length,c,List.take_length] at this
end
section
variable {rest:List V} {k:Nat}
def WJ (h:H)(sz:Nat)(zero:List V):V->Option (V×H)
 | .aD=>some (V.undef,h)
 | .emp _=>some (V.undef,h)
 | .sl id off len _=>if len=0 then some (V.undef,h) else
   if zero.length=sz/\zero.all V.one=true then (h.put id off (dP zero (len*sz))).map (λh'=>(V.undef,h')) else none
 |_=>none
theorem GQ (ρ:X->V)(h:H)(sz:Nat)(zero:List V)(x:X):fC ρ h (.clr sz zero x)=WJ h sz zero (ρ x):=by
 simp only[fC,WJ]
 rfl
section
variable {α:Type} {f:α->List V} {s:Nat} (hf: ∀x,(f x).length=s)
include hf
theorem FX {ps:List α}{i:Nat}(hi:i<ps.length):sub (ps.flatMap f++rest) (i*s) s=some (f ps[i]):=by
 have e:=DX hf ps i hi;have l:=tS hf ps;have a:(i+1)*s<=ps.length*s:=Nat.mul_le_mul_right s om;rw[Nat.succ_mul] at a;unfold sub;rw[bJ (by rw[iV];omega),List.drop_append,List.take_append_of_le_length (by rw[Ra];omega)];exact congrArg some e
theorem GG {ps:List α}(b:k<ps.length)(p:α):putAt (ps.flatMap f++rest) (k*s) (f p)=some ((ps.set k p).flatMap f++rest):=by
 have l:=tS hf ps;have h:(k+1)*s<=ps.length*s:=Nat.mul_le_mul_right s om;rw[Nat.succ_mul] at h;have e:ps.take k++ [ps[k]]++ps.drop (k+1)=ps:=by rw[←List.take_succ_eq_append_getElem b,List.take_append_drop]
 have m:ps.set k p=ps.take k++ [p]++ps.drop (k+1):=by rw[List.set_eq_take_append_cons_drop,bJ b,Lz];rfl
 have d:=tS hf (ps.take k);rw[zO,Nat.min_eq_left om] at d;have a:=tS hf (ps.take k++ [ps[k]]);rw[iV,zO,Nat.min_eq_left om] at a;have a:((ps.take k++ [ps[k]]).flatMap f).length=(k+1)*s:=a;rw[Nat.succ_mul] at a;have c:ps.flatMap f++rest=(ps.take k++ [ps[k]]).flatMap f++((ps.drop (k+1)).flatMap f++rest):=by rw[←Lz,←List.flatMap_append,e]
 unfold putAt;rw[bJ (by rw[iV,l,hf];omega)];refine congrArg some ?_
 have i:(ps.flatMap f++rest).take (k*s)=(ps.take k).flatMap f:=by
  rw[c,List.flatMap_append,Lz,←d,List.take_left]
 have j:(ps.flatMap f++rest).drop (k*s+(f p).length)=(ps.drop (k+1)).flatMap f++rest:=by
  rw[c,hf,←a,List.drop_left]
 rw[i,j,m,List.flatMap_append,List.flatMap_append,Lz,Lz,Lz];simp
end
section
variable {n:Nat}
theorem abL {ps:List (V×V×V)}{i:Nat}(hi:i<ps.length):sub (Ae n ps++rest) (i*4) 4=some (Bz n ps[i]):=FX (s:=4) (f:=Bz n) (λ_=>rfl) hi
theorem adD {ps:List (V×V×V)}(a:k<ps.length)(p:V×V×V):putAt (Ae n ps++rest) (k*4) (Bz n p)=some (Ae n (ps.set k p)++rest):=GG (s:=4) (f:=Bz n) (λ_=>rfl) a p
theorem aaB {id m:Nat}{a:pY}(d:a= .un 4∨a= .kn m/\rest= [])(b:k<=m): ∃off cap',rY 4 (.sl id 0 m a) (some (aC k)) none none=some (.sl id off (m-k) cap')/\(k<m->off=k*4):=by
 rcases d with rfl|⟨rfl,_⟩
 ·by_cases h:k<m
  ·exact⟨k*4,_,by simp [rY,nP,b,h];rfl,λ_=>rfl⟩
  ·exact⟨0,.un 4,by simp [rY,nP,b,h];omega,λc=>absurd c h⟩
 ·by_cases h:m=k
  ·exact⟨0,_,by simp [rY,nP,b,h];rfl,λc=>om⟩
  ·exact⟨k*4,_,by simp [rY,nP,b,h];rfl,λ_=>rfl⟩
theorem aaA {id m:Nat}{a:pY}(c:a= .un 4∨a= .kn m/\rest= [])(b:k<=m)(d:0<m): ∃cap',rY 4 (.sl id 0 m a) none (some (aC k)) none=some (.sl id 0 k cap'):=by
 rcases c with rfl|⟨rfl,_⟩
 ·exact⟨_,by simp [rY,nP,b,d];rfl⟩
 ·exact⟨_,by simp [rY,nP,b,show m≠0 by omega];rfl⟩
end
theorem YI (id m:Nat)(r:pY)(rest:List V)(F:Nat)(cs:List V)(n:Nat)(ps:List (V×V×V))(P:Nat->Bool)(h:H)(L:id<h.next)(hg:h.get id=some (.cells false (Ae n ps++rest)))(hc:r= .un 4∨r= .kn m/\rest= [])(hm:ps.length=m)(h0:0<m)(w:m<1000000)(one: ∀p∈ps,p.1.one=true/\p.2.1.one=true/\p.2.2.one=true)(hf: ∀i (hi:i<ps.length) hh,Fx (· =id) h hh->Ev T F (AY n ps[i]::cs) hh (λv h'=>v= .bool (P i)/\Fr hh h')):
  Ev T 51 [.sl id 0 m r,.fn F [] cs] h (λv h'=>SV h' v 4 (Ae n (oT P ps))/\Fx (· =id) h h'):=by
 refine dW fH rfl ?_
 have sv:SV h (.sl id 0 m r) 4 (Ae n ps):= .inr ⟨id,0,m,r,false,_,rfl,by rw[mS,hm],L,hg,by rw[iV,mS];omega,by rw[List.drop_zero,List.take_append_of_le_length (by rw[mS];omega),←hm,←mS n ps,List.take_length]⟩
 simp(disch:=omega)only[go_sem,fH,aE]
 refine (JH _ F cs n ps P h sv om λi hi hh f=>hf i hi hh (Fx.of f)).mono ?_
 rintro _ u ⟨k,rfl,G,R⟩
 rcases G with ⟨rfl,hn⟩|⟨K,a3,rfl,N,hn⟩
 ·simp(disch:=omega)only[go_sem,eq_self,decide_true]
  have e:oT P ps=ps:=by
   have:=Kf (P:=P) (l:=ps) (fN _) hn;rwa [List.take_length] at this
  rw[e]
  exact⟨sv.mono R,Fx.of R⟩
 have d0:decide ((K:Int)= -1)=false:=bI om
 simp(disch:=omega)only[go_sem,d0]
 rw[fJ K]
 refine aI (λk' y hh=> ∃(i k:Nat) (o:List (V×V×V)),(∃g:Nat->V,y= [.sl id 0 m r,.fn F [] cs,g 2,aC k,aC i,g 5,g 6,g 7,g 8])/\i<=m/\o.length=m/\k<=i/\o.take k=oT P (ps.take i)/\o.drop i=ps.drop i/\hh.get id=some (.cells false (Ae n o++rest))/\Fx (· =id) h hh/\k'=m-i) (m-(K+1))
  ⟨K+1,K,ps,aB rfl,om,hm,om,?_,rfl,by rw[R.get id L];exact hg,Fx.of R,rfl⟩ ?_
 ·rw[qS a3,Kf om hn,bJ N,tZ]
 clear hn N d0 R
 rintro k' y hh ⟨i,k,o,⟨g,rfl⟩,hi,lc,ki,G,hd,gc,F2,rfl⟩
 by_cases O:(i:Int)<(m:Int)
 case neg=>
  have d1:=bI O;obtain rfl:i=m:=om
  obtain⟨a0,cp,s1,s2⟩:=aaB (id:=id) hc ki;obtain⟨Z,s3⟩:=aaA (id:=id) hc ki h0;rw[←hm,List.take_length] at G;have n2:=F2.next;have l4:=mS n o
  have W: ∀A t,A.next=hh.next->A.get id=some (.cells false t)->t.take (k*4)=Ae n (o.take k)->k*4<=t.length->SV A (.sl id 0 k Z) 4 (Ae n (oT P ps)):=λA t e1 e2 e3 e4=>by
   rw[←G];exact .inr ⟨id,0,k,Z,false,t,rfl,by rw[mS,zO];rw[Nat.min_eq_left om],om,e2,om,by rw[List.drop_zero];exact e3⟩
  have t4:(Ae n o++rest).take (k*4)=Ae n (o.take k):=by
   have e:Ae n o=Ae n (o.take k)++Ae n (o.drop k):=by rw[←Wg,List.take_append_drop]
   have l1:=mS n (o.take k);rw[zO,Nat.min_eq_left om] at l1;rw[e,Lz,List.take_append_of_le_length om,←l1,List.take_length]
  by_cases e:k=i
  ·have cz:WJ hh 4 [aC 0,.aD,.aD,.aD] (.sl id a0 (i-k) cp)=some (V.undef,hh):=by simp [WJ,e]
   simp(disch:=omega)only[go_sem,d1,s1,GQ,cz,s3];exact⟨W hh _ rfl gc t4 (by rw[iV];omega),F2⟩
  ·obtain rfl:=s2 om
   have zl:(dP [aC 0,.aD,.aD,.aD] ((i-k)*4)).length=(i-k)*4:=by simp [dP]
   obtain⟨t,z⟩:=exI ((Ae n o++rest).take (k*4)++dP [aC 0,.aD,.aD,.aD] ((i-k)*4)++(Ae n o++rest).drop (k*4+(i-k)*4));have ik:k*4+(i-k)*4=i*4:=by rw[←Nat.add_mul];congr 1;omega
   have pa:putAt (Ae n o++rest) (k*4) (dP [aC 0,.aD,.aD,.aD] ((i-k)*4))=some t:=by
    unfold putAt;rw[zl,bJ (by rw[iV];omega),z]
   have a2:((Ae n o++rest).take (k*4)).length=k*4:=by rw[zO,Nat.min_eq_left (by rw[iV];omega)]
   have tv:t.take (k*4)=Ae n (o.take k):=by rw[←z,Lz,List.take_append_of_le_length om,Ro om,t4]
   have cz:WJ hh 4 [aC 0,.aD,.aD,.aD] (.sl id (k*4) (i-k) cp)=some (V.undef,hh.set id (some (.cells false t))):=by
    show (if i-k=0 then _ else if _ then _ else none)=_;rw[bU om,bJ ⟨rfl,rfl⟩];unfold H.put;rw[gc];simp only[pa,Option.map_some]
   simp(disch:=omega)only[go_sem,d1,s1,GQ,cz,s3];exact⟨W _ t rfl (H.aU _ _ _) tv (by rw[←z,iV,iV,a2];omega),⟨n2,λq w u=>by rw[H.aH _ u];exact F2.get q w u⟩⟩
 have d1:=cI O
 have a1:i<m:=om
 have ix: ∀j:Nat,j<m->Gr 4 (.sl id 0 m r) (aC j)=some (.ptr id (j*4)):=λj hj=>by simp [Gr,hj]
 have lP:i<ps.length:=om
 have ci:o[i]'om=ps[i]:=by
  have:=congrArg (λl=>l[0]?) hd;simp only[List.getElem?_drop,Nat.add_zero] at this;rw[dD om,dD lP] at this;exact Option.some.inj this
 have U:hh.row id (i*4) 4=some (Bz n ps[i]):=by
  rw[←ci];unfold H.row;rw[gc];exact abL om
 obtain⟨o1,o2,o3⟩:=one _ (xG lP)
 have fi:=hf i lP
 have Y:oT P (ps.take (i+1))=oT P (ps.take i)++if P i then [] else [ps[i]]:=qS lP
 generalize ps[i]=p at U o1 o2 o3 fi Y ci
 obtain⟨B,hB⟩:=exI hh.next
 obtain⟨A,e3,n3,g3,q3,f3⟩:=dK hB [aC 0,.aD,.aD,.aD]
 obtain⟨h4,e4,n4,g4,q4⟩:=mV A B (Bz n p)
 have n2:=F2.next
 have Q:Fr hh h4:=⟨om,λq hq=>by rw[q4 q om,q3 q om]⟩
 have F4:Fx (· =id) h h4:=⟨om,λq w u=>by rw[Q.get q om];exact F2.get q w u⟩
 simp(disch:=omega)only[go_sem,d1,ix i a1,U,hB,e3,kV A B 0 (a:= aC n) (b:=p.1) (c:=p.2.1) (d:=p.2.2) rfl o1 o2 o3,g3,jS,e4,iD g4]
 refine (fi h4 F4).mono ?_
 rintro _ J ⟨rfl,f5⟩
 have F5:Fx (· =id) h J:=⟨by have:=f5.next;omega,λq w u=>by rw[f5.get q om];exact F4.get q w u⟩
 have g5:J.get id=some (.cells false (Ae n o++rest)):=by rw[f5.get id om,Q.get id om];exact gc
 have a4:J.get B=some (.cells false (Bz n p)):=by rw[f5.get B om];exact g4
 cases N:P i with
 |true=>
  rw[N,bJ rfl,tZ] at Y;simp(disch:=omega)only[go_sem];rw[fJ i];exact⟨m-(i+1),om,i+1,k,o,aB rfl,om,lc,om,by rw[G,Y],by rw[←List.drop_drop,hd,List.drop_drop],g5,F5,rfl⟩
 |false=>
  rw[N,bU (by simp)] at Y
  have pt:eU (some (.cells false (Ae n o++rest))) J id (k*4) (Bz n p)=some (J.set id (some (.cells false (Ae n (o.set k p)++rest)))):=by
   have:=adD (n:=n) (ps:=o) (rest:=rest) (k:=k) om p;simp only[eU,this,Option.map_some]
  simp(disch:=omega)only[go_sem,iD a4,ix k om,kV J id (k*4) (a:= aC n) (b:=p.1) (c:=p.2.1) (d:=p.2.2) rfl o1 o2 o3,g5,pt];rw[show (i:Int)+1=((i+1:Nat):Int) from om,show (k:Int)+1=((k+1:Nat):Int) from om];have lk:k<o.length:=om
  refine⟨m-(i+1),om,i+1,k+1,o.set k p,aB rfl,om,by rw[List.length_set];exact lc,om,?_,?_,rfl,⟨by have:=F5.next;simp only[H.cV];omega,λq w u=>by rw[H.aH _ u];exact F5.get q w u⟩,rfl⟩
  ·rw[List.take_succ_eq_append_getElem (by rw[List.length_set];exact lk),List.getElem_set_self,List.take_set_of_le (fN _),G,Y]
  ·rw[List.drop_set_of_lt om,←List.drop_drop,hd,List.drop_drop]
end
def Ja:List Nat->List Nat->Int
 | [], []=>0
 | [],_::_=> -1
 |_::_, []=>1
 |a::l,b::m=>if a=b then Ja l m else Cls.sF a b
theorem Uj: ∀(a b:List Nat),Ja a b<0↔kW a b=true
 | [], []=>by simp [Ja,kW]
 | [],_::_=>by simp [Ja,kW]
 |_::_, []=>by simp [Ja,kW]
 |a::l,b::m=>by
  unfold Ja kW;split
  ·exact Uj l m
  ·unfold Cls.sF
   rw[Ak];split
   ·omega
   ·split<;>omega
theorem aeG (x G:V)(a b:List Nat)(h:H)(P:SI h x (zi a))(J:SI h G (zi b))(Q:a.length<1000000)(W:b.length<1000000):
  Ev T 109 [x,G] h (λv h'=>v= aC (Ja a b)/\Fr h h'):=by
 refine dW nH rfl ?_
 have w:=P.lens
 have lb:=J.lens
 rw[aS] at w lb
 obtain⟨id,z,F,p,N⟩:=P.open
 obtain⟨y,o,n,l,s⟩:=J.open
 rw[aS] at F p N n l s
 simp(disch:=omega)only[go_sem,nH,aE,w,lb]
 refine aI (λL k r=> ∃(i:Nat),(∃g:Nat->V,k= [x,G,g 2,g 3,g 4,g 5,g 6,x,aC (a.length:Int),aC i,g 10,g 11,g 12,g 13])/\i<=a.length/\i<=b.length/\Ja a b=Ja (a.drop i) (b.drop i)/\Fr h r/\L=a.length-i) a.length
  ⟨0,aB rfl,iB _,iB _,rfl,Fr.refl h,rfl⟩ ?_
 rintro L k r ⟨i,⟨g,rfl⟩,hi,U,d,f,rfl⟩
 by_cases t:(i:Int)<(a.length:Int)
 case neg=>
  have q:=bI t;rw[List.drop_eq_nil_of_le om] at d
  by_cases u:(a.length:Int)<(b.length:Int)
  ·have m:=cI u
   rw[Zh (show i<b.length by omega)] at d;simp(disch:=omega)only[go_sem,q,w,lb,m];exact⟨by rw[d];rfl,f⟩
  ·have m:=bI u
   rw[List.drop_eq_nil_of_le om] at d;simp(disch:=omega)only[go_sem,q,w,lb,m];exact⟨by rw[d];rfl,f⟩
 have q:=cI t
 have j:i<a.length:=om
 have A:r.cell id (z+i)=some (aC (a.getD i 0:Nat)):=by rw[f.cell (p om),N i j];congr 2;simp [zi,j]
 rw[Zh j] at d
 have R:a.getD i 0=a[i]:=by rw[List.getD,dD j];rfl
 by_cases u:(b.length:Int)<=(i:Int)
 ·have m:=cI u
  rw[show b.drop i= [] from List.drop_eq_nil_of_le om] at d
  simp(disch:=omega)only[go_sem,q,F.ixa,A,lb,m]
  exact⟨by rw[d];rfl,f⟩
 have m:=bI u
 have c:i<b.length:=om
 have K:r.cell y (o+i)=some (aC (b.getD i 0:Nat)):=by rw[f.cell (l om),s i c];congr 2;simp [zi,c]
 rw[Zh c] at d
 have Y:b.getD i 0=b[i]:=by rw[List.getD,dD c];rfl
 rw[R] at A
 rw[Y] at K
 simp(disch:=omega)only[go_sem,q,F.ixa,A,lb,m,n.ixa,K]
 refine (Cls.zF _ _ r).mono ?_
 rintro _ Z ⟨rfl,O⟩
 rw[show Ja (a[i]::a.drop (i+1)) (b[i]::b.drop (i+1))=if a[i]=b[i] then Ja (a.drop (i+1)) (b.drop (i+1)) else Cls.sF a[i] b[i] from rfl] at d
 by_cases e:a[i]=b[i]
 ·rw[bJ e] at d
  have B:decide (Cls.sF (a[i]:Int) (b[i]:Int)≠0)=false:=bI (by rw[e];unfold Cls.sF;rw[bU om,bU om];omega)
  simp(disch:=omega)only[go_sem,B]
  rw[fJ i]
  exact⟨a.length-(i+1),om,i+1,aB rfl,om,om,d,f.trans O,rfl⟩
 ·rw[bU e] at d
  have B:decide (Cls.sF (a[i]:Int) (b[i]:Int)≠0)=true:=cI (by unfold Cls.sF;split;omega;split<;>omega)
  simp(disch:=omega)only[go_sem,B]
  exact⟨by rw[d],f.trans O⟩
section
variable {W W':Nat->Prop} {L:LN} {h:H} {p q:V×V×V} {a b:List Nat}
theorem JD (n:Nat)(R:L.length<=5040)(f:Nm W n L h p a)(j:Nm W' n L h q b):
  Ev T 58 [AY n p,AY n q] h (λv h'=>v= aC (Ja a b)/\Fr h h'):=by
 obtain⟨w,s,x⟩:=f.one
 obtain⟨K,u,z⟩:=j.one
 have O:=f.rk.short
 have lb:=j.rk.short
 refine dW zN rfl ?_
 obtain⟨B,r⟩:=exI h.next
 obtain⟨t,N,o,y,Q,i⟩:=dK r [aC n,p.1,p.2.1,p.2.2]
 obtain⟨m,G,P,F,J,l⟩:=dK o [aC n,q.1,q.2.1,q.2.2]
 have k:m.get B=some (.cells false (Bz n p)):=by rw[J B om];exact y
 simp(disch:=omega)only[go_sem,zN,aE,gY h (a:= aC n) (b:=p.1) (c:=p.2.1) (d:=p.2.2) rfl w s x,r,N,gY t (a:= aC n) (b:=q.1) (c:=q.2.1) (d:=q.2.2) rfl K u z,o,G,H.aF k,H.aF F]
 refine (aeG _ _ a b m (f.si.mono (i.trans l)) (j.si.mono (i.trans l)) om om).mono ?_
 rintro _ U ⟨rfl,A⟩
 simp(disch:=omega)only[go_sem]
 exact i.trans (l.trans A)
theorem aaY (n:Nat)(hL:L.length<=5040)(u:Nm W n L h p a)(w:Nm W' n L h q b):
  Ev T 56 [AY n p,AY n q] h (λv h'=>v= .bool (a.all λi=>decide (i∈b))/\Fr h h'):=by
 obtain⟨o1,o2,o3⟩:=u.one
 obtain⟨u1,u2,u3⟩:=w.one
 have la:=u.rk.short
 have lb:=w.rk.short
 refine dW zY rfl ?_
 obtain⟨B,O⟩:=exI h.next
 obtain⟨Z,e1,N,g1,q1,f1⟩:=dK O [aC n,p.1,p.2.1,p.2.2]
 obtain⟨G,e2,n2,g2,q2,f2⟩:=dK N [aC n,q.1,q.2.1,q.2.2]
 have A:G.get B=some (.cells false (Bz n p)):=by rw[q2 B om];exact g1
 have F2:=f1.trans f2
 have R:=u.si.lens
 rw[aS] at R
 obtain⟨id,z,U,o,K⟩:=u.si.open
 rw[aS] at U o K
 simp(disch:=omega)only[go_sem,zY,aE,gY h (a:= aC n) (b:=p.1) (c:=p.2.1) (d:=p.2.2) rfl o1 o2 o3,O,e1,gY Z (a:= aC n) (b:=q.1) (c:=q.2.1) (d:=q.2.2) rfl u1 u2 u3,N,e2,H.aF A,R]
 refine aI (λJ l s=> ∃(i:Nat),(∃g:Nat->V,l= [g 0,g 1,g 2,.ptr (B+1) 0,.bool false,g 5,g 6,p.2.2,aC (a.length:Int),aC i,g 10,g 11])/\i<=a.length/\(∀j (y:j<i) (P:j<a.length),a[j]∈b)/\Fr G s/\J=a.length-i) a.length
  ⟨0,aB rfl,iB _,λj y=>om,Fr.refl G,rfl⟩ ?_
 rintro J l s ⟨i,⟨g,rfl⟩,hi,Q,f,rfl⟩
 by_cases t:(i:Int)<(a.length:Int)
 case neg=>
  have F:=bI t;simp(disch:=omega)only[go_sem,F];refine⟨?_,F2.trans f⟩;congr 1;refine (zP.2 λx hx=>?_).symm;obtain⟨j,y,rfl⟩:=Ad.1 hx;exact cI (Q j om y)
 have F:=cI t
 have m:i<a.length:=om
 have c1:s.cell id (z+i)=some (aC (a[i]:Nat)):=by rw[(F2.trans f).cell (o om),K i m];congr 2;simp [zi,m]
 have gq:s.get (B+1)=some (.cells false (Bz n q)):=by rw[f.get _ om];exact g2
 simp(disch:=omega)only[go_sem,F,U.ixa,c1,H.aF gq]
 refine (Gi q.2.2 b a[i] s om w.rk.asc (w.si.mono (F2.trans f))).mono ?_
 rintro _ h3 ⟨k,c,rfl,r,_,Y⟩
 cases c with
 |true=>
  simp(disch:=omega)only[go_sem,Bool.not_true];rw[fJ i]
  exact⟨a.length-(i+1),om,i+1,aB rfl,om,λj y P=>by
   by_cases e:j=i
   ·subst e;exact r.1 rfl
   ·exact Q j om P,f.trans Y,rfl⟩
 |false=>
  simp(disch:=omega)only[go_sem,Bool.not_false];refine⟨?_,F2.trans (f.trans Y)⟩;congr 1;refine (List.all_eq_false.2 ⟨a[i],xG _,?_⟩).symm;rw[Ak];exact λh=>by have:=r.2 h;cases this
theorem aaP (n B:Nat)(O:L.length<=5040)(k:Nm W n L h p a)(m:Nm W' n L h q b)(N:h.get B=some (.cells false (Bz n q)))(hB:B<h.next):
  Ev T 55 [AY n p,.ptr B 0] h (λv h'=>v= .bool (decide (a.length<b.length)&&a.all λi=>decide (i∈b))/\Fr h h'):=by
 obtain⟨z,y,A⟩:=k.one
 obtain⟨U,P,R⟩:=m.one
 have Q:=k.rk.short
 have lb:=m.rk.short
 refine dW oF rfl ?_
 obtain⟨C,w⟩:=exI h.next
 obtain⟨G,F,Y,o,J,l⟩:=dK w [aC n,p.1,p.2.1,p.2.2]
 have x:B≠C:=om
 have f:G.get B=some (.cells false (Bz n q)):=by rw[J B x];exact N
 have u:=k.si.lens
 rw[aS] at u
 have s:=m.si.lens
 rw[aS] at s
 by_cases j:(a.length:Int)<(b.length:Int)
 case neg=>
  have t:=bI j;have r:decide (a.length<b.length)=false:=bI om;simp(disch:=omega)only[go_sem,oF,aE,gY h (a:= aC n) (b:=p.1) (c:=p.2.1) (d:=p.2.2) rfl z y A,w,F,H.aF f,H.aF o,u,s,t,r,Bool.false_and];exact l
 ·have t:=cI j
  have r:decide (a.length<b.length)=true:=cI om
  simp(disch:=omega)only[go_sem,oF,aE,gY h (a:= aC n) (b:=p.1) (c:=p.2.1) (d:=p.2.2) rfl z y A,w,F,H.aF f,H.aF o,u,s,t,iD f,iD o]
  refine (aaY n O (k.mono l) (m.mono l)).mono ?_
  rintro _ Z ⟨rfl,K⟩
  simp(disch:=omega)only[go_sem,r,Bool.true_and]
  exact l.trans K
end
section
variable {W W':Nat->Prop} {L:LN} {h:H}
theorem agK {p:V×V×V}{r:List Nat}(n k Q:Nat)(l:V)(ps:List (V×V×V))(rs:LN)(P:L.length<=5040)(U:rs.length<1000000)(K:h.get k=some (.cells false [.ptr Q 0]))(n8:k<h.next)(F:h.get Q=some (.cells false [l]))(R:Q<h.next)(sv:SV h l 4 (Ae n ps))(al:aN (Nm W n L h) ps rs)(m:Nm W' n L h p r):
  Ev T 53 [AY n p,.ptr k 0] h (λv h'=>v= .bool (Xp rs r)/\Fr h h'):=by
 obtain⟨y,w,z⟩:=m.one
 have Y:=aN.length al
 refine dW yQ rfl ?_
 obtain⟨B,u⟩:=exI h.next
 obtain⟨o,J,n1,A,t,j⟩:=dK u [aC n,p.1,p.2.1,p.2.2]
 have s:o.get k=some (.cells false [.ptr Q 0]):=by rw[t _ om];exact K
 have q:o.get Q=some (.cells false [l]):=by rw[t _ om];exact F
 simp(disch:=omega)only[go_sem,yQ,aE,gY h (a:= aC n) (b:=p.1) (c:=p.2.1) (d:=p.2.2) rfl y w z,u,J,H.aF s,H.aF q]
 refine (GM l 55 [.ptr B 0] n ps (λi=>decide ((rs.getD i []).length<r.length)&&(rs.getD i []).all λi=>decide (i∈r)) o (sv.mono j) om λi hi hh f=>?_).mono ?_
 ·have N:=(aN.get al i hi om).mono (j.trans f)
  rw[List.getD,dD om,Option.getD_some]
  exact aaP n B P N (m.mono (j.trans f)) (by rw[f.get B om];exact A) (by have:=f.next;omega)
 rintro _ Z ⟨⟨b,rfl,G⟩,O⟩
 simp(disch:=omega)only[go_sem]
 refine⟨?_,j.trans O⟩
 congr 1
 refine DW.2 (G.trans ?_)
 unfold Xp
 rw[List.any_eq_true]
 constructor
 ·rintro⟨i,hi,e⟩
  exact⟨_,bC om,e⟩
 ·rintro⟨x,hx,e⟩
  obtain⟨i,hi,rfl⟩:=Ad.1 hx
  exact⟨i,om,by rw[List.getD,dD hi];exact e⟩
theorem SM {rs:LN}{i:Nat}(c:1<=i)(hi:i<rs.length):JE (rs.take (i+1))=if kW rs[i] (JE (rs.take i)) then rs[i] else JE (rs.take i):=by
 cases rs with
 |nil=>simp at hi
 |cons a l=>
  obtain⟨k,rfl⟩: ∃k,i=k+1:=⟨i- 1,om⟩
  have b:k<l.length:=by simpa using hi
  show (l.take (k+1)).foldl _ a=_;rw[List.take_succ_eq_append_getElem b,List.foldl_append]
  rfl
theorem aaQ (n:Nat)(Z:V)(ps:List (V×V×V))(rs:LN)(hL:L.length<=5040)(hl:rs.length<1000000)(h0:0<rs.length)(sv:SV h Z 4 (Ae n ps))(al:aN (Nm W n L h) ps rs):
  Ev T 57 [Z,.fn 58 [] []] h (λv h'=>(∃i,∃hi:i<ps.length,v=AY n ps[i]/\rs.getD i []=JE rs)/\Fr h h'):=by
 have lp:=aN.length al
 have lv:=Bo sv
 have n0:0<ps.length:=om
 have one: ∀j (t:j<ps.length),ps[j].1.one=true/\ps[j].2.1.one=true/\ps[j].2.2.one=true:=λj t=>(aN.get al j t om).one
 have d0:decide ((ps.length:Int)<1)=false:=bI om
 refine dW fR rfl ?_
 obtain⟨B,hB⟩:=exI h.next
 obtain⟨h1,e1,n1,g1,q1,u⟩:=dK hB [aC 0,.aD,.aD,.aD]
 have x:=(Mq (sv.mono u) n0)
 obtain⟨id,a4,sh,row,_⟩:=x
 obtain⟨h2,e2,n2,g2,q2,f2⟩:=dK n1 [aC 0,.aD,.aD,.aD]
 obtain⟨h3,e3,n3,g3,q3⟩:=mV h2 (B+1) (Bz n ps[0])
 obtain⟨o1,o2,o3⟩:=one 0 n0
 have ix:=sh.ixa .i64 0 om om
 simp only[Int.toNat_zero] at ix
 simp(disch:=omega)only[go_sem,fR,aE,hB,e1,lv,d0,ix,row,n1,e2,kV h2 (B+1) 0 (a:= aC n) (b:=ps[0].1) (c:=ps[0].2.1) (d:=ps[0].2.2) rfl o1 o2 o3,g2,jS,e3]
 have G:Fr h1 h3:=⟨om,λq N=>by rw[q3 q om,q2 q om]⟩
 have F3:=u.trans G
 refine aI (λk' s o=> ∃(i j:Nat),(∃g:Nat->V,s= [Z,.fn 58 [] [],.ptr B 0,.ptr (B+1) 0,aC i,g 5,g 6,g 7])/\1<=i/\i<=ps.length/\(∃t:j<ps.length,o.get (B+1)=some (.cells false (Bz n ps[j])))/\rs.getD j []=JE (rs.take i)/\B+1<o.next/\Fr h1 o/\k'=ps.length-i) (ps.length- 1)
  ⟨1,0,aB rfl,om,om,⟨n0,g3⟩,?_,om,G,rfl⟩ ?_
 ·cases rs with
  |nil=>simp at h0
  |cons a l=>rfl
 rintro k' s o ⟨i,j,⟨g,rfl⟩,Q,hi,⟨t,gj⟩,P,nB,f,rfl⟩
 have gB:o.get B=some (.cells false [aC 0,.aD,.aD,.aD]):=by rw[f.get B om];exact g1
 obtain⟨w1,w2,w3⟩:=one j t
 by_cases y:(i:Int)<(ps.length:Int)
 case neg=>
  have R:=bI y;obtain rfl:i=ps.length:=om
  obtain⟨F,e4,n4,g4,q4⟩:=mV o B (Bz n ps[j]);rw[lp,List.take_length] at P;simp(disch:=omega)only[go_sem,lv,R,iD gj,kV o B 0 (a:= aC n) (b:=ps[j].1) (c:=ps[j].2.1) (d:=ps[j].2.2) rfl w1 w2 w3,gB,jS,e4,iD g4];exact⟨⟨j,t,rfl,P⟩,⟨by have:=(u.trans f).next;omega,λq N=>by rw[q4 q om,(u.trans f).get q N]⟩⟩
 have R:=cI y
 have p:i<ps.length:=om
 obtain⟨a0,z,A,r,Y⟩:=Mq (sv.mono (u.trans f)) p
 have mi:=aN.get al i p om
 have mj:=aN.get al j t om
 have fb: ∀k,o.next<=k->Fr o (H.mk o.tr k):=λk hk=>(Fr.refl o).bH hk
 simp(disch:=omega)only[go_sem,lv,R,A.ixa,r,iD gj]
 refine (JD n hL (mi.mono ((u.trans f).trans (fb _ om))) (mj.mono ((u.trans f).trans (fb _ om)))).mono ?_
 rintro _ F ⟨rfl,f4⟩
 have m:=(fb _ om).trans f4
 have w:F.get (B+1)=some (.cells false (Bz n ps[j])):=by rw[m.get _ nB];exact gj
 have r4:F.row a0 (z+i*4) 4=some (Bz n ps[i]):=by rw[DQ m Y];exact r
 have ei:=mi.eq
 have U:=mj.eq
 simp(disch:=omega)only[go_sem,iD w,r4,ei.1,ei.2.1,ei.2.2,U.1,U.2.1,U.2.2]
 have O:=SM (rs:=rs) Q om
 have lx:=Uj rs[i] rs[j]
 have J:rs[j]=JE (rs.take i):=by rw[←P,List.getD,dD om];rfl
 have n4:=m.next
 by_cases K:Ja rs[i] rs[j]<0
 ·have d2:=cI K
  rw[bJ (by rw[←J];exact lx.1 K)] at O
  obtain⟨a1,a2,a3⟩:=one i p
  obtain⟨h5,e5,n5,g5,q5⟩:=mV F (B+1) (Bz n ps[i])
  simp(disch:=omega)only[go_sem,d2,A.ixa,r4,kV F (B+1) 0 (a:= aC n) (b:=ps[i].1) (c:=ps[i].2.1) (d:=ps[i].2.2) rfl a1 a2 a3,w,jS,e5]
  rw[fJ i]
  exact⟨ps.length-(i+1),om,i+1,i,aB rfl,om,om,⟨p,g5⟩,by rw[O,List.getD,dD om];rfl,om,⟨by have:=f.next;omega,λq N=>by rw[q5 q om,m.get q (by have:=f.next;omega),f.get q N]⟩,rfl⟩
 ·have d2:=bI K
  rw[bU (by rw[←J];exact λh=>K (lx.2 h))] at O
  simp(disch:=omega)only[go_sem,d2]
  rw[fJ i]
  exact⟨ps.length-(i+1),om,i+1,j,aB rfl,om,om,⟨t,w⟩,by rw[O];exact P,om,f.trans m,rfl⟩
end
structure yW (n:Nat)(G:List Nat->Prop)(L:LN)(r:List Nat):Prop where
 rk:Rk L (RG L r) r
 cY:dO n (RG L r)
 nm: ∀y g,RG L r y->G g->RG L r (aT y g)
 le: ∀x,RG L r x->G x
section
variable {n:Nat} {G:List Nat->Prop} {L:LN} {K r:List Nat} {i:Nat} (hG:dO n G) (E:cZ G L)
include hG E
omit hG in
theorem yW.Lf {N:List Nat->Prop}(a:dO n N)(le: ∀x,N x->G x)(b: ∀y g,N y->G g->N (aT y g)):yW n G L (Lf L N):=by
 have k:=zH L N;have e:N=RG L (Go.Proofs.YtcdbmkidaecdiaaGreat.Lf L N):=funext λx=>propext (k.iff E le x)
 exact⟨k.self E,by rw[←e];exact a,by rw[←e];exact b,by rw[←e];exact le⟩
theorem EB:yW n G L (Lf L λx=>x=aX n):=
 yW.Lf E (Um n) (λx h=>by rw[h];exact hG.one) λy g a b=>by rw[a];exact mN (hG.bF b)
theorem Uc (k:yW n G L r)(hi:i<L.length):yW n G L (Ai n G L r i):=by
 have a:=pD E hi;exact yW.Lf E (Mk.cY hG k.le a) (λx h=>Mk.le hG k.le a h) λy g b c=>NC.cj b c
omit hG E in
theorem xF (j:Nat):j∈Ai n G L r i↔j<L.length/\Mk n G (RG L r) (L.getD i []) (L.getD j []):=(zH L _).mem j
omit hG E in
theorem Dr (k:yW n G L r)(hi:i<L.length)(d:i∉r):(∀x∈r,x∈Ai n G L r i)/\i∈Ai n G L r i/\r.length<(Ai n G L r i).length:=by
 have a: ∀x∈r,x∈Ai n G L r i:=λx c=>(xF x).2 ⟨((k.rk.mem x).1 c).1,NC.of (.inl ⟨x,c,rfl⟩)⟩
 have b:i∈Ai n G L r i:=(xF i).2 ⟨hi,NC.of (.inr rfl)⟩;refine⟨a,b,?_⟩;have nd:(i::r).Nodup:=List.nodup_cons.2 ⟨d,k.rk.asc.imp λh=>Nat.ne_of_lt h⟩
 have:=List.Nodup.length_le_of_subset (l₂:=Ai n G L r i) nd λx c=>by
  rcases vI.1 c with rfl|c
  ·exact b
  ·exact a x c
 rw[List.length_cons] at this;omega
theorem aeR (k:yW n G L r)(d:Ab n G L K)(q:r.length<L.length):fdF n G L r K≠ []:=by
 intro e
 have all: ∀i,i∈K->i∈r:=λi hi=>Jj λh=>by
  have:Ai n G L r i∈fdF n G L r K:=Gu.2 ⟨i,hi,h,rfl⟩;rw[e] at this;cases this
 have: ∀j,j<L.length->j∈r:=λj b=>by
  obtain⟨s,p,c,g,m,e⟩:=Px hG E b;have l:s∈K:=d.perm.mem_iff.2 (jY.2 ⟨om,c⟩);obtain⟨t,a,o⟩:=k.nm _ _ ⟨s,all s l,rfl⟩ m;have:t=j:=wU E.nodup ((k.rk.mem t).1 a).1 b (o.trans e);rw[←this];exact a
 have:=List.Nodup.length_le_of_subset (l₁:=List.range L.length) (l₂:=r) List.nodup_range λx f=>this x (Dj.1 f)
 rw[Xf] at this;omega
theorem Cz (k:yW n G L r)(d:Ab n G L K)(v:r.length<L.length):(∃i,i∈K/\i∉r/\Qx n G L K r=Ai n G L r i)/\yW n G L (Qx n G L K r)/\r.length<(Qx n G L K r).length/\
  ∀j,j∈K->j∉r->(∀x∈Ai n G L r j,x∈Qx n G L K r)->Ai n G L r j=Qx n G L K r:=by
 have q:=YZ (RV (aeR hG E k d v))
 have e:JE (KL (fdF n G L r K))=Qx n G L K r:=rfl
 rw[e] at q
 obtain⟨w,p⟩:=Rq.1 q
 obtain⟨i,hi,b,e⟩:=Gu.1 w
 have a:=d.lt hi
 refine⟨⟨i,hi,b,e⟩,by rw[e];exact Uc hG E k a,by rw[e];exact (Dr k a b).2.2,λj s f c=>?_⟩
 have t:=(Uc hG E k (d.lt s)).rk
 have u:Rk L (RG L (Qx n G L K r)) (Qx n G L K r):=by rw[e];exact (Uc hG E k a).rk
 have o:=t.asc.imp λh=>Nat.ne_of_lt h
 have A:=List.Nodup.length_le_of_subset o c
 have z:(Qx n G L K r).length<=(Ai n G L r j).length:=by
  refine Nat.le_of_not_lt λh=>?_
  rw[Bool.not_eq_true'] at p;have:=List.any_eq_false.1 p _ (Gu.2 ⟨j,s,f,rfl⟩);rw[sE,Ak,zP] at this;exact this ⟨h,λx l=>cI (c x l)⟩
 refine pL t.asc u.asc λx=>⟨c x,λl=>Jj λb=>?_⟩
 have:=List.Nodup.length_le_of_subset (List.nodup_cons.2 ⟨b,o⟩) (l₂:=Qx n G L K r) λy m=>by
  rcases vI.1 m with rfl|m
  ·exact l
  ·exact c y m
 rw[List.length_cons] at this
 omega
end
structure Ec (n:Nat)(G:List Nat->Prop)(L:LN)(K:List Nat)(rs:LN)(r:List Nat):Prop where
 hd:rs[0]? =some (Lf L λx=>x=aX n)
 st: ∀k a b,rs[k]? =some a->rs[k+1]? =some b->a.length<L.length/\b=Qx n G L K a
 la:rs[rs.length- 1]? =some r
 all: ∀a∈rs,yW n G L a
 len:rs.length<=r.length
structure zC (n:Nat)(G:List Nat->Prop)(L:LN)(K:List Nat)(rs:LN):Prop where
 ex: ∃r,Ec n G L K rs r/\r.length=L.length
section
variable {n:Nat} {G:List Nat->Prop} {L:LN} {K r:List Nat} {rs:LN} (hG:dO n G) (E:cZ G L)
include hG E
theorem Ec.start:Ec n G L K [Lf L λx=>x=aX n] (Lf L λx=>x=aX n):=by
 refine⟨rfl,λk a b f d=>by simp at d,rfl,λa c=>by rw[List.mem_singleton.1 c];exact EB hG E,?_⟩;obtain⟨i,hi,e⟩:=Ad.1 ((E.mem _).2 hG.one);have:i∈Lf L λx=>x=aX n:=((zH L _).mem i).2 ⟨hi,by rw[List.getD,dD hi];exact e⟩
 exact Rl this
theorem Ec.push (c:Ec n G L K rs r)(q:Ab n G L K)(m:r.length<L.length):Ec n G L K (rs++ [Qx n G L K r]) (Qx n G L K r):=by
 have s:0<rs.length:=by
  have:=(vJ.1 c.hd).1;exact this
 have o:yW n G L r:=c.all r (Xu c.la);obtain⟨_,p,v,_⟩:=Cz hG E o q m;refine⟨by rw[Dt s];exact c.hd,λk a b d f=>?_,by rw[iV];show (rs++_)[rs.length+1- 1]? =_;rw[Nat.add_sub_cancel,Jg (fN _),Nat.sub_self];rfl,λa t=>?_,by rw[iV];show rs.length+1<=_;have:=c.len;omega⟩
 ·by_cases e:k+1<rs.length
  ·rw[Dt om] at d
   rw[Dt e] at f;exact c.st k a b d f
  ·have j:=(vJ.1 f).1
   rw[iV] at j;have j:k+1<rs.length+1:=j;have u:k+1=rs.length:=om
   rw[Dt om] at d;rw[Jg om,u,Nat.sub_self] at f;have l:=c.la;rw[show rs.length- 1=k by omega] at l;rw[l] at d;cases d;cases f;exact⟨m,rfl⟩
 ·rcases oD.1 t with h|h
  ·exact c.all a h
  ·rw[List.mem_singleton.1 h];exact p
end
end Go.Proofs.YtcdbmkidaecdiaaGreat
