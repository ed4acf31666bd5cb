/- Texts of the claim. -/
import Derived.Test.YtcdbmkidaecdiaaGreatP6btoP8a
import Derived.Test.YtcdbmkidaecdiaaGreatAy18toP6a
set_option maxHeartbeats 64000000
set_option maxRecDepth 100000
namespace Go.Proofs.YtcdbmkidaecdiaaGreat
open Go Go.Ay Go.Pm
section
variable {h:H} {ws:List V} {l:LN} {k:Nat}
theorem tK.frb {i h':H}{x:V}{n m sz:Nat}{us:List V}(p:tK h x n m sz ws us h')(f:Fr i h){b:Nat}{a:List V}(o:cW h x b a i.next):Fr i h':=by
 have r:=f.next;refine⟨by rw[p.next];omega,λid d=>?_⟩;rw[p.old id om (λq j n c e s=>by have:=(o.in _ _ _ _ e).2.1;omega)];exact f.get id d
theorem tL {a:H}{d v:V}(o:cW h d 1 ws a.next)(f:Fr a h)(z:ws.length<1000000){bytes:Nat}(w:bytes<=24):
  ∃h2,rD (h.new (.cells false [v])) 1 bytes d (.sl h.next 0 1 (.kn 1))=some (.sl (h.next+1) 0 (ws.length+1) (.un 1),h2)/\cW h2 (.sl (h.next+1) 0 (ws.length+1) (.un 1)) 1 (ws++ [v]) a.next/\Fr a h2/\h2.next=h.next+2/\ ∀id,id<h.next->dS d id->h2.get id=h.get id:=by
 obtain⟨u,s,p,t,x,i⟩:=dF (h:=h) rfl [v]
 rw[s]
 have r:=o.fr i
 obtain⟨h2,j,c⟩:=r.push (bytes:=bytes) (SV.one om t (.kn 1)) (n:=ws.length) (m:=1) om rfl om om ⟨by
  have:(2*(ws.length+1)+1000)*bytes<=(2*(ws.length+1)+1000)*24:=Nat.mul_le_mul_left _ w
  omega,om⟩
 rw[p] at j
 have y:=f.next
 have q:=c.own om rfl (b:=a.next) om
 rw[p] at q
 have nx:=c.next
 exact⟨h2,j,q,tK.frb c (f.trans i) r,om,λid u h2=>by rw[c.old id om h2,x id om]⟩
theorem MH (t:qW)(i p:Nat):(eR t i p).length<=p:=by
 unfold eR;have:=List.length_filterMap_le (t i) (List.range p);rwa [Ng] at this
theorem Qi (n:Nat)(t:qW): ∀i,(eB n t i).length<=i*n
 |0=>by simp [eB]
 |i+1=>by
  rw[ET,iB,Nat.succ_mul];have:=Qi n t i;have:=MH t i n;omega
theorem vW (b:Nat)(W:Nat->Prop)(h:H)(n:Nat)(s:V)(ρ:Nat->Nat)(F:Nat->Nat->V)(t:qW)(hn:n<=64)(h0:0<n)(R:Du b W h n s ρ F t)(TI:pF n t):
  Ev T 130 [s] h (λv h'=> ∃ws,cW h' v 1 ws h.next/\fG W h ws (fY n t 0)/\Fr h h'):=by
 have B:=R.open.1
 refine nL ?_
 refine aH (λu c o=> ∃(i:Nat) (d:V) (ws:List V),(∃g:Nat->V,c= [s,g 1,d,aC i,g 4,g 5,g 6,g 7])/\i<=n/\cW o d 1 ws h.next/\fG W h ws (eB n t i)/\Fr h o/\u=n-i) n
  ⟨0,.aD, [],aB rfl,fE _,cW.aD _ _ _,trivial,Fr.refl h,rfl⟩ ?_
 rintro u c h2 ⟨i,d,ws,⟨g,rfl⟩,hi,m,a,f,rfl⟩
 by_cases r:(i:Int)<(n:Int)
 case neg=>
  have P:=bT r;obtain rfl:i=n:=om
  refine cU B P ?_;rw[Pk] at a;exact⟨ws,m,a,f⟩
 have P:=cJ r
 have q:i<n:=om
 refine cU B P ?_
 refine rY (λvs o=> ∃(d:V) (ws:List V),(∃g:Nat->V,vs= [s,g 1,d,aC i,g 4,g 5,g 6,g 7])/\cW o d 1 ws h.next/\fG W h ws (eB n t (i+1))/\Fr h o) ?_ ?_
 .refine aH (λu c o=> ∃(j:Nat) (d:V) (ws:List V),(∃g:Nat->V,c= [s,g 1,d,aC i,aC j,g 5,g 6,g 7])/\j<=n/\cW o d 1 ws h.next/\fG W h ws (eB n t i++eR t i j)/\Fr h o/\u=n-j) n
   ⟨0,d,ws,aB rfl,fE _,m,by unfold eR;rw[List.range_zero,List.filterMap_nil,qV];exact a,f,rfl⟩ ?_
  clear m a f hi g
  rintro u c O ⟨j,d,ws,⟨g,rfl⟩,hj,m,a,f,rfl⟩
  by_cases p:(j:Int)<(n:Int)
  case neg=>
   have G:=bT p;obtain rfl:j=n:=om
   refine cU B G ?_;exact⟨d,ws,aB rfl,m,by rw[ET];exact a,f⟩
  have G:=cJ p
  have w:j<n:=om
  have Q:=R.mono f
  obtain⟨_,a0,Z,A,N⟩:=Q.open
  have U:=N i q
  have K:=Q.cell q w
  have J:=R.ent i j q w
  have lw:=aJ.length a
  have l1:=Qi n t i
  have l2:=MH t i j
  have l3:i*n<=64*64:=Nat.mul_le_mul om hn
  rw[iB] at lw
  cases hto:t i j with
  |none=>
   rw[hto] at J;rw[J.nil] at K;refine iT B G @A.ixa U K ?_;rw[eJ j];refine⟨n-(j+1),om,j+1,d,ws,aB rfl,om,m.fr ((Fr.refl O).bU om),?_,f.bU om,rfl⟩;rw[CA,hto];simpa using a
  |some y=>
   rw[hto] at J;have x:PV W h (F i j) y:=J;have Y:=Ch x (aY.ne h0 (TI.bM _ _ _ hto)) true;generalize F i j=vz at K x Y;obtain⟨S,a1⟩:=exI O.next;simp(disch:=omega)only[go_sem,B,G,A.ixa,U,K,Y,cQ _ (z:= .aD) x.eZ.1 x.eZ.2];obtain⟨h4,a4,L,f4,n4,_⟩:=tL (v:=vz) m f om (bytes:=24) om;refine bE a4 ?_;rw[eJ j];refine⟨n-(j+1),om,j+1,_,_,aB rfl,om,L,?_,f4,rfl⟩;rw[CA,hto,<-pJ];exact a.append (fG.one x)
 rintro c O ⟨d,ws,⟨g,rfl⟩,m,a,f⟩
 refine aM ?_
 rw[eJ i]
 exact⟨n-(i+1),om,i+1,d,ws,aB rfl,om,m,a,f,rfl⟩
theorem fG.open {W:Nat->Prop}{v:V}(sv:SV h v 1 ws)(p:fG W h ws l):bH v=some (aC (l.length:Int))/\ ∃id off,Sl v 1 l.length id off/\ ∀i,i<l.length->id<h.next/\h.cell id (off+i)=some (ws.getD i .undef)/\PV W h (ws.getD i .undef) (l.getD i []):=by
 have j:=aJ.length p;refine⟨by unfold bH;rw[SV.len sv (n:=l.length) om om];rfl,?_⟩;obtain⟨id,off,f,a,d⟩:=SV.shape sv l.length om om;refine⟨id,off,f,λi hi=>⟨a om,?_,?_⟩⟩
 .rw[d i om];simp [List.getD,show i<ws.length by omega]
 .obtain⟨w,c,b⟩:=fG.at p hi
  rw[List.getD,c];exact b
theorem Ji {α:Type}{l:List α}{x d:α}:x∈l.take k↔ ∃q,q<k/\q<l.length/\l.getD q d=x:=by
 constructor
 .intro h
  obtain⟨q,a,e⟩:=rV.1 h;rw[wH] at a;refine⟨q,om,om,?_⟩;rw[List.getElem_take] at e;rw[List.getD,dC om,<-e];rfl
 .rintro⟨q,h1,h2,e⟩
  rw[List.getD,dC h2] at e;refine rV.2 ⟨q,by rw[wH];omega,?_⟩;rw[List.getElem_take];exact e
theorem Ac {x:List Nat}(c:k<l.length):x∈l.take (k+1)↔x∈l.take k\/l.getD k []=x:=by
 rw[Ji (d:= []),Ji (d:= [])];constructor
 .rintro⟨q,b,a,e⟩
  by_cases h:q=k
  .subst h;exact .inr e
  .exact .inl ⟨q,om,a,e⟩
 .rintro (⟨q,b,a,e⟩|e)
  .exact⟨q,om,a,e⟩
  .exact⟨k,om,c,e⟩
theorem LI {L:LN}(a:k<L.length):(L.take (k+1)).filter (λy=>decide (y∉l))=(L.take k).filter (λy=>decide (y∉l))++if L.getD k []∈l then [] else [L.getD k []]:=by
 rw[dJ [] a,List.filter_append];generalize L.getD k []=z
 by_cases e:z∈l<;>simp [e,List.filter]
theorem MG (b:Nat)(W:Nat->Prop)(h:H)(n:Nat)(Q vl:V)(wl:List V)(l:LN)(ρ:Nat->Nat)(F:Nat->Nat->V)(t:qW)(hn:n<=64)(h0:0<n)(R:Du b W h n Q ρ F t)(TI:pF n t)(sl:SV h vl 1 wl)(pl:fG W h wl l)(hl: ∀x∈l,aY n x)(ll:l.length<1000000):
  Ev T 131 [Q,vl] h (λv h'=> ∃ws,cW h' v 1 ws h.next/\fG W h ws (frF n t l)/\Fr h h'):=by
 refine nL ?_
 refine (vW b W h n Q ρ F t hn h0 R TI).mono ?_
 rintro ve h1 ⟨we,oe,pe,f1⟩
 obtain⟨L,hL⟩:=exI (fY n t 0)
 have EP: ∀y∈L,aY n y:=λy hy=>TI.KD y (by rw[hL];exact hy)
 have lL:L.length<=4096:=by
  rw[<-hL,<-Pk];have:=Qi n t n;have:=Nat.mul_le_mul hn hn;omega
 unfold frF
 rw[hL] at pe |-
 have a9:fG W h1 we L:=fG.fx pe (Fx.of f1)
 have b7:=aJ.length pe
 obtain⟨a2,J,j,a5,b4⟩:=fG.open oe.sv a9
 obtain⟨a6,a1,r,b1,b0⟩:=fG.open sl pl
 refine aM ?_
 refine aH (λk' a hh=> ∃(i:Nat) (U:V) (ws:List V),(∃g:Nat->V,a= [Q,vl,g 2,U,ve,aC i,g 6,g 7,g 8,g 9,g 10])/\i<=L.length/\cW hh U 1 ws h1.next/\fG W h ws ((L.take i).filter λy=>decide (y∉l))/\Fr h1 hh/\k'=L.length-i) L.length
  ⟨0,.aD, [],aB rfl,fE _,cW.aD _ _ _,trivial,Fr.refl h1,rfl⟩ ?_
 rintro k' a h2 ⟨i,U,ws,⟨g,rfl⟩,hi,ow,m,f,rfl⟩
 by_cases a3:(i:Int)<(L.length:Int)
 case neg=>
  have e1:=bT a3;obtain rfl:i=L.length:=om
  refine cU a2 e1 ?_;rw[List.take_length] at m;exact⟨ws,ow.le f1.next,m,f1.trans f⟩
 have e1:=cJ a3
 have p:i<L.length:=om
 obtain⟨i1,c1,p1⟩:=b4 i p
 have Y:=EP _ (aV (d:= []) p)
 obtain⟨y,hy⟩:=exI (L.getD i [])
 have B:PV W h (we.getD i .undef) (L.getD i []):=by
  obtain⟨w,o,h4⟩:=fG.at pe p;rw[List.getD,o];exact h4
 rw[hy] at p1 Y B
 generalize we.getD i .undef=vy at c1 p1 B
 refine cU a2 e1 ?_
 refine bY (λvs hh=>(∃g:Nat->V,vs= [Q,vl,g 2,U,ve,aC i,.bool (decide (y∈l)),g 7,g 8,g 9,g 10])/\Fr h2 hh) ?_ ?_
 .refine aH (λk' a hh=> ∃(k:Nat) (s:Bool),(∃g:Nat->V,a= [Q,vl,g 2,U,ve,aC i,.bool s,aC k,g 8,g 9,g 10])/\k<=l.length/\(s=true↔y∈l.take k)/\Fr h2 hh/\k'=l.length-k) l.length
   ⟨0,false,aB rfl,fE _,siM,Fr.refl h2,rfl⟩ ?_
  clear g
  rintro k' a o ⟨k,s,⟨g,rfl⟩,hk,hs,O,rfl⟩
  cases s with
  |true=>
   have q:decide (y∈l)=true:=cJ (List.mem_of_mem_take (hs.1 rfl));refine aM ?_;exact⟨by rw[q];exact aB rfl,O⟩
  |false=>
  have A:y∉l.take k:=λh=>by have:=hs.2 h;cases this
  by_cases u:(k:Int)<(l.length:Int)
  case neg=>
   have q:=bT u;obtain rfl:k=l.length:=om
   rw[List.take_length] at A;have e4:decide (y∈l)=false:=bT A;refine cU a6 q ?_;exact⟨by rw[e4];exact aB rfl,O⟩
  have q:=cJ u
  have K:k<l.length:=om
  obtain⟨i2,c2,p2⟩:=b0 k K
  have Z:=hl _ (aV (d:= []) K)
  obtain⟨z,hz⟩:=exI (l.getD k [])
  rw[hz] at p2 Z
  generalize wl.getD k .undef=vz at c2 p2
  have c:=f.trans O
  have G:=f1.trans c
  have N:o.cell J (j+i)=some vy:=by rw[c.cell i1];exact c1
  have b2:o.cell a1 (r+k)=some vz:=by rw[G.cell i2];exact c2
  have v1:=SV.dM p1.si
  have v2:=SV.dM p2.si
  refine kA a6 q @a5.ixa N @b1.ixa b2 ?_
  have fb:Fr o (H.mk o.tr (o.next+10)):=(Fr.refl o).bU om
  refine (Pu vy vz _ _ _ (p1.si.mono (c.trans fb)) (p2.si.mono (G.trans fb)) (by rw[aL,Y.len];omega) (by rw[aL,Z.len];omega)).mono ?_
  rintro _ h4 ⟨rfl,f4⟩
  have P:=fb.trans f4
  have a7:h4.cell J (j+i)=some vy:=by rw[(c.trans P).cell i1];exact c1
  have b3:h4.cell a1 (r+k)=some vz:=by rw[(G.trans P).cell i2];exact c2
  refine gX a7 b3 v1 v2 ?_
  rw[eJ k]
  refine⟨l.length-(k+1),om,k+1,_,aB rfl,om,?_,O.trans P,rfl⟩
  rw[tU,Ac K,hz]
  exact⟨λe=> .inr (Qk e).symm,λh=>h.elim (λh=>(A h).elim) λe=>by rw[e]⟩
 rintro a o ⟨⟨g,rfl⟩,O⟩
 have c:=f.trans O
 have N:o.cell J (j+i)=some vy:=by rw[c.cell i1];exact c1
 have a0:=ow.fr O
 have b5:=aJ.length m
 have b6:((L.take i).filter λy=>decide (y∉l)).length<=i:=kP (List.length_filter_le _ _) (by rw[wH];omega)
 have ft:=LI (L:=L) (l:=l) p
 rw[hy] at ft
 by_cases hm:y∈l
 .have q:=cJ hm
  refine bE q ?_
  rw[eJ i]
  rw[bL hm,qV] at ft
  exact⟨L.length-(i+1),om,i+1,U,ws,aB rfl,om,a0,by rw[ft];exact m,c,rfl⟩
 .have q:=bT hm
  obtain⟨h4,a4,a8,f4,n4,_⟩:=tL (v:=vy) a0 c om (bytes:=24) om
  simp(disch:=omega)only[go_sem,q,a5.ixa,N,cQ _ (z:= .aD) p1.eZ.1 p1.eZ.2,a4]
  rw[eJ i]
  rw[bV hm] at ft
  exact⟨L.length-(i+1),om,i+1,_,_,aB rfl,om,a8,by rw[ft];exact m.append (fG.one B),f4,rfl⟩
end
structure CJ (b:Nat)(W:Nat->Prop)(h hh:H)(n:Nat)(tv:V)(ρ:Nat->Nat)(L:List Nat->Prop)(t0:qW)(vl:V)(l:LN)(t:qW):Prop where
 ex: ∃W' F wl,Du b W' hh n tv ρ F t/\cW hh vl 1 wl h.next/\fG W' hh wl l/\Dp W' vl/\ ∀id,id<h.next->W' id->W id
 fx:Fx W h hh
 cls:zP n L t l
 sub:Sub t0 t
theorem WN {n:Nat}{t:qW}{x:List Nat}{L:List Nat->Prop}{l:LN}(c:zP n L t l)(b:pF n (jI t n x))(h:(fY n t 0).length<(fY n (jI t n x) 0).length):0<(frF n (jI t n x) l).length:=by
 refine List.length_pos_iff.2 λe=>?_
 unfold frF at e;rw[List.filter_eq_nil_iff] at e
 have:(fY n (jI t n x) 0).length<=(fY n t 0).length:=List.Nodup.length_le_of_subset (vZ b) λy a=>by
  have:=e y a;simp at this;exact (c.mem y).1 this
 omega
theorem CH (n:Nat)(t:qW)(a:n<=64):(fY n t 0).length<=4096:=by
 rw[<-Pk];have:=Qi n t n;have:=Nat.mul_le_mul a a;omega
theorem SS {n:Nat}{t:qW}{l m:LN}{a c:Nat}(f:a<l.length)(d:c<l.length):Pr n t (l++m) a c↔Pr n t l a c:=by
 have e: ∀k,k<l.length->(l++m).getD k []=l.getD k []:=λk b=>by rw[List.getD,List.getD,wU b]
 unfold Pr;rw[e a f,e c d]
theorem RJ (b:Nat)(W:Nat->Prop)(h:H)(n:Nat)(v:V)(ρ:Nat->Nat)(F:Nat->Nat->V)(t:qW)(L:List Nat->Prop)(hn:n<=7)(h0:0<n)(hb:b<=h.next)(R:Du b W h n v ρ F t)(hL: ∀g,L g->aY n g)(tl:Jd n L t):
  Ev T 88 [v] h (λ_ h'=> ∃W' F' t',Du b W' h' n v ρ F' t'/\Jd n L t'/\Sub t t'/\Gq n t'/\Fx W h h'/\ ∀id,id<h.next->W' id->W id):=by
 have d6:n^n<=823543:=by
  have: ∀n,n<=7->n^n<=823543:=deC
  exact this n hn
 refine nL ?_
 refine (vW b W h n v ρ F t om h0 R tl.tab).mono ?_
 rintro p h1 ⟨Z,Q,N,f1⟩
 refine aM ?_
 refine aH (λk' r hh=> ∃(i:Nat) (p:V) (l:LN) (t':qW),(∃g:Nat->V,r= [v,p,aC i,g 3,g 4,g 5,g 6,g 7,g 8,g 9,g 10,g 11])/\CJ b W h hh n v ρ L t p l t'/\i<=l.length/\(∀a c,a<i->c<i->Pr n t' l a c)/\k'=1000000-i) 1000000
  ⟨0,p,fY n t 0,t,aB rfl,⟨⟨λid=>W id\/ ∃z m c,p= .sl id z m c,F,Z,?_,Q,?_,λid z m c e=> .inr ⟨_,_,_,e⟩,λid G f=>?_⟩,Fx.of f1,zP.start tl,Sub.refl t⟩,fE _,λa c ha=>om,rfl⟩ ?_
 .refine R.go (Fx.of f1) (λi hi=>f1.get _ (R.Iq _ (R.wb i hi))) (λid G f=>?_) (λid f=> .inl f) (λid f=>?_) (λid f=>?_)
  .rcases f with f|⟨z,m,c,e⟩
   .exact f
   .have:=(Q.in _ _ _ _ e).2.1;omega
  .rcases f with f|⟨z,m,c,e⟩
   .exact kQ (R.Iq id f) f1.next
   .exact (Q.in _ _ _ _ e).1
  .rcases f with f|⟨z,m,c,e⟩
   .exact R.low id f
   .have:=(Q.in _ _ _ _ e).2.1;omega
 .refine fG.go N (Fx.of f1) λid G f=>?_
  rcases f with f|⟨z,m,c,e⟩
  .exact f
  .have:=(Q.in _ _ _ _ e).2.1;omega
 .rcases f with f|⟨z,m,c,e⟩
  .exact f
  .have:=(Q.in _ _ _ _ e).2.1;omega
 clear Q N f1 p Z h1
 rintro k' r h1 ⟨i,p,l,s,⟨g,rfl⟩,J,hi,O,rfl⟩
 have lb:=J.cls.bound
 have a1:bH p=some (aC (l.length:Int)):=by
  obtain⟨⟨W',F',Z,_,Q,N,_⟩,_⟩:=J;exact (fG.open Q.sv N).1
 by_cases w:(i:Int)<(l.length:Int)
 case neg=>
  have P:=bT w;obtain rfl:i=l.length:=om
  refine cU a1 P ?_;obtain⟨⟨W',F',Z,R',_,_,_,hW⟩,fx,y,sub⟩:=J;exact⟨W',F',s,R',y.tl,sub,y.closed O,fx,hW⟩
 have P:=cJ w
 have o:i<l.length:=om
 refine cU a1 P ?_
 refine rY (λvs hh=> ∃(p:V) (l:LN) (t':qW),(∃g:Nat->V,vs= [v,p,aC i,g 3,g 4,g 5,g 6,g 7,g 8,g 9,g 10,g 11])/\CJ b W h hh n v ρ L t p l t'/\i<l.length/\ ∀a c,a<i+1->c<i+1->Pr n t' l a c) ?_ ?_
 .refine aH (λk' r hh=> ∃(k:Nat) (p:V) (l:LN) (t':qW),(∃g:Nat->V,r= [v,p,aC i,aC k,g 4,g 5,g 6,g 7,g 8,g 9,g 10,g 11])/\k<=i+1/\CJ b W h hh n v ρ L t p l t'/\i<l.length/\(∀a c,a<i->c<i->Pr n t' l a c)/\(∀c,c<k->Pr n t' l i c/\Pr n t' l c i)/\k'=i+1-k) (i+1)
   ⟨0,p,l,s,aB rfl,fE _,J,o,O,λc hc=>om,rfl⟩ ?_
  clear J hi O lb a1 w P o p l s g
  rintro k' r h2 ⟨k,p,l,s,⟨g,rfl⟩,hk,J,o,O,hQ,rfl⟩
  by_cases w:(k:Int)<=(i:Int)
  case neg=>
   have P:=bT w;obtain rfl:k=i+1:=om
   refine bE P ?_;refine⟨p,l,s,aB rfl,J,o,λa c ha hc=>?_⟩
   by_cases ea:a=i
   .subst ea;exact (hQ c hc).1
   .by_cases ec:c=i
    .subst ec;exact (hQ a ha).2
    .exact O a c om om
  have P:=cJ w
  have d1:k<=i:=om
  refine bE P ?_
  refine rY (λvs hh=> ∃(p:V) (l:LN) (t':qW),(∃g:Nat->V,vs= [v,p,aC i,aC k,g 4,g 5,g 6,g 7,g 8,g 9,g 10,g 11])/\CJ b W h hh n v ρ L t p l t'/\i<l.length/\(∀a c,a<i->c<i->Pr n t' l a c)/\ ∀c,c<k+1->Pr n t' l i c/\Pr n t' l c i) ?_ ?_
  .refine aH (λk' r hh=> ∃(q:Nat) (p:V) (l:LN) (t':qW),(∃g:Nat->V,r= [v,p,aC i,aC k,aC q,g 5,g 6,g 7,g 8,g 9,g 10,g 11])/\q<=2/\CJ b W h hh n v ρ L t p l t'/\i<l.length/\(∀a c,a<i->c<i->Pr n t' l a c)/\(∀c,c<k->Pr n t' l i c/\Pr n t' l c i)/\(0<q->Pr n t' l i k)/\(1<q->Pr n t' l k i)/\k'=2-q) 2
    ⟨0,p,l,s,aB rfl,om,J,o,O,hQ,λh=>om,λh=>om,rfl⟩ ?_
   clear J O hQ w P o p l s g
   rintro k' r h3 ⟨q,p,l,s,⟨g,rfl⟩,hq,J,o,O,hQ,hA,hB,rfl⟩
   by_cases w:(q:Int)<2
   case neg=>
    have P:=bT w;have d3:q=2:=om
    refine bE P ?_;refine⟨p,l,s,aB rfl,J,o,O,λc hc=>?_⟩
    by_cases ec:c=k
    .subst ec;exact⟨hA om,hB om⟩
    .exact hQ c om
   have P:=cJ w
   obtain⟨⟨W',F',Z,R',Q,N,bl,hW⟩,fx,y,sub⟩:=J
   obtain⟨a1,a3,Y,b8,c0⟩:=fG.open Q.sv N
   have lb:=y.bound
   obtain⟨i1,c1,p1⟩:=c0 i o
   obtain⟨_,c2,p2⟩:=c0 k om
   have ga:=y.gen _ (aV (d:= []) o)
   have gc:=y.gen _ (aV (d:= []) (show k<l.length by omega))
   obtain⟨a,ea⟩:=exI (l.getD i [])
   obtain⟨c,ec⟩:=exI (l.getD k [])
   rw[ea] at p1 ga
   rw[ec] at p2 gc
   have A:=ga.bM hL
   have C:=gc.bM hL
   generalize Z.getD i .undef=va at c1 p1
   generalize Z.getD k .undef=vc at c2 p2
   have v1:=SV.dM p1.si
   have v2:=SV.dM p2.si
   have vv:=SV.dM Q.sv
   refine gX P @b8.ixa c1 c2 ?_
   have fb:Fr h3 (H.mk h3.tr (h3.next+10)):=(Fr.refl h3).bU om
   refine (nV va vc a c _ (by rw[A.len];omega) (p1.si.mono fb) (p2.si.mono fb) (λj hj=>by rw[C.len];exact A.fZ (by rw[<-A.len];exact hj))).mono ?_
   rintro vx h4 ⟨s4,f4,l4⟩
   have B:=fb.trans f4
   have b0:h4.cell a3 (Y+i)=some va:=by rw[B.cell i1];exact c1
   have b6:h4.cell a3 (Y+k)=some vc:=by rw[B.cell i1];exact c2
   refine gX b0 b6 v1 v2 ?_
   have px:PV W' h4 vx (aS a c):=PV.fresh s4 l4 (λid G=>kQ (R'.Iq id G) fb.next)
   refine rU (λvs hh=> ∃(vx:V) (x:List Nat),(∃g:Nat->V,vs= [v,p,aC i,aC k,aC q,vx,g 6,g 7,g 8,g 9,g 10,g 11])/\PV W' hh vx x/\(q=0->x=aS a c)/\(q=1->x=aS c a)/\bX n L x/\Fr h3 hh) ?_ ?_
   .refine bI (λc7=>?_) (λc7=>?_)
    .have w1:(1:Int)=(q:Int):=om
     refine dQ @b8.ixa b0 b6 ?_
     have a4:Fr h4 (H.mk h4.tr (h4.next+10)):=(Fr.refl h4).bU om
     refine (nV vc va c a _ (by rw[C.len];omega) (p2.si.mono (B.trans a4)) (p1.si.mono (B.trans a4)) (λj hj=>by rw[A.len];exact C.fZ (by rw[<-C.len];exact hj))).mono ?_
     rintro vy h5 ⟨s5,f5,l5⟩
     have b5:=a4.trans f5
     have c8:h5.cell a3 (Y+i)=some va:=by rw[(B.trans b5).cell i1];exact c1
     have c4:h5.cell a3 (Y+k)=some vc:=by rw[(B.trans b5).cell i1];exact c2
     refine gX c8 c4 v1 v2 ?_
     refine .inl ⟨vy,aS c a,aB rfl,PV.fresh s5 l5 (λid G=>kQ (R'.Iq id G) (B.trans a4).next),λe=>om,λ_=>rfl,gc.app hL ga,B.trans b5⟩
    .refine aM ?_
     exact .inl ⟨vx,aS a c,aB rfl,px,λ_=>rfl,λe=>om,ga.app hL gc,B⟩
   clear px s4 l4 B b0 b6 f4 fb vx h4
   rintro r h4 ⟨vx,x,⟨g,rfl⟩,px,c5,c9,gx,f4⟩
   have R4:=R'.mono f4
   refine aM ?_
   refine (vW b W' h4 n v ρ F' s om h0 R4 y.tl.tab).mono ?_
   rintro v5 h5 ⟨w5,o5,c3,f5⟩
   have l5:bH v5=some (aC ((fY n s 0).length:Int)):=(fG.open o5.sv (fG.fx c3 (Fx.of f5))).1
   have m5:=CH n s om
   refine bE l5 ?_
   refine (Nn b W' h5 n v ρ F' s vx x om h0 (R4.mono f5) (PV.mono px f5) (gx.bM hL) y.tl.tab).mono ?_
   rintro _ h6 ⟨F6,rfl,R6,f6⟩
   obtain⟨u,K,a0,m,hm⟩:=y.step hL gx
   refine aM ?_
   refine (vW b W' h6 n v ρ F6 _ om h0 R6 u.tl.tab).mono ?_
   rintro v7 h7 ⟨w7,o7,d0,f7⟩
   have l7:bH v7=some (aC ((fY n (jI s n x) 0).length:Int)):=(fG.open o7.sv (fG.fx d0 (Fx.of f7))).1
   have m7:=CH n (jI s n x) om
   have R7:=R6.mono f7
   have b7:=f4.trans f5
   have a6:Fx W' h3 h7:=((Fx.of b7).trans (R4.wbx f6) (λ_ _ h=>h)).trans (Fx.of f7:Fx W' h6 h7) (λ_ _ h=>h)
   have a2: ∀j,j<n->ρ j<h.next:=λj hj=>R.Iq _ (R.wb j hj)
   have b3:cW h7 p 1 Z h.next:=by
    refine (((Q.fr b7).qX f6.next λid z m c e G=>f6.get id G λf=>?_).fr f7);obtain⟨j,hj,rfl⟩:=f;have:=(Q.in _ _ _ _ e).2.1;have:=a2 j hj;omega
   have U:fG W' h7 Z l:=fG.fx N a6
   refine bE l7 ?_
   have a7: ∀b1 h',CJ b W h h' n v ρ L t b1 (l++m) (jI s n x)->CJ b W h h' n v ρ L t b1 (l++m) (jI s n x)/\i<(l++m).length/\(∀a c,a<i->c<i->Pr n (jI s n x) (l++m) a c)/\(∀c,c<k->Pr n (jI s n x) (l++m) i c/\Pr n (jI s n x) (l++m) c i)/\(0<q+1->Pr n (jI s n x) (l++m) i k)/\(1<q+1->Pr n (jI s n x) (l++m) k i):=λb1 h' J=>by
    have b4:k<l.length:=om
    refine⟨J,by rw[iB];omega,λa c h1 h2=>(O a c h1 h2).mono K om om,λc hc=>⟨(hQ c hc).1.mono K o om,(hQ c hc).2.mono K om o⟩,λ_=>?_,λ_=>?_⟩
    .by_cases e0:q=0
     .rw[SS o b4]
      unfold Pr;rw[ea,ec,<-c5 e0];exact a0
     .exact (hA om).mono K o b4
    .have e0:q=1:=om
     rw[SS b4 o];unfold Pr;rw[ea,ec,<-c9 e0];exact a0
   refine bI (λb2=>?_) (λb2=>?_)
   .have hg:(fY n s 0).length<(fY n (jI s n x) 0).length:=om
    have em:m=frF n (jI s n x) l:=by
     unfold clF at hm;rw[bL hg] at hm;exact (List.append_cancel_left hm).symm
    have m0:=WN y u.tl.tab hg
    rw[<-em] at m0
    rw[hm] at u
    have c6:=u.bound
    rw[iB] at c6
    refine aM ?_
    refine (MG b W' h7 n v p Z l ρ F6 _ om h0 R7 u.tl.tab b3.sv U y.bM om).mono ?_
    rintro v8 h8 ⟨w8,o8,p8,f8⟩
    rw[<-em] at p8
    have lw:=aJ.length U
    have d7:=aJ.length p8
    have b9:=b3.fr f8
    have R8:=R7.mono f8
    obtain⟨h9,a9,p9⟩:=b9.push (bytes:=24) o8.sv (n:=l.length) (m:=m.length) om om om m0 ⟨om,om⟩
    have n9:=p9.next
    have a5:=p9.fx bl
    have d2:=a6.next
    have d4:=f8.next
    have d5:=fx.next
    refine bE a9 ?_
    rw[eJ q]
    have a8: ∀id,id<h8.next->(W' id\/id=h8.next)->W' id:=λid h1 h2=>by
     rcases h2 with h2|h2
     .exact h2
     .omega
    have J':CJ b W h h9 n v ρ L t (.sl h8.next 0 (l.length+m.length) (.un 1)) (l++m) (jI s n x):=by
     refine⟨⟨λid=>W' id\/id=h8.next,F6,Z++w8,?_,p9.own om om om,?_,λid z m c e=>by cases e;exact .inr rfl,λid G f=>?_⟩,?_,u,sub.trans K⟩
     .refine R8.go a5 (λj hj=>p9.old _ (by have:=a2 j hj;omega) λid z m c e e2=>by have:=(b9.in _ _ _ _ e).2.1;have:=a2 j hj;omega) a8 (λid f=> .inl f) (λid f=>?_) (λid f=>?_)
      .rcases f with f|f
       .have:=R8.Iq id f;omega
       .omega
      .rcases f with f|f
       .exact R8.low id f
       .omega
     .exact (fG.go (fG.fx U (Fx.of f8)) a5 a8).append (fG.go (fG.fx p8 (Fx.of f8)) a5 a8)
     .rcases f with f|f
      .exact hW id G f
      .omega
     .exact fx.trans ((a6.trans (Fx.of f8:Fx W' h7 h8) (λ_ _ h=>h)).trans a5 (λ_ _ h=>h)) hW
    obtain⟨j1,j2,j3,j4,j5,j6⟩:=a7 _ _ J'
    exact⟨2-(q+1),om,q+1,_,_,_,aB rfl,om,j1,j2,j3,j4,j5,j6,rfl⟩
   .have hg: ¬(fY n s 0).length<(fY n (jI s n x) 0).length:=om
    have em:m= []:=by
     unfold clF at hm;rw[bV hg] at hm;exact List.append_right_eq_self.1 hm.symm
    refine aM ?_
    rw[eJ q]
    have J':CJ b W h h7 n v ρ L t p (l++m) (jI s n x):=by
     rw[hm] at u;exact⟨⟨W',F6,Z,R7,b3,by rw[em,qV];exact U,bl,hW⟩,fx.trans a6 hW,u,sub.trans K⟩
    obtain⟨j1,j2,j3,j4,j5,j6⟩:=a7 _ _ J'
    exact⟨2-(q+1),om,q+1,_,_,_,aB rfl,om,j1,j2,j3,j4,j5,j6,rfl⟩
  rintro r h3 ⟨p,l,s,⟨g,rfl⟩,J,o,O,hQ⟩
  have lb:=J.cls.bound
  refine aM ?_
  rw[eJ k]
  exact⟨i+1-(k+1),om,k+1,p,l,s,aB rfl,om,J,o,O,hQ,rfl⟩
 clear J hi O lb a1 w P o p l s g
 rintro r h2 ⟨p,l,s,⟨g,rfl⟩,J,o,O⟩
 have lb:=J.cls.bound
 refine aM ?_
 rw[eJ i]
 exact⟨1000000-(i+1),om,i+1,p,l,s,aB rfl,J,om,O,rfl⟩
theorem Ke (t:qW)(i k:Nat):(zN t i k).length<=k:=by
 unfold zN;have:=List.length_filter_le (λp=>p==i||(t i p).isSome) (List.range k);rwa [Ng] at this
theorem Xw (b:Nat)(W:Nat->Prop)(h:H)(n:Nat)(B:V)(ρ:Nat->Nat)(F:Nat->Nat->V)(t:qW)(i:Nat)(hn:n<=64)(h0:0<n)(hi:i<n)(R:Du b W h n B ρ F t)(K:pF n t):
  Ev T 132 [B,aC i] h (λv h'=>cW h' v 1 (ints (zi (zN t i n))) h.next/\Fr h h'):=by
 have A:=R.open.1
 refine nL ?_
 refine aH (λO c U=> ∃(p:Nat) (o:V),(∃g:Nat->V,c= [B,aC i,g 2,o,aC p,g 5,g 6])/\i<=p/\p<=n/\cW U o 1 (ints (zi (zN t i p))) h.next/\Fr h U/\O=n-p) (n-i)
  ⟨i,.aD,aB rfl,eU _,om,by rw[AQ K];exact cW.aD _ _ _,Fr.refl h,rfl⟩ ?_
 rintro O c l ⟨p,o,⟨g,rfl⟩,a0,a1,J,f,rfl⟩
 by_cases k:(p:Int)<(n:Int)
 case neg=>
  have s:=bT k;obtain rfl:p=n:=om
  refine cU A s ?_;exact⟨J,f⟩
 have s:=cJ k
 have r:p<n:=om
 have L:=R.mono f
 obtain⟨_,a2,Q,q,G⟩:=L.open
 have N:=G i hi
 have z:=L.cell hi r
 have x:=R.ent i p hi r
 have ll:=Ke t i p
 have Z:=JT (t:=t) i p
 have step:(p=i\/(t i p).isSome)-> ∃d,rD (l.new (.cells false (ints [(p:Int)]))) 1 8 o (.sl l.next 0 1 (.kn 1))=some (.sl (l.next+1) 0 ((zN t i p).length+1) (.un 1),d)/\cW d (.sl (l.next+1) 0 ((zN t i p).length+1) (.un 1)) 1 (ints (zi (zN t i (p+1)))) h.next/\Fr h d:=λhc=>by
  obtain⟨d,j,a,u,n4,_⟩:=tL (v:= aC p) J f (by rw[aN,aL];omega) (bytes:=8) om;rw[aN,aL] at j a;refine⟨d,j,?_,u⟩;rw[Z,bL hc,Cf,oH];exact a
 by_cases m:p=i
 .have w:decide ((p:Int)=(i:Int))=true:=cJ om
  obtain⟨d,j,a,u⟩:=step (.inl m)
  refine iT A s w @Ek j ?_
  rw[eJ p]
  exact⟨n-(p+1),om,p+1,_,aB rfl,om,om,a,u,rfl⟩
 have w:decide ((p:Int)=(i:Int))=false:=bT om
 cases hto:t i p with
 |none=>
  rw[hto] at x;rw[x.nil] at z;refine kA A s w @q.ixa N z ?_;rw[eJ p];refine⟨n-(p+1),om,p+1,o,aB rfl,om,om,?_,f.bU om,rfl⟩;rw[Z,bV (by rw[hto];simp [m]),qV];exact J.fr ((Fr.refl l).bU om)
 |some y=>
  rw[hto] at x;have Y:PV W h (F i p) y:=x;have P:=Ch Y (aY.ne h0 (K.bM _ _ _ hto)) true;generalize F i p=vz at z Y P;obtain⟨d,j,a,u⟩:=step (.inr (by rw[hto];rfl));refine uG A s w @q.ixa N z P @Ek j ?_;rw[eJ p];exact⟨n-(p+1),om,p+1,_,aB rfl,om,om,a,u,rfl⟩
theorem PJ.ahV {h h':H}{v:V}{l:List Int}(c:PJ h l v h')(d:0<l.length):wQ h h' v l:=by
 obtain⟨_,f,e⟩:=c;obtain⟨id,rfl,b,a,i⟩:=e d;exact⟨⟨id,_,rfl,b,a,i,.inl rfl⟩,f⟩
theorem IH (b:Nat)(W:Nat->Prop)(h:H)(n:Nat)(tv:V)(ρ:Nat->Nat)(F:Nat->Nat->V)(t:qW)(d p:Nat)(x:List Nat)(hn:n<=64)(h0:0<n)(O:d<n)(hp:p<n)(R:Du b W h n tv ρ F t)(TI:pF n t)(tw:pH n 0 (lF n t))(a5:(lF n t d).to p=some x):
  Ev T 133 [tv,aC d,aC p] h (λv h'=>wQ h h' v (zi (Bq (lF n t) (n-(d+1)) (d+1) x))):=by
 have X:=(tJ TI O a5).1
 obtain⟨lv,c9,c3,c4,d0⟩:=R.open
 refine yF lv ?_
 refine (Rw n h om).mono ?_
 rintro v1 h1 ⟨s1,f1,l1⟩
 refine aM ?_
 have b2: ∀id,W id->id<h.next:=R.Iq
 refine rU (λvs w=> ∃vx,(∃g:Nat->V,vs= [tv,aC d,aC p,g 3,vx,g 5,g 6,g 7,g 8,g 9,g 10,g 11,g 12,g 13])/\PV W w vx x/\Fr h w) ?_ ?_
 .have r:(if p=d then some (bC n) else t d p)=some x:=a5
  refine bI (λb3=>?_) (λb3=>?_)
  .have L:p≠d:=om
   rw[bV L] at r
   have R1:=R.mono f1
   obtain⟨_,a1,J,Q,K⟩:=R1.open
   have cr:=K d O
   have ce:=R1.cell O hp
   have hS:=R1.ent d p O hp
   rw[r] at hS
   have pz:PV W h1 (F d p) x:=hS
   generalize F d p=vz at ce pz
   refine dQ @Q.ixa cr ce ?_
   exact .inl ⟨vz,aB rfl,pz,f1⟩
  .have L:p=d:=om
   rw[bL L] at r
   obtain rfl:bC n=x:=Option.some.inj r
   refine aM ?_
   exact .inl ⟨v1,aB rfl,PV.fresh s1 l1 b2,f1⟩
 clear s1 f1 l1 v1 h1
 rintro i h1 ⟨vx,⟨g,rfl⟩,px,f1⟩
 refine aM ?_
 rw[eJ d]
 refine bY (λvs w=> ∃s,(∃g:Nat->V,vs= [tv,g 1,g 2,g 3,s,g 5,g 6,g 7,g 8,g 9,g 10,g 11,g 12,g 13])/\PV W w s (Bq (lF n t) (n-(d+1)) (d+1) x)/\aY n (Bq (lF n t) (n-(d+1)) (d+1) x)/\Fr h w) ?_ ?_
 .refine aH (λk' i w=> ∃(k:Nat) (y:List Nat) (s:V),(∃g:Nat->V,i= [tv,g 1,g 2,g 3,s,aC k,g 6,g 7,g 8,g 9,g 10,g 11,g 12,g 13])/\d<k/\k<=n/\Bq (lF n t) (n-k) k y=Bq (lF n t) (n-(d+1)) (d+1) x/\
    PV W w s y/\aY n y/\Fr h w/\k'=n-k) (n-(d+1))
   ⟨d+1,x,vx,aB rfl,om,om,rfl,px,X,f1,rfl⟩ ?_
  clear px f1 vx h1 g
  rintro k' i h2 ⟨k,y,s,⟨g,rfl⟩,c8,c5,z,hy,Y,f,rfl⟩
  by_cases a8:(k:Int)<(n:Int)
  case neg=>
   have e1:=bT a8;obtain rfl:k=n:=om
   rw[Nat.sub_self] at z;refine cU lv e1 ?_;have a4:y=Bq (lF k t) (k-(d+1)) (d+1) x:=z;exact⟨s,aB rfl,by rw[<-a4];exact hy,by rw[<-a4];exact Y,f⟩
  have l:k<n:=om
  have e1:=cJ a8
  have R2:=R.mono f
  refine cU lv e1 ?_
  refine (Xw b W h2 n tv ρ F t k hn h0 l R2 TI).mono ?_
  rintro vo h3 ⟨oo,f3⟩
  obtain⟨o,ho⟩:=exI ((lF n t k).orb)
  rw[show zN t k n=o from ho] at oo
  have so:SI h3 vo (zi o):=oo.sv
  have lo:=so.lens
  rw[aL] at lo
  have mV:=(tw k (fE _) l).1
  have c6:o.length<=n:=by rw[<-ho];exact Ke t k n
  obtain⟨id,b7,sh,a7,hc⟩:=so.open
  rw[aL] at sh a7 hc
  have a9:=PV.mono hy f3
  obtain⟨a1,J,Q,A,K⟩:=a9.si.open
  rw[aL,Y.len] at Q A K
  refine aM ?_
  refine bY (λvs w=>(∃g:Nat->V,vs= [tv,g 1,g 2,g 3,s,aC k,g 6,aC (pG y k o:Int),g 8,g 9,g 10,g 11,g 12,g 13])/\pG y k o<n/\pG y k o∈k::o/\Fr h3 w) ?_ ?_
  .refine aH (λm' i w=> ∃(m b:Nat),(∃g:Nat->V,i= [tv,g 1,g 2,g 3,s,aC k,vo,aC b,aC m,g 9,g 10,g 11,g 12,g 13])/\m<=o.length/\b<n/\b∈k::o/\
     pG y b (o.drop m)=pG y k o/\Fr h3 w/\m'=o.length-m) o.length
    ⟨0,k,aB rfl,fE _,l,sZ ..,rfl,Fr.refl h3,rfl⟩ ?_
   rintro m' i h4 ⟨m,b1,⟨g3,rfl⟩,hm,hb,G,a,N,rfl⟩
   by_cases a0:(m:Int)<(o.length:Int)
   case neg=>
    have e2:=bT a0;have em:m=o.length:=om
    rw[em,List.drop_length] at a;have a:b1=pG y k o:=a;refine cU lo e2 ?_;exact⟨by rw[<-a];exact aB rfl,by rw[<-a];exact hb,by rw[<-a];exact G,N⟩
   have e2:=cJ a0
   have B:m<o.length:=om
   rw[Od _ _ B] at a
   have cq:h4.cell id (b7+m)=some (aC (o.getD m 0:Nat)):=by rw[N.cell (a7 om),hc m B];congr 2;simp [zi,B]
   have a2:o.getD m 0∈o:=by rw[bJ B];exact pN B
   have P:=mV.lt l (by rw[ho];exact a2)
   generalize o.getD m 0=q at cq a2 P a
   have c1:h4.cell a1 (J+q)=some (aC (y.getD q 0:Nat)):=by rw[N.cell (A om),K q P];congr 2;simp [zi,Y.len,P]
   have c2:h4.cell a1 (J+b1)=some (aC (y.getD b1 0:Nat)):=by rw[N.cell (A om),K b1 hb];congr 2;simp [zi,Y.len,hb]
   refine uA lo e2 @sh.ixa cq @Q.ixa c1 c2 ?_
   have fb:Fr h3 (H.mk h4.tr (h4.next+12)):=N.bU om
   refine bI (λb8=>?_) (λb8=>?_)
   .rw[bL om] at a
    refine cU @sh.ixa cq ?_
    rw[eJ m]
    exact⟨o.length-(m+1),om,m+1,q,aB rfl,om,P,tX _ a2,a,fb,rfl⟩
   .rw[bV om] at a
    refine aM ?_
    rw[eJ m]
    exact⟨o.length-(m+1),om,m+1,b1,aB rfl,om,hb,G,a,fb,rfl⟩
  rintro i h4 ⟨⟨g4,rfl⟩,hb,G,N⟩
  have a3:n-k=(n-(k+1))+1:=om
  rw[a3] at z
  have z:Bq (lF n t) (n-(k+1)) (k+1) (if pG y k (lF n t k).orb=k then y else aS (((lF n t k).to (pG y k (lF n t k).orb)).getD []) y)=Bq (lF n t) (n-(d+1)) (d+1) x:=z
  rw[ho] at z
  have R4:=R2.mono (f3.trans N)
  have a6:=PV.mono a9 N
  generalize pG y k o=q at z hb G
  by_cases Z:q=k
  .rw[bL Z] at z
   have e0:decide ((q:Int)≠(k:Int))=false:=bT om
   refine bE e0 ?_
   rw[eJ k]
   exact⟨n-(k+1),om,k+1,y,s,aB rfl,om,om,z,a6,Y,(f.trans f3).trans N,rfl⟩
  rw[bV Z] at z
  have e0:decide ((q:Int)≠(k:Int))=true:=cJ om
  have b4:q∈(lF n t k).orb:=by
   rcases uL.1 G with e|e
   .exact absurd e Z
   .rw[ho];exact e
  obtain⟨u,hu⟩:=mV.to b4
  have U:=mV.bM _ _ hu
  have b0:(if q=k then some (bC n) else t k q)=some u:=hu
  rw[bV Z] at b0
  obtain⟨_,c7,c0,b9,b5⟩:=R4.open
  have cr:=b5 k l
  have ce:=R4.cell l hb
  have hS:=R4.ent k q l hb
  rw[b0] at hS
  have pu:PV W h4 (F k q) u:=hS
  generalize F k q=vu at ce pu
  rw[hu] at z
  refine gX e0 @b9.ixa cr ce ?_
  refine (nV vu s u y h4 (by rw[U.len];omega) pu.si a6.si (λj hj=>by rw[Y.len];exact U.fZ (by rw[<-U.len];exact hj))).mono ?_
  rintro v h5 ⟨s5,f5,l5⟩
  refine aM ?_
  rw[eJ k]
  exact⟨n-(k+1),om,k+1,_,v,aB rfl,om,om,z,PV.fresh s5 l5 R4.Iq,U.mul Y,((f.trans f3).trans N).trans f5,rfl⟩
 rintro i h2 ⟨s,⟨g2,rfl⟩,py,Y,f2⟩
 refine aM ?_
 refine (Rq s _ h2 py.si (by rw[aL,Y.len];omega)).mono ?_
 rintro v h3 c
 have fr:=PJ.ahV c (by rw[aL,Y.len];exact h0)
 refine aM ?_
 obtain⟨⟨id,b6,e1,e2,e3,e4,e5⟩,f3⟩:=fr
 exact⟨⟨id,b6,e1,by have:=f2.next;omega,e3,e4,e5⟩,f2.trans f3⟩
theorem GS (b:Nat)(W0:Nat->Prop)(h:H)(n:Nat)(tv:V)(ρ:Nat->Nat)(F:Nat->Nat->V)(t:qW)(hn:n<=64)(h0:0<n)(R:Du b W0 h n tv ρ F t)(TI:pF n t)(tw:pH n 0 (lF n t)):
  Ev T 89 [tv] h (λv h'=> ∃O R',KU (λid=>id<h.next) h' v n O R'/\bA n (S n (lF n t) 0) O R'/\Fr h h'):=by
 have lv:=R.open.1
 obtain⟨τ,a6⟩:=exI (lF n t)
 obtain⟨B,hB⟩:=exI h.next
 have bl:oN [aC 0,.aD,.aD] [(0,1,aC n)]=some (.agg [aC n,.aD,.aD]):=by
  have e1:putAt [aC 0,.aD,.aD] 0 [aC n]=some [aC n,.aD,.aD]:=by simp [putAt]
  simp [oN,iH,e1,V.cells,V.one]
 obtain⟨U,a1⟩: ∃U,U=(h.new (.cells false [aC 0,.aD,.aD])).new (.cells false [aC 0,.aD,.aD]):=⟨_,rfl⟩
 have n1:U.next=B+2:=by rw[a1,H.aZ,H.aZ,hB]
 have g1:U.get (B+1)=bG [aC 0,.aD,.aD]:=by
  rw[a1];have:=H.aQ (h.new (.cells false [aC 0,.aD,.aD])) (.cells false [aC 0,.aD,.aD]);rwa [H.aZ,hB] at this
 have g0:U.get B=bG [aC 0,.aD,.aD]:=by rw[a1,H.bN _ (by rw[H.aZ,hB];omega),<-hB,H.aQ]
 have f1:Fr h U:=by rw[a1];exact ((Fr.refl h).new _).new _
 refine Ku hB lv bl ?_
 rw[<-a1]
 refine dQ (bW U (B+1) 0 (v:= aC n) (u:= .aD) (w:= .aD) rfl rfl rfl) g1 @bQ ?_
 obtain⟨l,a2⟩: ∃l,l=U.set (B+1) (bG [aC n,.aD,.aD]):=⟨_,rfl⟩
 have n2:l.next=B+2:=by rw[a2];exact n1
 have f2:Fr h l:=by rw[a2];exact f1.set om _
 have g2:l.get (B+1)=bG [aC n,.aD,.aD]:=by rw[a2,H.aW]
 have c6:l.get B=bG [aC 0,.aD,.aD]:=by rw[a2,H.aF _ om];exact g0
 rw[<-a2]
 clear a1 a2 f1 g0 g1 n1 U
 refine aH (λk' Z G=> ∃(i:Nat) (W:Nat->Prop) (O:LN) (R':iA) (vO K:V) (c3 b7:List V),(∃g:Nat->V,Z= [tv,.ptr B 0,.ptr (B+1) 0,aC i,g 4,g 5,g 6,g 7,g 8])/\i<=n/\xZ h G (B+1) B W n O R' vO K c3 b7/\
   G.get B=bG [aC 0,.aD,.aD]/\O.length=i/\R'.length=i/\(∀j,j<i->ChL τ n j (O.getD j []) (R'.getD j []))/\k'=n-i) n
  ⟨0,_, [], [],_,_,_,_,aB rfl,fE _,xZ.start om om om om om f2 g2,c6,rfl,rfl,λj hj=>om,rfl⟩ ?_
 clear f2 g2 c6 n2 l
 rintro k' Z l ⟨i,W,O,R',vO,K,c3,b7,⟨g,rfl⟩,hi,A,gB,lO,lR,hC,rfl⟩
 by_cases c5:(i:Int)<(n:Int)
 case neg=>
  have e1:=bT c5;obtain rfl:i=n:=om
  have hr:=aE A.get;have nB:=A.fr.next;refine kA lv e1 hr (bW l B 0 (v:= aC i) (u:=vO) (w:=K) rfl (SV.cM A.oO.sv).2.1 (SV.cM A.oR.sv).2.1) gB @bQ ?_;have d4:=aE (h:=l.set B (bG [aC i,vO,K])) (H.aW ..);have fB:Fx (· =B) l (l.set B (bG [aC i,vO,K])):=Fx.set l (W:=(· =B)) rfl _;refine bE d4 ?_
  obtain⟨h3,c4⟩: ∃h3,h3=l.set B (bG [aC i,vO,K]):=⟨_,rfl⟩
  rw[<-c4] at fB |-;have A3:=A.box c4;refine⟨O,R',by rw[<-hB];exact A3.chw,?_,A3.fr⟩;rw[a6] at tw |-;have X:=tw.chain (O:=O) (R:=R') lO lR (λj hj=>(hC j hj).1) (λj hj=>(hC j hj).2.1) (λj hj=>(hC j hj).2.2.1) (λj hj=>(hC j hj).2.2.2);exact X
 have e1:=cJ c5
 have b4:i<n:=om
 have R2:=R.mono A.fr
 have mV:=(tw i (fE _) b4).1
 rw[a6] at mV
 refine cU lv e1 ?_
 refine (Xw b W0 l n tv ρ F t i hn h0 b4 R2 TI).mono ?_
 rintro vo h4 ⟨oo,f4⟩
 obtain⟨q,hq⟩:=exI (zN t i n)
 have d1:q.Pairwise (· < ·):=by rw[<-hq];exact LG i n
 have a8: ∀p,p∈q↔p∈(τ i).orb:=λp=>by rw[<-hq,OZ,a6]
 have j2:q.length<=n:=by rw[<-hq];exact Ke t i n
 have i6:0<q.length:=Ss ((a8 i).2 mV.base)
 rw[hq] at oo
 obtain⟨P,cp,rfl,j1,i0,cP⟩: ∃P cp,vo= .sl P 0 q.length cp/\l.next<=P/\P<h4.next/\ ∀k,k<q.length->h4.cell P k=some (aC (q.getD k 0:Nat)):=by
  rcases oo with ⟨_,e⟩|⟨id,m,g9,i5,e1,e2,e3,e4,e5,e6⟩
  .have:=congrArg List.length e
   rw[aN,aL,List.length_nil] at this;omega
  .rw[aN,aL,qZ] at e2
   subst e2;exact⟨id,g9,e1,e4,e5,λk hk=>by rw[H.cell_of e6,wU (by rw[aN,aL];exact hk),Fq hk]⟩
 have A4:=A.mono f4
 have pq:PV W h4 (.sl P 0 q.length cp) q:=⟨oo.sv,λhw=>by have:=A.wb P hw;omega⟩
 have f3:h4.get B=bG [aC 0,.aD,.aD]:=by rw[f4.get B (A.wb B A.d)];exact gB
 clear A gB R2 oo
 refine aM ?_
 refine bY (λvs G=> ∃(N:V) (r:LN),(∃g:Nat->V,vs= [tv,.ptr B 0,.ptr (B+1) 0,aC i,.sl P 0 q.length cp,N,g 6,g 7,g 8])/\PL W G N r/\ChL τ n i q r/\Fr h4 G) ?_ ?_
 .refine aH (λk' vs G=> ∃(k:Nat) (N:V) (ws:List V) (r:LN) (W':Nat->Prop),(∃g:Nat->V,vs= [tv,.ptr B 0,.ptr (B+1) 0,aC i,.sl P 0 q.length cp,N,aC k,g 7,g 8])/\k<=q.length/\cW G N 1 ws h4.next/\fG W' G ws r/\Dp W' N/\(∀id,W id->W' id)/\(∀id,W' id->id<G.next/\(W id\/h4.next<=id))/\r.length=k/\
    (∀j,j<k-> ∀y,(τ i).to (q.getD j 0)=some y->r.getD j []=Bq τ (n-(i+1)) (i+1) y)/\Fr h4 G/\k'=q.length-k) q.length
   ⟨0,.aD, [], [],W,aB rfl,fE _,cW.aD _ _ _,trivial,λ_ _ _ _ e=>(by cases e),λ_ h=>h,λid h=>⟨A4.wb id h,.inl h⟩,rfl,λj hj=>om,Fr.refl _,rfl⟩ ?_
  rintro k' Z f ⟨k,N,ws,r,W',⟨g,rfl⟩,hk,ow,b9,e9,c9,c8,lr,hr,f5,rfl⟩
  by_cases b5:(k:Int)<(q.length:Int)
  case neg=>
   have e2:=bT b5;obtain rfl:k=q.length:=om
   refine bE e2 ?_;refine⟨N,r,aB rfl,⟨ws,ow.sv,?_,b9.jK (λid _ h=>c9 id h),cW.NK ow⟩,⟨d1,a8,lr,hr⟩,f5⟩
   cases N with
   |sl id b0 m c=>exact λh=>by have:=(ow.in _ _ _ _ rfl).2.1;have:=A4.wb id h;omega
   |_=>trivial
  have e2:=cJ b5
  have b6:k<q.length:=om
  obtain⟨p,hp⟩:=exI (q.getD k 0)
  have ck:f.cell P k=some (aC p):=by
   rw[f5.cell i0,cP k b6,hp]
  have c2:p∈(τ i).orb:=(a8 p).1 (by rw[<-hp,bJ b6];exact pN b6)
  have i1:=mV.lt b4 c2
  obtain⟨y,hy⟩:=mV.to c2
  have Y:=mV.bM _ _ hy
  have R5:=R.mono (A4.fr.trans f5)
  refine cU e2 ck ?_
  refine (IH b W0 f n tv ρ F t i p y hn h0 b4 i1 R5 TI tw (by rw[a6];exact hy)).mono ?_
  rw[a6]
  rintro v7 Q c7
  have f7:=c7.fr
  have p7:PV W' Q v7 (Bq τ (n-(i+1)) (i+1) y):=c7.pv λid h=>(c8 id h).1
  refine bE (cQ Q (z:= .aD) p7.eZ.1 p7.eZ.2) ?_
  obtain⟨L,J⟩: ∃L,L=Q.new (.cells false [v7]):=⟨_,rfl⟩
  have g8:L.get Q.next=bG [v7]:=by rw[J,H.aQ]
  have n8:L.next=Q.next+1:=by rw[J,H.aZ]
  have f8:Fr Q L:=by rw[J];exact (Fr.refl Q).new _
  rw[<-J]
  have b1:=f7.trans f8
  have g3:=ow.fr b1
  have i9:=aJ.length b9
  obtain⟨h9,a9,p9⟩:=g3.push (bytes:=24) (SV.one om g8 (.kn 1)) (n:=k) (m:=1) om rfl om om om
  refine bE a9 ?_
  rw[eJ k]
  have n9:=p9.next
  have f9:Fx W' L h9:=p9.fx e9
  have e8:=b1.next
  have c1: ∀id,id<L.next->(W' id\/id=L.next)->W' id:=λid U l=>by
   rcases l with l|l
   .exact l
   .omega
  refine⟨q.length-(k+1),om,k+1,_,_,r++ [Bq τ (n-(i+1)) (i+1) y],λid=>W' id\/id=L.next,aB rfl,om,p9.own om rfl (by have:=f5.next;omega),?_,λid b0 m c e=>by cases e;exact .inr rfl,λid h=> .inl (c9 id h),λid h=>?_,by rw[iB,lr];rfl,λj hj z hz=>?_,?_,rfl⟩
  .exact (fG.go (fG.go b9 (Fx.of b1) (λ_ _ h=>h)) f9 c1).append (fG.one (PV.go (p7.mono f8) f9 c1))
  .rcases h with h|h
   .have:=c8 id h;exact⟨om,this.2⟩
   .have:=f5.next;exact⟨om,.inr om⟩
  .by_cases e:j=k
   .subst e
    rw[hp,hy] at hz
    cases hz
    rw[<-lr,kB]
   .rw[mU om]
    exact hr j om z hz
  .refine⟨by have:=f5.next;omega,λid b2=>?_⟩
   rw[p9.old id (by have:=f5.next;omega) (λe0 b0 m c e e2=>by have:=(ow.in _ _ _ _ e).2.1;omega),b1.get id (by have:=f5.next;omega)]
   exact f5.get id b2
 rintro Z f ⟨N,r,⟨g,rfl⟩,pl,i2,f5⟩
 have s:=A4.mono f5
 have g5:=pq.mono f5
 have d7:f.get B=bG [aC 0,.aD,.aD]:=by rw[f5.get B (A4.wb B A4.d)];exact f3
 have cO:f.cell (B+1) 1=some vO:=by rw[H.cell_of s.get];rfl
 have cR:f.cell (B+1) 2=some K:=by rw[H.cell_of s.get];rfl
 obtain⟨ws,c0,d3,g7,d8⟩:=pl
 have pl:PL W f N r:=⟨ws,c0,d3,g7,d8⟩
 have i7:=s.fr.next
 have d2:=s.wb _ s.c
 simp(disch:=omega)only[go_sem,cO,cR,cQ _ (z:= .aD) (v:= .sl P 0 q.length cp) rfl rfl]
 obtain⟨h6,b3⟩: ∃h6:H,h6=H.mk ((H.mk f.tr (f.next+3)).new (Ob.cells false [.sl P 0 q.length cp])).tr (f.next+14):=⟨_,rfl⟩
 rw[<-b3]
 have g6:h6.get (f.next+3)=bG [.sl P 0 q.length cp]:=by rw[b3];exact H.aQ (H.mk f.tr (f.next+3)) _
 have n6:h6.next=f.next+14:=by rw[b3]
 have o6: ∀k,k≠f.next+3->h6.get k=f.get k:=λk hk=>by rw[b3];exact H.bN (H.mk f.tr (f.next+3)) (by simpa using hk) _
 have f6:Fr f h6:=⟨om,λid b2=>o6 id om⟩
 have j3:=aJ.length s.aO
 have i8:=aJ.length s.aR
 obtain⟨Q,a7,p7⟩:=(s.oO.fr f6).push (bytes:=24) (SV.one om g6 (.kn 1)) (n:=i) (m:=1) om rfl om om om
 have n7:=p7.next
 have a3: ∀k,k<f.next->dS vO k->Q.get k=f.get k:=λk U l=>by rw[p7.old k om l,o6 k om]
 have d6:Q.cell (B+1) 2=some K:=by unfold H.cell;rw[a3 (B+1) d2 s.pO,s.get];rfl
 have eR:dM K K=true:=s.oR.sv.dM
 have d0:N.cells= [N]/\N.one=true:=⟨(SV.cM c0).1,(SV.cM c0).2.1⟩
 simp(disch:=omega)only[go_sem,a7,d6,eR,cQ _ (z:= .aD) d0.1 d0.2]
 obtain⟨L,J⟩: ∃L:H,L=H.mk ((H.mk Q.tr (f.next+8)).new (Ob.cells false [N])).tr Q.next:=⟨_,rfl⟩
 rw[<-J]
 have g8:L.get (f.next+8)=bG [N]:=by rw[J];exact H.aQ (H.mk Q.tr (f.next+8)) _
 have n8:L.next=Q.next:=by rw[J]
 have o8: ∀k,k≠f.next+8->L.get k=Q.get k:=λk hk=>by rw[J];exact H.bN (H.mk Q.tr (f.next+8)) (by simpa using hk) _
 have d5:cW L K 1 b7 h.next:=s.oR.mono om λid b0 m c e _ b2=>by
  rw[o8 id om,a3 id b2 (λe0 i4 n' c' e' e2=>s.HG _ _ _ _ e' _ _ _ _ e e2.symm)]
 obtain⟨h9,a9,p9⟩:=d5.push (bytes:=24) (SV.one om g8 (.kn 1)) (n:=i) (m:=1) om rfl om om om
 have n9:=p9.next
 have g4: ∀k,f.next<=k->dS K k:=λk hk id b0 m c e e2=>by have:=(s.oR.in _ _ _ _ e).1;omega
 have a4: ∀k,k<f.next->dS vO k->dS K k->h9.get k=f.get k:=λk U l h3=>by rw[p9.old k om h3,o8 k om,a3 k U l]
 have d9:h9.get (B+1)=bG [aC n,vO,K]:=by rw[a4 _ d2 s.pO s.pR];exact s.get
 have i3:(G:H)->(x:V)->eH (bG [aC n,vO,K]) G (B+1) 1 [x]=some (G.set (B+1) (bG [aC n,x,K])):=λG x=>cF siM G _ x
 have f0:(G:H)->(x y:V)->eH (bG [aC n,x,K]) G (B+1) 2 [y]=some (G.set (B+1) (bG [aC n,x,y])):=λG x y=>cF siM G _ y
 refine gX a9 d9 i3 f0 ?_
 rw[eJ i]
 obtain⟨ha,hb⟩:h6.next=f.next+14/\L.next=f.next+15:=⟨n6,om⟩
 rw[ha,hb]
 obtain⟨a5,a0⟩: ∃a5,a5=(h9.set (B+1) (bG [aC n,.sl (f.next+14) 0 (i+1) (.un 1),K])).set (B+1) (bG [aC n,.sl (f.next+14) 0 (i+1) (.un 1),.sl (f.next+15) 0 (i+1) (.un 1)]):=⟨_,rfl⟩
 rw[<-a0]
 have b8: ∀k,k≠B+1->a5.get k=h9.get k:=λk hk=>by rw[a0,H.aF _ hk,H.aF _ hk]
 have j0:a5.next=f.next+16:=by rw[a0];show h9.next=_;omega
 have e7:=s.step (v4:= .sl P 0 q.length cp) (v5:=N) (o:=q) (r:=r) (h6:=a5) (a:=f.next+14) (b:=f.next+15) (k1:=i+1) (k2:=i+1) g5 pl om om om om om om om (by rw[a0,H.aW])
  (by rw[b8 _ om,p9.old _ om (g4 _ om),o8 _ om,<-ha];exact p7.get) (by rw[b8 _ om,<-hb];exact p9.get) (λk U l h3 h4=>by rw[b8 k l];exact a4 k U h3 h4)
 refine⟨n-(i+1),om,i+1,_,_,_,_,_,_,_,aB rfl,om,e7,?_,by rw[iB,lO];rfl,by rw[iB,lR];rfl,λj hj=>?_,rfl⟩
 .rw[a4 B (s.wb B s.d) s.qO s.qR];exact d7
 .by_cases e:j=i
  .subst e
   have e1:(O++ [q]).getD j []=q:=by rw[<-lO];exact kB
   have e2:(R'++ [r]).getD j []=r:=by rw[<-lR];exact kB
   rw[e1,e2]
   exact i2
  .rw[mU om,mU om]
   exact hC j om
theorem RM (h:H)(n:Nat)(a:n<=100000):Ct h 1 24 [.aD] (aC n) (aC n)=some (.sl h.next 0 n (.kn n),h.new (.cells false (rc n λ_=> .aD))):=by
 have e:dT [V.aD] n=rc n λ_=> .aD:=(Gy (by simp [dT]) λi hi=>by simp [dT,hi,Nat.mod_one]).symm
 rw[qT om (Int.le_refl _) om om,IF,qZ,e]
theorem RV (n:Nat)(h:H)(hn:n<=64):Ev T 86 [aC n] h (λv h'=> ∃ρ F,Du h.next (WB n ρ) h' n v ρ F (λ_ _=>none)/\Fr h h'):=by
 refine nL ?_
 refine aH (λK k w=> ∃(i:Nat) (t:V) (b:List Nat),(∃g:Nat->V,k= [aC n,g 1,t,aC i,g 4])/\i<=n/\b.length=i/\cW w t 1 (b.map λr=> .sl r 0 n (.kn n)) h.next/\b.Nodup/\
   (∀r∈b,h.next<=r/\r<w.next/\w.get r=some (.cells false (rc n λ_=> .aD))/\dS t r)/\Fr h w/\K=n-i) n
  ⟨0,.aD, [],aB rfl,fE _,rfl,cW.aD _ _ _,List.nodup_nil,λr l=>absurd l List.not_mem_nil,Fr.refl h,rfl⟩ ?_
 rintro K k G ⟨i,t,b,⟨g,rfl⟩,hi,B,y,nd,l,f,rfl⟩
 by_cases p:(i:Int)<(n:Int)
 case neg=>
  have A:=bT p;obtain rfl:i=n:=om
  refine bE A ?_;have x: ∀j,j<i->b.getD j 0∈b:=λj d=>aV om
  refine⟨λj=>b.getD j 0,λ_ _=> .aD,⟨?_,?_,λj d=>(l _ (x j d)).2.2.1,λj d=>⟨j,d,rfl⟩,?_,?_,λa c P U e=>?_,λ_ _ _ _=>rfl⟩,f⟩
  .have L:(rc i λj=>V.sl (b.getD j 0) 0 i (.kn i))=b.map λr=> .sl r 0 i (.kn i):=Gy (by rw[fL];exact B) λj d=>by
    rw[Jj,dC om,List.getD,dC om];rfl
   rw[L];exact y.sv
  .cases t with
   |sl id o m c=>
    rintro⟨j,d,e⟩;exact (l _ (x j d)).2.2.2 _ _ _ _ rfl e
   |_=>trivial
  .rintro id ⟨j,d,rfl⟩;exact (l _ (x j d)).2.1
  .rintro id ⟨j,d,rfl⟩;exact (l _ (x j d)).1
  .have ea:=dC (show a<b.length by omega)
   have Y:=dC (show c<b.length by omega);simp only[List.getD,ea,Y,Option.getD_some] at e;rcases Nat.lt_trichotomy a c with s|s|s
   .exact absurd e (Sr.1 nd a c om om s)
   .exact s
   .exact absurd e.symm (Sr.1 nd c a om om s)
 have A:=cJ p;obtain⟨S,R⟩:=exI G.next;obtain⟨h3,e3,J,g3,o3,Q⟩:=dF R (rc n λ_=> .aD);have fn:=f.next;obtain⟨h4,N,q,f4,n4,O⟩:=tL (v:= .sl S 0 n (.kn n)) (y.fr Q) (f.trans Q) (by rw[fL];omega) (bytes:=24) om;rw[fL,B,J] at N q;simp(disch:=omega)only[go_sem,A,RM G n om,R,e3,cQ _ (z:= .aD) (v:= .sl S 0 n (.kn n)) rfl rfl,J,N];rw[eJ i];have u: ∀r∈b,r<S:=λr h=>by have:=(l r h).2.1;omega
 refine⟨n-(i+1),om,i+1,_,b++ [S],aB rfl,om,by rw[iB,B];rfl,by rw[List.map_append];exact q,List.nodup_append.2 ⟨nd,siM,λa P c U e=>?_⟩,λr h=>?_,f4,rfl⟩
 .have:=u a P
  simp at U;omega
 .rcases jO.1 h with h|h
  .obtain⟨W,b2,Z,b4⟩:=l r h
   refine⟨W,om,by rw[O r om b4,o3 r om];exact Z,λid o m c e=>by cases e;omega⟩
  .simp at h
   subst h;refine⟨om,om,by rw[O _ om (λid o m c e L=>by have:=(y.in _ _ _ _ e).1;omega)];exact g3,λid o m c e=>by cases e;omega⟩
theorem qK (U:V)(n:Nat)(l:LN)(h:H)(Y:1<=n)(n7:n<=7)(hl:l.length<=4096)(hv:SP h U l)(hP: ∀g∈l,aY n g):
  Ev T 30 [aC n,U] h (λv h'=> ∃vc O R,v= .tup [vc,aC 0]/\GC (λid=>id<h.next) h' vc n O R (bX n (· ∈l))/\Fr h h'):=by
 obtain⟨B,hB⟩:=exI h.next
 obtain⟨h1,e1,n1,g1,o1,f1⟩:=dF hB [aC 0,.aD,.aD]
 have d1:decide ((n:Int)<1)=false:=bT om
 have d2:decide ((64:Int)<(n:Int))=false:=bT om
 have W:=hv.lens
 rw[fL] at W
 have d3:decide ((4096:Int)<(l.length:Int))=false:=bT om
 obtain⟨id,N,ws,sh,d,a6,K,z⟩:=hv.open
 rw[fL] at sh d a6 K
 refine GG hB e1 d1 d2 W d3 ?_
 refine bY (λJ r=>(∃g:Nat->V,J= [aC n,U,.ptr B 0,g 3,g 4,g 5,g 6,g 7,g 8,g 9,g 10,g 11,g 12,g 13])/\Fr h1 r) ?_ ?_
 .refine aH (λZ J r=> ∃(i:Nat),(∃g:Nat->V,J= [aC n,U,.ptr B 0,g 3,aC i,g 5,g 6,g 7,g 8,g 9,g 10,g 11,g 12,g 13])/\i<=l.length/\Fr h1 r/\Z=l.length-i) l.length
   ⟨0,aB rfl,fE _,Fr.refl h1,rfl⟩ ?_
  rintro Z o j ⟨i,⟨g,rfl⟩,hi,f,rfl⟩
  by_cases k:(i:Int)<(l.length:Int)
  .have P:=cJ k
   have a:i<l.length:=om
   have F2:=f1.trans f
   have ci:j.cell id (N+i)=some (ws.getD i .undef):=by rw[F2.cell (d om),K i a]
   have L:=wF z a
   have X:aY n (l.getD i []):=hP _ (aV a)
   generalize ws.getD i .undef=vx at ci L
   have lx:=L.lens
   rw[aL,X.len] at lx
   refine gX W P @sh.ixa ci ?_
   refine (mM vx _ j (by rw[aL,X.len];omega) (L.mono F2)).mono ?_
   rw[Am X Y om]
   rintro _ h3 ⟨rfl,s⟩
   have a7:h3.cell id (N+i)=some vx:=by rw[s.cell (by have:=d om;have:=F2.next;omega)];exact ci
   refine aM ?_
   refine bI (λK=>(K rfl).elim) (λ_=>?_)
   refine dQ @sh.ixa a7 lx ?_
   refine bI (λK=>(K rfl).elim) (λ_=>?_)
   refine aM ?_
   rw[eJ i]
   exact⟨l.length-(i+1),om,i+1,aB rfl,om,f.trans s,rfl⟩
  have P:=bT k
  refine cU W P ?_
  exact⟨aB rfl,f⟩
 rintro o j ⟨⟨g,rfl⟩,f⟩
 have F2:=f1.trans f
 have nf:=f.next
 refine aM ?_
 refine (RV n j om).mono ?_
 rintro G h3 ⟨ρ,F,R,s⟩
 have F3:=F2.trans s
 refine aM ?_
 have hL: ∀g,g∈l->aY n g:=hP
 refine bY (λJ r=> ∃(y:Nat->Nat->V) (t:qW),(∃g:Nat->V,J= [aC n,U,.ptr B 0,g 3,g 4,g 5,G,g 7,g 8,g 9,g 10,g 11,g 12,g 13])/\Du j.next (WB n ρ) r n G ρ y t/\Jd n (· ∈l) t/\(∀g∈l,ins t n 0 g=none)/\Fx (WB n ρ) h3 r) ?_ ?_
 .refine aH (λZ J r=> ∃(i:Nat) (y:Nat->Nat->V) (t:qW),(∃g:Nat->V,J= [aC n,U,.ptr B 0,g 3,g 4,g 5,G,aC i,g 8,g 9,g 10,g 11,g 12,g 13])/\i<=l.length/\Du j.next (WB n ρ) r n G ρ y t/\Jd n (· ∈l) t/\(∀g∈l.take i,ins t n 0 g=none)/\Fx (WB n ρ) h3 r/\Z=l.length-i) l.length
   ⟨0,F,_,aB rfl,fE _,R,⟨pF.empty n,λg hg=>by
    obtain⟨_,_,_,_,_,e⟩:=gJ.1 hg
    cases e⟩,λg hg=>absurd hg List.not_mem_nil,Fx.refl _ _,rfl⟩ ?_
  rintro Z o Q ⟨i,y,t,⟨g,rfl⟩,hi,R4,tl,hn,x,rfl⟩
  by_cases k:(i:Int)<(l.length:Int)
  case neg=>
   have P:=bT k;obtain rfl:i=l.length:=om
   refine cU W P ?_;rw[List.take_length] at hn;exact⟨y,t,aB rfl,R4,tl,hn,x⟩
  have P:=cJ k
  have a:i<l.length:=om
  have c: ∀q,WB n ρ q->j.next<=q:=R.low
  have X4:Fr h Q:=F2.trans ⟨by have:=s.next;have:=x.next;omega,λq hq=>by rw[x.get q (by have:=s.next;omega) (λhw=>by have:=c q hw;omega)];exact s.get q hq⟩
  have ci:Q.cell id (N+i)=some (ws.getD i .undef):=by rw[X4.cell (d om),K i a]
  have L:=wF z a
  have X:aY n (l.getD i []):=hP _ (aV a)
  generalize ws.getD i .undef=vx at ci L
  refine gX W P @sh.ixa ci ?_
  have px:PV (WB n ρ) Q vx (l.getD i []):=by
   refine⟨L.mono X4,Qs (b:=j.next) L om c⟩
  refine (Nn j.next (WB n ρ) Q n G ρ y t vx _ om om R4 px X tl.tab).mono ?_
  rintro _ h5 ⟨F5,rfl,R5,f5⟩
  refine aM ?_
  rw[eJ i]
  obtain⟨m,p,A⟩:=tl.ins hL (x:=l.getD i []) (bX.of hL (aV a))
  refine⟨l.length-(i+1),om,i+1,F5,_,aB rfl,om,R5,m,λu hu=>?_,x.trans f5 (λ_ _ h=>h),rfl⟩
  rcases (Ac a).1 hu with hu|rfl
  .exact Db p _ _ _ (hn u hu)
  .exact A
 clear g
 rintro o Q ⟨y,t,⟨g,rfl⟩,R4,tl,hn,x⟩
 have x3:=x.next
 have n3:=s.next
 refine aM ?_
 refine (RJ j.next (WB n ρ) Q n G ρ y t (· ∈l) n7 Y om R4 hL tl).mono ?_
 rintro _ h5 ⟨W5,F5,t5,R5,m,p,a2,x5,b2⟩
 have n5:=x5.next
 have tw:=DL m.tab a2
 refine aM ?_
 refine (GS j.next W5 h5 n G ρ F5 t5 om Y R5 m.tab tw).mono ?_
 rintro vc h6 ⟨O,R',ch,a4,f6⟩
 have n6:=f6.next
 have c: ∀q,WB n ρ q->j.next<=q:=R.low
 have a1:Fr j h5:=⟨om,λq hq=>by
  rw[x5.get q om (λhw=>by have:=c q hw;omega),x.get q om (λhw=>by have:=c q hw;omega)]
  exact s.get q hq⟩
 have F6:=(F2.trans a1).trans f6
 have a5:=a1.trans f6
 have g6:h6.get B=some (.cells false [aC 0,.aD,.aD]):=by rw[a5.get B om,f.get B om];exact g1
 have a8:=ch
 obtain⟨vO,vR,b0,a9,e,t1,_,_,t2,_,_⟩:=ch
 subst e
 have a0:=t1.cM.2.1
 have a3:=t2.cM.2.1
 obtain⟨h7,e7,b1,g7,o7⟩:=lU h6 B [aC n,vO,vR]
 have r7:=aE g7
 refine iT (bW h6 B 0 (v:= aC n) (u:=vO) (w:=vR) rfl a0 a3) g6 @bQ e7 r7 ?_
 have f7:Fx (λid=>id<h5.next) h6 h7:=⟨om,λid _ d=>o7 id om⟩
 refine⟨_,O,R',rfl,⟨a8.go f7 (λid _ h=>om),a4.congr (m.group hL Y a2 λg hg=>Db p _ _ _ (hn g hg)),bX.cX hP,Y,n7⟩,⟨by have:=F6.next;omega,λid d=>by rw[o7 id om];exact F6.get id d⟩⟩
section
variable {h:H} {v:V} {n:Nat} {l:List Nat}
structure Mp (h:H)(v:V)(n id:Nat)(l:List Nat):Prop where
 ex: ∃cap rest,v= .sl id 0 n cap/\id<h.next/\h.get id=bG (ints (zi l)++rest)
 bM:aY n l
theorem Mp.of {b:Nat}(p:0<n)(X:aY n l)(o:cW h v 1 (ints (zi l)) b): ∃id,Mp h v n id l/\b<=id:=by
 rcases o with ⟨_,e⟩|⟨id,m,c,a,rfl,d,k,j,f,i⟩
 .have:=congrArg List.length e
  rw[aN,aL,List.length_nil,X.len] at this;omega
 .rw[aN,aL,qZ,X.len] at d
  subst d;exact⟨id,⟨⟨c,a,rfl,f,i⟩,X⟩,j⟩
theorem Mp.si {id:Nat}(m:Mp h v n id l):SI h v (zi l):=by
 obtain⟨⟨a,b,rfl,c,d⟩,X⟩:=m;refine .inr ⟨id,0,n,a,false,_,rfl,by rw[aN,aL,X.len,qZ],c,d,by rw[iB,aN,aL,X.len];omega,?_⟩;rw[List.drop_zero,qZ,List.take_left' (by rw[aN,aL,X.len])]
theorem Mp.mono {h':H}{id:Nat}(m:Mp h v n id l)(j:h.next<=h'.next)(f:h'.get id=h.get id):Mp h' v n id l:=by
 have⟨⟨b,a,c,i,d⟩,X⟩:=m;exact⟨⟨b,a,c,om,by rw[f];exact d⟩,X⟩
end
theorem Yd.cell {x:Nat}{a c:H}(f:Yd x a c){id off:Nat}(b:id<a.next)(h2:id≠x):c.cell id off=a.cell id off:=by unfold H.cell;rw[f.get id b h2]
set_option maxRecDepth 100000
section
variable {n:Nat} {G:List Nat->Prop} {L:LN} {K:List Nat}
theorem vB.lt (k:vB n G L K){r:Nat}(a:r∈K):r<L.length:=(kX.1 (k.perm.mem_iff.1 a)).1
theorem vB.nd (k:vB n G L K):K.Nodup:=k.perm.nodup_iff.2 (by unfold dD;exact List.nodup_range.filter _)
theorem Eb (a:eM n G){x:List Nat}(b:G x): ∀k,G (pw n x k)
 |0=>a.one
 |k+1=>a.mul (Eb a b k) b
theorem DC {x c:List Nat}(X:aY n x)(C:aY n c): ∀k,aX (pw n x k) c=pw n (aX x c) k
 |0=>by
  show aS (aS (cK c) (bC n)) c=bC n;rw[bD C.inv,dU C]
 |k+1=>by
  have P:=gY X k;show aX (aS (pw n x k) x) c=aS (pw n (aX x c) k) (aX x c);rw[<-DC X C k];unfold aX;rw[aG (C.inv.mul P) C (C.inv.mul X|>.mul C),<-aG C (C.inv.mul X) C,<-aG C C.inv X,dB C,cV X,<-aG (C.inv.mul P) X C,aG C.inv P X]
theorem CF {x:List Nat}(X:aY n x)(a:Nat): ∀b,pw n (pw n x a) b=pw n x (a*b)
 |0=>rfl
 |b+1=>by
  show aS (pw n (pw n x a) b) (pw n x a)=_;rw[CF X a b,Nat.mul_succ,Ai X]
variable (hG:eM n G) (E:dR G L) (k:vB n G L K)
include hG E k
end
def XI (n:Nat)(x:List Nat):Nat->Nat->Nat
 |0,k=>k
 |f+1,k=>if pw n x k=bC n then k else XI n x f (k+1)
def FN (n:Nat)(x:List Nat):Nat:=XI n x 420 1
theorem DB {n:Nat}{x:List Nat}(X:aY n x): ∀f k,0<k->k<=oD x n->oD x n<=k+f->XI n x f k=oD x n
 |0,k,_,h1,h2=>by show k=_;omega
 |f+1,k,h0,h1,h2=>by
  unfold XI;split
  .rename_i e
   exact Nat.le_antisymm h1 (Nat.le_of_dvd h0 ((xY X k).2 e))
  .rename_i e
   refine DB X f (k+1) om ?_ om
   by_cases h:k=oD x n
   .exact absurd ((xY X k).1 (by rw[h];exact Nat.dvd_refl _)) e
   .omega
theorem YR {n:Nat}{x:List Nat}(X:aY n x)(a:n<=7):oD x n=FN n x:=
 (DB X 420 1 om (Wn X) (by have:=Nat.le_of_dvd om (Xs X a);omega)).symm
def cRb (L:LN)(i j:Nat):Bool:=L.any λc=>aX (L.getD i []) c==L.getD j []
def HK (L:LN)(i:Nat):List Nat:=(List.range L.length).filter (cRb L i)
def Uy (L:LN):List Nat:=(List.range L.length).filter λj=>(List.range j).all λi=>!cRb L i j
def aeB (n:Nat)(L:LN)(r s:Nat):Bool:=decide (FN n (L.getD r [])<FN n (L.getD s [])\/FN n (L.getD r [])=FN n (L.getD s [])/\((HK L r).length<(HK L s).length\/(HK L r).length=(HK L s).length/\r<s))
section
variable {n:Nat} {G:List Nat->Prop} {L:LN} {K:List Nat}
theorem acX (E:dR G L){x y:List Nat}:cj G x y↔(L.any λc=>aX x c==y)=true:=by
 rw[List.any_eq_true];constructor
 .rintro⟨c,hc,e⟩
  exact⟨c,(E.mem c).2 hc,by simpa using e⟩
 .rintro⟨c,hc,e⟩
  exact⟨c,(E.mem c).1 hc,by simpa using e⟩
theorem Yi (E:dR G L){i j:Nat}:cR G L i j↔cRb L i j=true:=acX E
theorem adR (E:dR G L)(i j:Nat)(d:Decidable (cR G L i j)): @decide (cR G L i j) d=cRb L i j:=by
 rw[Lf,tU];exact Yi E
theorem EI (E:dR G L)(i:Nat):kF G L i=HK L i:=by
 unfold kF HK;exact List.filter_congr λj _=>adR E i j _
theorem SK (E:dR G L):dD G L L.length=Uy L:=by
 unfold dD Uy;refine List.filter_congr λj _=>?_
 classical
 rw[Lf,tU,vE];unfold Lb;constructor
 .intro h i hi
  have:=h i (wY.1 hi);rw[Yi E] at this;simpa using this
 .intro h i hi
  have:=h i (wY.2 hi);rw[Yi E];simpa using this
theorem aiB (b:eM n G)(E:dR G L): ∀x∈L,aY n x:=λx a=>b.bM ((E.mem x).1 a)
theorem TU (a:eM n G)(E:dR G L)(b:n<=7){r:Nat}(c:r<L.length):oD (L.getD r []) n=FN n (L.getD r []):=YR (aiB a E _ (aV c)) b
theorem UK (a:eM n G)(E:dR G L)(b:n<=7){r s:Nat}(d:r<L.length)(c:s<L.length):Sc n G L r s↔aeB n L r s=true:=by
 unfold Sc aeB;rw[tU,TU a E b d,TU a E b c,EI E,EI E]
def KOk (n:Nat)(L:LN)(K:List Nat):Bool:=K.isPerm (Uy L)&&decide (K.Pairwise λr s=>aeB n L r s=true)
theorem KOk.isK (d:eM n G)(E:dR G L)(f:n<=7)(h:KOk n L K=true):vB n G L K:=by
 unfold KOk at h;rw[rG,tU] at h;have p:K.Perm (Uy L):=List.isPerm_iff.1 h.1
 have b: ∀r∈K,r<L.length:=λr a=>by
  have:=p.mem_iff.1 a;unfold Uy at this;exact wY.1 (Re.1 this).1
 exact⟨by rw[SK E];exact p,List.Pairwise.imp_of_mem (λa c h=>(UK d E f (b _ a) (b _ c)).2 h) h.2⟩
theorem KOk.eq (b:eM n G)(E:dR G L)(c:n<=7){a:List Nat}(h:KOk n L a=true)(k:vB n G L K):K=a:=k.uniq (KOk.isK b E c h)
end
def ahT (n:Nat)(S:LN)(w:List Nat):List Nat:=w.foldl (λx i=>aS x (S.getD i [])) (bC n)
theorem Wb {n:Nat}{S:LN}:(w:List Nat)->(x:List Nat)->(∀i∈w,i<S.length)->bX n (· ∈S) x->bX n (· ∈S) (w.foldl (λx i=>aS x (S.getD i [])) x)
 | [],_,_,h=>h
 |i::w,x,hw,h=>Wb w _ (λj a=>hw j (by simp [a])) (h.mul (aV (hw i siM)))
def Zq (n:Nat)(S L:LN)(ws:LN):Bool:=
 L==ws.map (ahT n S)&&ws.all (λw=>w.all λi=>decide (i<S.length))&&decide (L.Pairwise λx y=>rI x y=true)&&L.all (λx=>x.length==n)&&L.contains (bC n)&&L.all λx=>S.all λg=>L.contains (aS x g)
theorem Zq.AU {n:Nat}{S L:LN}{ws:LN}(h:Zq n S L ws=true):dR (bX n (· ∈S)) L:=by
 unfold Zq at h;simp only[rG,beq_iff_eq,vE,tU,List.contains_iff_mem] at h;obtain⟨⟨⟨⟨⟨j,f⟩,l⟩,b⟩,k⟩,d⟩:=h;refine⟨List.Pairwise.imp_of_mem (λa i h=>(lC (by rw[b _ a,b _ i])).1 h) l,λx=>⟨λa=>?_,λa=>?_⟩⟩
 .rw[j] at a
  obtain⟨w,c,rfl⟩:=qU.1 a;exact Wb w _ (f w c) .one
 .induction a with
  |one=>exact k
  |mul _ hg ih=>exact d _ ih _ hg
def A4:LN:= [[1,2,0,3], [0,2,3,1]]
def L3:LN:= [[0,1,2], [0,2,1], [1,0,2], [1,2,0], [2,0,1], [2,1,0]]
theorem adJ (h:H)(x y z:Int):mC h 1 [aC 0] 3 [(0,1,aC x),(1,1,aC y),(2,1,aC z)]=some (.sl h.next 0 3 (.kn 3),h.new (.cells false (ints [x,y,z]))):=by
 have e:dT [aC 0] 3= [aC 0,aC 0,aC 0]:=rfl;simp [mC,iH,e,putAt,V.cells,V.one,ints]
theorem Qu (h:H)(x y z w:Int):mC h 1 [aC 0] 4 [(0,1,aC x),(1,1,aC y),(2,1,aC z),(3,1,aC w)]=some (.sl h.next 0 4 (.kn 4),h.new (.cells false (ints [x,y,z,w]))):=by
 have e:dT [aC 0] 4= [aC 0,aC 0,aC 0,aC 0]:=rfl;simp [mC,iH,e,putAt,V.cells,V.one,ints]
theorem Pq (h:H){v u:V}(a:v.cells= [v]/\v.one=true)(b:u.cells= [u]/\u.one=true):mC h 1 [.aD] 2 [(0,1,v),(1,1,u)]=some (.sl h.next 0 2 (.kn 2),h.new (.cells false [v,u])):=by
 have e:dT [V.aD] 2= [.aD,.aD]:=rfl;simp [mC,iH,e,putAt,a.1,a.2,b.1,b.2]
theorem qM (id o m:Nat)(c:uF):(V.sl id o m c).cells= [.sl id o m c]/\(V.sl id o m c).one=true:=⟨rfl,rfl⟩
theorem mkI {h:H}{ID:Nat}(a:h.next=ID)(l:List Int): ∃x,h.new (.cells false (ints l))=x/\x.next=ID+1/\SI x (.sl ID 0 l.length (.kn l.length)) l/\Fr h x:=by
 obtain⟨x,e,n,g,o,f⟩:=dF a (ints l);exact⟨x,e,n,SV.all (by rw[aN,qZ]) om g _,f⟩
theorem SP.two {h h':H}{id:Nat}{v u:V}{a b:List Nat}(i:SI h v (zi a))(j:SI h u (zi b))(c:id<h'.next)(f:Fr h h')(g:h'.get id=bG [v,u])(d:uF):SP h' (.sl id 0 2 d) [a,b]:=
 ⟨[v,u],SV.all rfl c g _,i.mono f,j.mono f,trivial⟩
theorem GC.sl {W:Nat->Prop}{h:H}{b:V}{n:Nat}{O:LN}{R:iA}{G:List Nat->Prop}(g:GC W h b n O R G): ∃vO vR,b= .agg [aC n,vO,vR]/\vO.one=true/\vR.one=true/\dM vO vO=true/\dM vR vR=true:=by
 obtain⟨vO,vR,d,f,e,c,_,_,a,_,_⟩:=g.cw;exact⟨vO,vR,e,c.cM.2.1,a.cM.2.1,c.dM,a.dM⟩
theorem GC.el {W:Nat->Prop}{h:H}{a:V}{n:Nat}{O:LN}{R:iA}{G:List Nat->Prop}{L:LN}(g:GC W h a n O R G)(E:dR G L):bZ O R n 0 (bC n)=L:=(dA g.cX g.isc).1.uniq E
def SB (h:H)(v:V)(l:List Bool):Prop:=SV h v 1 (l.map V.bool)
theorem SB.mono {h h':H}{v:V}{l:List Bool}(s:SB h v l)(f:Fr h h'):SB h' v l:=SV.mono s f
theorem SB.open {h:H}{v:V}{l:List Bool}(s:SB h v l):bH v=some (aC (l.length:Int))/\ ∃id off,Sl v 1 l.length id off/\ ∀i,i<l.length->id<h.next/\h.cell id (off+i)=some (.bool (l.getD i false)):=by
 have d:(l.map V.bool).length=l.length:=fL ..;refine⟨by unfold bH;rw[SV.len s (n:=l.length) om om];rfl,?_⟩;obtain⟨id,off,c,a,b⟩:=SV.shape s l.length om om;exact⟨id,off,c,λi hi=>⟨a om,by rw[b i om,Jj,List.getD,dC hi];rfl⟩⟩
set_option maxRecDepth 100000
theorem GC.all {W:Nat->Prop}{h:H}{a:V}{n:Nat}{O:LN}{R:iA}{G:List Nat->Prop}(g:GC W h a n O R G):dR G (bZ O R n 0 (bC n))/\(bZ O R n 0 (bC n)).length<=5040:=by
 have e:=dA g.cX g.isc;exact⟨e.1,by rw[e.2];exact dX g⟩
theorem Ix {n:Nat}{g c x:List Nat}(G':aY n g)(C:aY n c)(X:aY n x):aX (aX g x) (aX c x)=aX (aX g c) x:=by
 have e:aS x (aX c x)=aS c x:=by
  unfold aX;rw[<-aG X (X.inv.mul C) X,<-aG X X.inv C,dB X,cV C]
 rw[<-iP G' X (dL C X),e,iP G' C X]
theorem Ge {n:Nat}{a b x:List Nat}(A:aY n a)(B:aY n b)(X:aY n x)(h:aX a x=aX b x):a=b:=by
 rw[<-jW A X,h,jW B X]
def dG (v:V)(id:Nat):Prop:= ∃off m c,v= .sl id off m c
theorem fG.sp' {W:Nat->Prop}{h:H}{v:V}{ws:List V}{l:LN}(sv:SV h v 1 ws)(p:fG W h ws l):SP h v l:=by
 refine⟨ws,sv,?_⟩;have a:=aJ.length p
 exact aJ.jM (by simpa using a) λi hi b=>by
  have:=(aJ.get p i hi om).si;simpa using this
theorem GO (u:V)(ws:List V)(h:H)(r:ws.length<1000000)(c:SV h u 1 ws):
  Ev T 163 [u] h (λv h'=>cW h' v 1 ws h.next/\Fr h h'):=by
 refine EvZ dH rfl ?_
 have b:uJ false u=some (.bool false)->Wp T none dH.fn.body (qP dH.fn [u]) h (Cr dH.fn.results λv h'=>cW h' v 1 ws h.next/\Fr h h'):=λf=>by
  have d:Fr h (h.new (.cells false [])):=(Fr.refl h).new _;have o:cW (h.new (.cells false [])) (.sl h.next 0 0 (.kn 0)) 1 [] h.next:=cW.new h 1 0 _ [] rfl (eU _);obtain⟨q,j,k,A⟩:=o.app (bytes:=24) (by rw[H.aZ];omega) (c.mono d) (n:=0) (m:=ws.length) rfl om om om;simp(disch:=omega)only[go_sem,dH,aI,f,k];exact⟨by have:=A.own;rwa [List.nil_append] at this,A.fr _ d (eU _)⟩
 rcases c with ⟨rfl|⟨a,rfl⟩,rfl⟩|⟨id,i,len,l,p,s,rfl,j⟩
 .simp(disch:=omega)only[go_sem,dH,aI]
  exact⟨cW.aD _ _ _,Fr.refl _⟩
 .exact b rfl
 .exact b rfl
theorem afK {n:Nat}{l:LN}{x:List Nat}(b: ∀g∈l,aY n g)(X:aY n x)(y:List Nat):Jn n (bX n (· ∈l)) [x] y↔bX n (· ∈l++ [x]) y:=by
 have a: ∀g∈l++ [x],aY n g:=λg h=>(jO.1 h).elim (b g) λh=>by rw[List.mem_singleton.1 h];exact X
 have d:=bX.cX (L:=(· ∈l)) b;constructor
 .refine λh=>bX.le (bX.cX a) (λg h=>?_) h
  rcases h with h|h
  .exact bX.mono (λg h=>jO.2 (.inl h)) h
  .exact bX.of a (jO.2 (.inr h))
 .refine λh=>bX.le (Jn.cX d λg h=>by rw[List.mem_singleton.1 h];exact X) (λg h=>?_) h
  have c: ∀g,(bX n (· ∈l) g\/g∈ [x])->aY n g:=λg h=>h.elim (λh=>h.bM b) λh=>by rw[List.mem_singleton.1 h];exact X
  rcases jO.1 h with h|h
  .exact bX.of c (.inl (bX.of b h))
  .exact bX.of c (.inr h)
structure ClJ (h hh:H)(D P4 P id C1 C2:Nat)(r:fR)(vby:V)(n:Nat)(l0 B:LN)(i k:Nat)(l:LN):Prop where
 ex: ∃vl ws,hh.get P=bG [vl]/\cW hh vl 1 ws 0/\fG (λq=>q=D\/q=P\/q=id\/dG vl q) hh ws l/\La (λq=>q<h.next\/q=P\/q=id\/dG vl q) hh D n (bX n (· ∈l))/\ ∀q,dG vl q->h.next<=q/\q≠D/\q≠P4/\q≠P/\q≠C1/\q≠C2/\q≠id/\q<hh.next
 g4:hh.get P4=bG [.ptr D 0]
 c1:hh.get C1=bG [.ptr P 0]
 c2:hh.get C2=bG [vby]
 gr:hh.get id=some (.loop r)
 fr:Fr h hh
 nx:id<hh.next
 pre: ∃t,l=l0++t/\t.Nodup/\ ∀g∈t,aY n g
 nc: ∀g∈l,NC n (· ∈l0) (· ∈B) g
 cj: ∀i' k',(i'<i\/i'=i/\k'<k)->i'<l.length->k'<B.length->bX n (· ∈l) (aX (l.getD i' []) (B.getD k' []))
theorem ClJ.fr' {h hh h2:H}{D s P id p o:Nat}{r:fR}{m:V}{n:Nat}{t B:LN}{i k:Nat}{l:LN}(j:ClJ h hh D s P id p o r m n t B i k l)(F:s<id/\P<id/\p<id/\o<id)(f:Fr hh h2):ClJ h h2 D s P id p o r m n t B i k l:=by
 obtain⟨v,A,g,w,pv,u,y⟩:=j.ex;have nx:=j.nx;exact⟨⟨v,A,by rw[f.get P om];exact g,w.fr f,aJ.mono (λ_ _ x=>x.fx (Fx.of f)) pv,u.fr f,λq z=>by obtain⟨a,b,c,d,e,g,i,k⟩:=y q z;exact⟨a,b,c,d,e,g,i,kQ k f.next⟩⟩,by rw[f.get s om];exact j.g4,by rw[f.get p om];exact j.c1,by rw[f.get o om];exact j.c2,by rw[f.get id om];exact j.gr,j.fr.trans f,kQ nx f.next,j.pre,j.nc,j.cj⟩
theorem Fx.wide {W W':Nat->Prop}{h h':H}(f:Fx W h h')(b: ∀q,W q->W' q):Fx W' h h':=⟨f.next,λq a c=>f.get q a λh=>c (b q h)⟩
theorem VP {n:Nat}{l:LN}{x g:List Nat}(h:bX n (· ∈l) g):bX n (· ∈l++ [x]) g:=bX.mono (λ_ h=>jO.2 (.inl h)) h
theorem To {l:LN}{x:List Nat}{i:Nat}(hi:i<l.length):(l++ [x]).getD i []=l.getD i []:=by
 rw[Zo,Zo,wU hi]
theorem aeU {n:Nat}{l:LN}(a: ∀g∈l,aY n g)(x:List Nat):Jn n (λx=>x=bC n) l x↔bX n (· ∈l) x:=
 ⟨λh=>bX.le (bX.cX a) (λg h=>h.elim (λe=>by rw[e];exact .one) λh=>bX.of a h) h,λh=>bX.mono (λg h=> .inr h) h⟩
theorem Ik (n:Nat):eM n (λx=>x=bC n):=⟨λe=>by rw[e];exact aY.one n,rfl,λa b=>by rw[a,b,cV (aY.one n)],λa=>by rw[a,oZ]⟩
theorem Nb (vl J:V)(n:Nat)(U B:LN)(h:H)(n0:1<=n)(n7:n<=7)(b4: ∀g∈U,aY n g)(c3: ∀b∈B,aY n b)(k9:U.length<100000)(Bl:B.length<1000000)(sl:SP h vl U)(sB:SP h J B):
  Ev T 124 [aC n,vl,J] h (λv h'=> ∃D,v= .ptr D 0/\h.next<=D/\La (λq=>q<h.next) h' D n (NC n (· ∈U) (· ∈B))/\Fr h h'):=by
 have hM:n^n<=823543:=by
  have: ∀k,k<=7->k^k<=823543:=deC
  exact this n n7
 refine nL ?_
 refine (RA n h n0 n7).mono ?_
 rintro _ A ⟨D,rfl,hD,b1,f1⟩
 have⟨ws,sv,al⟩:=sl
 have lw:=aJ.length al
 rw[fL] at lw
 have c4:SV h vl 1 ws:=sv
 have ins:=SV.in c4
 have nD:=b1.nx
 have f0: ∀h',Fr h h'->SV h' vl 1 ws/\Gz (· =D) vl/\fG (· =D) h' ws U:=λh' f=>by
  refine⟨c4.mono f,?_,aJ.jM lw λi hi hj=>?_⟩
  .cases vl with
   |sl id K m c=>exact λe=>by have:=ins _ _ _ _ rfl;omega
   |_=>trivial
  .have s:=aJ.get al i hi (by rw[fL];exact hj)
   rw[List.getElem_map] at s;refine⟨s.mono f,?_⟩;generalize ws[i]=v at s;have i2:=SV.in s
   cases v with
   |sl id K m c=>exact λe=>by have:=i2 _ _ _ _ rfl;omega
   |_=>trivial
 obtain⟨s1,i8,p1⟩:=f0 A f1
 refine aM ?_
 refine (Xm (W:=λq=>q<h.next) D vl ws n _ U A n0 n7 (Ik n) b4 om (λq h=>kQ h f1.next) b1 s1 i8 p1).mono ?_
 rintro _ d ⟨rfl,b2,f2⟩
 have k2:=f1.next
 have k1:=f2.next
 have j8:Fr h d:=⟨om,λq N=>by rw[f2.get q om (by show q≠D;omega)];exact f1.get q N⟩
 obtain⟨P4,d7⟩:=exI d.next
 obtain⟨h3,e3,n3,g3,o3,f3⟩:=dF d7 [.nilp]
 obtain⟨h4,e4,n4,g4,o4⟩:=lU h3 P4 [.ptr D 0]
 have d5:Fr d h4:=⟨om,λq N=>by rw[o4 q om,o3 q om]⟩
 have pt:(G:H)->(id:Nat)->(u w:V)->eH (some (.cells false [u])) G id 0 [w]=some (G.set id (some (.cells false [w]))):=λG id u w=>cF siM G _ _
 simp(disch:=omega)only[go_sem,d7,e3,kO (show (V.ptr D 0).cells= [V.ptr D 0] from rfl) rfl,g3,pt,e4]
 have d1:=j8.trans d5
 refine (GO vl ws h4 om (c4.mono d1)).mono ?_
 rintro vk h5 ⟨b9,f5⟩
 have l4:=f5.next
 obtain⟨P,hP⟩:=exI h5.next
 obtain⟨h6,e6,n6,g6,o6,f6⟩:=dF hP [.aD]
 obtain⟨h7,e7,l7,g7,o7⟩:=lU h6 P [vk]
 have c0:Fr h5 h7:=⟨om,λq N=>by rw[o7 q om,o6 q om]⟩
 have wk:=SV.cM b9.sv
 refine kA hP e6 (kO wk.1 wk.2.1) g6 pt e7 ?_
 have d4:Fr h h7:=d1.trans (f5.trans c0)
 have wB:=SV.cM (show SV h J 1 _ from sB.choose_spec.1)
 obtain⟨h8,e8,n8,g8,o8,f8⟩:=dF (h:=h7) rfl [.ptr P 0]
 obtain⟨h9,e9,n9,g9,o9,f9⟩:=dF n8 [J]
 refine Ev.mono (Q:=λv h'=>v= .fn 206 [] [.ptr h7.next 0,.ptr (h7.next+1) 0]/\h9=h') ?_ ?_
 .refine kV ?_
  exact ahQ @aI (mH (x:= .ptr P 0) rfl rfl h7) e8 (mH wB.1 wB.2.1 h8) n8 e9
 rintro _ _ ⟨rfl,rfl⟩
 refine aM ?_
 obtain⟨C1,k0⟩:=exI h7.next
 obtain⟨C2,i6⟩:=exI (C1+1)
 obtain⟨id,c9⟩:=exI h9.next
 rw[k0] at n8 n9 g8 o8 g9 o9 |-
 rw[i6] at n8 n9 g9 o9 |-
 refine⟨rfl,tG λr hr=>?_⟩
 rw[c9]
 have jE:r.st= .ready:=by rw[hr]
 have c5:r.pend=none:=by rw[hr]
 have oA: ∀k,k<id->(h9.new (.loop r)).get k=h9.get k:=λk hk=>H.bN h9 om _
 have nA:(h9.new (.loop r)).next=id+1:=by rw[H.aZ,c9]
 have hc:P4<id/\P<id/\C1<id/\C2<id:=om
 have d6:Fr h7 h9:=f8.trans f9
 have FA:Fr h7 (h9.new (.loop r)):=d6.new _
 have c7: ∀q,dG vk q->h4.next<=q/\q<P:=λq ⟨K,m,c,e⟩=>by
  have:=b9.in _ _ _ _ e;omega
 have g5: ∀i (hi:i<ws.length) (hj:i<U.length),PV (λq=>h.next<=q) (h9.new (.loop r)) ws[i] U[i]:=λi hi hj=>by
  have s:=aJ.get al i hi (by rw[fL];exact hj);rw[List.getElem_map] at s;refine⟨s.mono (d4.trans FA),?_⟩;generalize ws[i]=v at s;have i2:=SV.in s
  cases v with
  |sl id K m c=>exact λe=>by have:=i2 _ _ _ _ rfl;have e:h.next<=id:=e;omega
  |_=>trivial
 have J0:ClJ h (h9.new (.loop r)) D P4 P id C1 C2 r J n U B 0 0 U:=by
  refine⟨⟨vk,ws,by rw[oA _ om,o9 _ om,o8 _ om];exact g7,(b9.fr (c0.trans FA)).le (fE _),aJ.jM lw λi hi hj=>(g5 i hi hj).jK λq _ N=>?_,?_,λq N=>?_⟩,by rw[oA _ om,d6.get _ om,o7 _ om,o6 _ om,f5.get _ om];exact g4,by rw[oA _ om,o9 _ om];exact g8,by rw[oA _ om];exact g9,by rw[<-c9,H.aQ],d4.trans FA,om,⟨[],(qV _).symm,List.nodup_nil,λ_ h=>by cases h⟩,λg hg=>NC.of hg,λi' k' h=>om⟩
  .show h.next<=q
   rcases N with rfl|rfl|rfl|N
   .exact hD
   .omega
   .omega
   .have:=c7 q N;omega
  .exact ((b2.jK (W':=λq=>q<h.next\/q=P\/q=id\/dG vk q) (λq A d=>by
    rcases d with e|e|e|e
    .exact e
    .omega
    .omega
    .have:=c7 q e;omega)).fr (d5.trans (f5.trans (c0.trans FA)))).congr λx=>aeU b4 x
  .have:=c7 q N;omega
 have jf: ∀i k l G h',ClJ h G D P4 P id C1 C2 r J n U B i k l->Fr G h'->ClJ h h' D P4 P id C1 C2 r J n U B i k l:=λi k l G h' j f=>j.fr' hc f
 have b8: ∀i k l G,ClJ h G D P4 P id C1 C2 r J n U B i k l-> ∀g∈l,aY n g:=λi k l G j g hg=>by
  obtain⟨t,e,_,tP⟩:=j.pre;rw[e] at hg;exact (jO.1 hg).elim (b4 g) (tP g)
 refine (PH id C1 C2 P J B n (U.length+n^n) n0 om c3 Bl om _ (λi k l G=>ClJ h G D P4 P id C1 C2 r J n U B i k l) U J0 ?_ jf ?_ ?_).mono ?_
 .intro i k l G j
  obtain⟨o,a1,gP,ow,pv,bd,bl⟩:=j.ex
  refine⟨j.c1,j.c2,⟨o,a1,gP,ow.sv,aJ.mono (λ_ _ x=>x.si) pv⟩,sB.mono j.fr,?_,b8 _ _ _ _ j⟩
  obtain⟨t,e,tN,tP⟩:=j.pre
  have:=xV tN tP
  rw[e,iB]
  omega
 .intro i l G j
  exact⟨j.ex,j.g4,j.c1,j.c2,j.gr,j.fr,j.nx,j.pre,j.nc,λi' k' h A d=>j.cj i' k' om A d⟩
 .intro i k l ha G w b7 e0 j0 fa pw
  have j:=j0.fr' hc fa
  obtain⟨o,a1,j6,i3,f4,a5,Z⟩:=j0.ex
  have l8:=j0.nx
  have k8:=fa.next
  obtain⟨Wl,a6⟩: ∃Wl:Nat->Prop,Wl=λq=>q<h.next\/q=P\/q=id\/dG o q:=⟨_,rfl⟩
  rw[<-a6] at a5
  obtain⟨x,hx⟩:=exI (aX (l.getD i []) (B.getD k []))
  rw[hx] at pw
  have a0:=b8 _ _ _ _ j0
  have X:aY n x:=by rw[<-hx];exact dL (a0 _ (aV b7)) (c3 _ (aV e0))
  refine sW j.gr (by rw[hr];rfl) jE λhb gb nb ob=>?_
  rw[congrArg fR.assign hr,congrArg fR.vars hr,congrArg fR.pars hr]
  simp(disch:=omega)only[go_sem,List.zip_cons_cons,List.zip_nil_left]
  rw[congrArg fR.body hr]
  have i0:Fx (· =id) ha hb:=⟨om,λq A d=>by rw[ob q d,fa.get q A]⟩
  have e1:Wl id:=by rw[a6];exact .inr (.inr (.inl rfl))
  have WP:Wl P:=by rw[a6];exact .inr (.inl rfl)
  have c6:La Wl hb D n (bX n (· ∈l)):=a5.fx (Fx.wide i0 λq (h:q=id)=>by rw[h];exact e1)
  obtain⟨vO,vR,O,R,gD,gc⟩:=c6.ex
  have i4:=c6.nx
  have c8:SI hb w (zi x):=SV.fx pw.si (W:=(· =id)) (by
   have:=pw.off
   cases w with
   |sl q K m c=>exact λe=>this (by have e:q=id:=e;omega)
   |_=>trivial) ⟨om,λq A d=>ob q d⟩
  have d8:hb.get P4=some (.cells false [.ptr D 0]):=by rw[ob _ om];exact j.g4
  simp(disch:=omega)only[go_sem,H.cell_of d8]
  refine (EY D w vO vR n O R _ x hb gc i4 gD X c8).mono ?_
  rintro _ hs ⟨bb,rfl,d3,fs⟩
  have k6:=fs.next
  cases bb with
  |true=>
   refine aM ?_;refine pD jE c5 (by rw[fs.get id om];exact gb) ⟨rfl,l,b7,?_⟩
   have F:Fr G (hs.set id (some (.loop r))):=⟨by simp only[H.dE];omega,λq N=>by
    by_cases e:q=id
    .rw[e,H.aW];exact j.gr.symm
    .rw[H.aF _ e,fs.get q om,ob q e]⟩
   have j2:=j.fr' hc F;refine⟨j2.ex,j2.g4,j2.c1,j2.c2,j2.gr,j2.fr,j2.nx,j2.pre,j2.nc,λi' k' h A d=>?_⟩
   by_cases e:i'=i/\k'=k
   .rw[e.1,e.2,hx];exact d3.1 rfl
   .exact j2.cj i' k' om A d
  |false=>
   have i7: ¬bX n (· ∈l) x:=λh=>by have:=d3.2 h;cases this
   have gl:=bX.cX (L:=(· ∈l)) a0
   have j7: ∀q,Wl q->q<ha.next:=λq h=>by
    rw[a6] at h;rcases h with h|h|h|h
    .have:=j0.fr.next;omega
    .omega
    .omega
    .exact (Z q h).2.2.2.2.2.2.2
   have wx:=SV.cM c8;have g2:hs.get P4=some (.cells false [.ptr D 0]):=by rw[fs.get _ om];exact d8
   obtain⟨S,hS⟩:=exI hs.next;obtain⟨ht,et,nt,gt,ot,ft⟩:=dF hS [w];have g1:Fr hb ht:=fs.trans ft;simp(disch:=omega)only[go_sem,H.cell_of g2,cQ hs (z:= .aD) wx.1 wx.2.1,hS,et];refine (Xm (W:=Wl) D (.sl S 0 1 (.kn 1)) [w] n _ [x] ht n0 n7 gl (λg hg=>by rw[List.mem_singleton.1 hg];exact X) (by show 1<1000000;decide) (λq h=>by have:=j7 q h;omega) (c6.fr g1) (SV.one om gt (.kn 1)) (λe=>by have e:S=D:=e;omega) ⟨⟨c8.mono g1,?_⟩,trivial⟩).mono ?_
   .have:=pw.off
    have nD:=a5.nx
    cases w with
    |sl q K m c=>exact λe=>this (by have e:q=D:=e;omega)
    |_=>trivial
   rintro _ Y ⟨rfl,bw,fw⟩;have k3:=fw.next
   have a9: ∀q,q<ha.next->q≠id->q≠D->Y.get q=ha.get q:=λq A d h3=>by
    rw[fw.get q om h3,ft.get q om,fs.get q om,ob q d,fa.get q A]
   have l9:=a5.nx;have PD:P≠D:=λe=>a5.nW (e▸WP)
   have d9:Y.get P=some (.cells false [o]):=by rw[a9 P om om PD];exact j6
   have m0:Fx (λq=>q=id\/q=D) ha Y:=⟨om,λq A d=>a9 q A (λe=>d (.inl e)) λe=>d (.inr e)⟩
   have g0:cW Y o 1 a1 0:=i3.mono om λq _ _ _ e _ A=>a9 q A (Z q ⟨_,_,_,e⟩).2.2.2.2.2.2.1 (Z q ⟨_,_,_,e⟩).2.1
   have l3:=SV.cM g0.sv;obtain⟨S2,e5⟩:=exI Y.next;obtain⟨f7,h0,l2,i1,l1,b0⟩:=dF e5 [w];have k7:=aJ.length f4;obtain⟨t,el,tN,tP⟩:=j0.pre;have l5:=xV tN tP;have ll:l.length=U.length+t.length:=by rw[el,iB]
   obtain⟨a8,a2,p2⟩:=(g0.fr b0).push (bytes:=24) (SV.one (v:=w) (id:=S2) om i1 (.kn 1)) (n:=a1.length) (m:=1) om rfl om om om;have k4:=p2.next;have ap: ∀q,¬dG o q->dS o q:=λq N k5 K m c e e2=>N ⟨K,m,c,by rw[e2];exact e⟩
   have i5: ¬dG o P:=λh=>(Z P h).2.2.2.1 rfl
   have j9: ¬dG o id:=λh=>(Z id h).2.2.2.2.2.2.1 rfl
   have j1:a8.get P=some (.cells false [o]):=by rw[p2.old P om (ap P i5),b0.get P om];exact d9
   have i9:a8.get id=some (.loop (pL r)):=by rw[p2.old id om (ap id j9),b0.get id om,fw.get id om (λe=>a5.nW (e▸e1)),ft.get id om,fs.get id om];exact gb
   simp(disch:=omega)only[go_sem,H.cell_of d9,cQ Y (z:= .aD) wx.1 wx.2.1,e5,h0,a2,j1,pt];refine pD jE c5 (by rw[H.aF _ om];exact i9) ⟨rfl,l++ [x],by rw[iB];omega,?_⟩;obtain⟨vn,d0⟩:=exI (V.sl f7.next 0 (a1.length+1) (.un 1));rw[d0];obtain⟨hz,a4⟩:=exI ((a8.set P (some (.cells false [vn]))).set id (some (.loop r)));rw[a4];have nz:hz.next=a8.next:=by rw[<-a4];rfl
   have oz: ∀q,q<Y.next->q≠P->q≠id-> ¬dG o q->hz.get q=Y.get q:=λq A d h3 h4=>by
    rw[<-a4,H.aF _ h3,H.aF _ d,p2.old q om (ap q h4),b0.get q om]
   have a7: ∀q,q<ha.next->q≠P->q≠id->q≠D-> ¬dG o q->hz.get q=ha.get q:=λq A d h3 h4 h5=>by
    rw[oz q om d h3 h5,a9 q A h3 h4]
   have bn: ∀q,dG vn q->q=f7.next:=λq ⟨K,m,c,e⟩=>by rw[<-d0] at e;cases e;rfl
   have nb: ∀q,(q=P4\/q=C1\/q=C2)-> ¬dG o q:=λq N h=>by
    obtain⟨_,_,b3,_,b5,b6,_⟩:=Z q h;rcases N with e|e|e
    .exact b3 e
    .exact b5 e
    .exact b6 e
   have j3:P4≠D:=om
   have Fz:Fx (λq=>q=D\/q=P\/q=id\/dG o q) ha hz:=⟨om,λq A d=>a7 q A (λe=>d (.inr (.inl e))) (λe=>d (.inr (.inr (.inl e)))) (λe=>d (.inl e)) λe=>d (.inr (.inr (.inr e)))⟩
   refine⟨⟨vn,a1++ [w],by rw[<-a4,H.aF _ om,H.aW],?_,?_,?_,λq N=>?_⟩,?_,?_,?_,by rw[<-a4,H.aW],⟨by have:=j0.fr.next;omega,λq N=>?_⟩,om,⟨t++ [x],by rw[el,pJ],?_,?_⟩,?_,?_⟩
   .rw[<-d0]
    exact (p2.own om rfl (fE _)).mono om λq K m c e _ _=>by
     cases e;rw[<-a4,H.aF _ om,H.aF _ om]
   .refine aJ.append (aJ.mono (λv y p=>PV.go p Fz λq A d=>?_) f4) ⟨?_,trivial⟩
    .rcases d with h|h|h|h
     .exact .inl h
     .exact .inr (.inl h)
     .exact .inr (.inr (.inl h))
     .have:=bn q h;omega
    .have j5:Fx (λq=>q<ha.next) G hz:=⟨om,λq A d=>by
      have d: ¬q<ha.next:=d
      rw[oz q om om om (λh=>d (Z q h).2.2.2.2.2.2.2),fw.get q om (by show q≠D;omega),ft.get q om,fs.get q om,ob q om]⟩
     refine PV.go pw j5 λq A d=>?_
     show q<ha.next;rcases d with h|h|h|h
     .omega
     .omega
     .omega
     .have:=bn q h;omega
   .refine (bw.go (W':=λq=>q<h.next\/q=P\/q=id\/dG vn q) ⟨om,λq A d=>?_⟩ λq A d=>?_).congr λy=>afK a0 X y
    .rw[a6] at d
     exact oz q A (λe=>d (.inr (.inl e))) (λe=>d (.inr (.inr (.inl e)))) λe=>d (.inr (.inr (.inr e)))
    .rw[a6]
     rcases d with h|h|h|h
     .exact .inl h
     .exact .inr (.inl h)
     .exact .inr (.inr (.inl h))
     .have:=bn q h;omega
   .have:=bn q N
    have:=j0.fr.next;omega
   .rw[a7 P4 om om om j3 (nb _ (.inl rfl))];exact j0.g4
   .rw[a7 C1 om om om om (nb _ (.inr (.inl rfl)))];exact j0.c1
   .rw[a7 C2 om om om om (nb _ (.inr (.inr rfl)))];exact j0.c2
   .rw[a7 q (by have:=j0.fr.next;omega) om om om (λh=>by have:=(Z q h).1;omega)];exact j0.fr.get q N
   .refine List.nodup_append.2 ⟨tN,siM,λa ha b hb e=>?_⟩
    rw[List.mem_singleton.1 hb] at e;exact i7 (bX.of a0 (by rw[el];exact jO.2 (.inr (e▸ha))))
   .intro g hg
    exact (jO.1 hg).elim (tP g) λh=>by rw[List.mem_singleton.1 h];exact X
   .intro g hg
    rcases jO.1 hg with h|h
    .exact j0.nc g h
    .rw[List.mem_singleton.1 h,<-hx]
     exact NC.cj (j0.nc _ (aV b7)) (aV e0)
   .intro i' k' l6 A d
    by_cases e:i'=i/\k'=k
    .obtain⟨rfl,rfl⟩:=e
     rw[To b7,hx];exact bX.of (λg hg=>(jO.1 hg).elim (a0 g) λh=>by rw[List.mem_singleton.1 h];exact X) (jO.2 (.inr (List.mem_singleton.2 rfl)))
    .have a3:i'<l.length:=om
     rw[To a3];exact VP (j0.cj i' k' om a3 d)
 .rintro _ G ⟨l,j⟩
  refine⟨r,j.gr,by rw[jE];simp,?_⟩
  have en:r.pend.getD .norm= .norm:=by rw[c5];rfl
  rw[en]
  have nx:=j.nx
  obtain⟨o,a1,gP,ow,pv,bd,bl⟩:=j.ex
  have j4:(G.set id (some (.loop {r with st:= .out}))).get P4=some (.cells false [.ptr D 0]):=by rw[H.aF _ om];exact j.g4
  simp(disch:=omega)only[go_sem,H.cell_of j4]
  have fz:Fx (λq=>q<h.next\/q=P\/q=id\/dG o q) G (G.set id (some (.loop {r with st:= .out}))):=Fx.set (W:=λq=>q<h.next\/q=P\/q=id\/dG o q) _ (.inr (.inr (.inl rfl))) _
  refine⟨D,rfl,hD,?_,j.fr.set om _⟩
  refine ((bd.fx fz).congr λx=>JK c3 b4 (b8 _ _ _ _ j) ?_ j.nc ?_ x).jK ?_
  .intro g hg
   obtain⟨t,e,_⟩:=j.pre
   rw[e];exact jO.2 (.inl hg)
  .intro x hx b hb
   obtain⟨i',a3,rfl⟩:=rV.1 hx
   obtain⟨k',d2,rfl⟩:=rV.1 hb
   have:=j.cj i' k' (.inl a3) a3 d2
   rwa [<-oV a3,<-oV d2] at this
  .exact λq _ h=> .inl h
theorem GC.one {W:Nat->Prop}{h:H}{a b:V}{d:Int}{n:Nat}{O:LN}{R:iA}{G:List Nat->Prop}(g:GC W h (.agg [aC d,a,b]) n O R G):d=(n:Int)/\a.one=true/\b.one=true:=by
 obtain⟨_,_,_,_,e,f,_,_,c,_,_⟩:=g.cw;cases e;exact⟨rfl,(SV.cM f).2.1,(SV.cM c).2.1⟩
theorem GC.shape {W:Nat->Prop}{h:H}{a:V}{n:Nat}{O:LN}{R:iA}{G:List Nat->Prop}(g:GC W h a n O R G): ∃vO vR,a= .agg [aC n,vO,vR]/\vO.one=true/\vR.one=true:=by
 obtain⟨vO,vR,_,_,e,c,_,_,b,_,_⟩:=g.cw;exact⟨vO,vR,e,(SV.cM c).2.1,(SV.cM b).2.1⟩
theorem PE {W W':Nat->Prop}(x t:V)(n:Nat)(O L:LN)(R R':iA)(G G':List Nat->Prop)(h:H)(s:GC W h x n O R G)(q:GC W' h t n L R' G'):
  Ev T 121 [x,t] h (λv h'=>v= aC 0/\Fr h h'):=by
 obtain⟨d,i,rfl,Y,F⟩:=s.shape
 obtain⟨l,j,rfl,pO,A⟩:=q.shape
 refine kV ?_
 obtain⟨B,z⟩:=exI h.next
 obtain⟨P,e1,y,Z,o1,K⟩:=dF z [aC n,d,i]
 obtain⟨c,Q,n2,J,U,f2⟩:=dF y [aC n,l,j]
 have F2:=K.trans f2
 have r: ∀a,Fr c a->a.get B=bG [aC n,d,i]:=λa f=>by rw[f.get B om,U B om];exact Z
 have o: ∀a,Fr c a->a.get (B+1)=bG [aC n,l,j]:=λa f=>by rw[f.get (B+1) om];exact J
 have r2:=Fr.refl c
 refine qL @aI (aU h (v:= aC n) (u:=d) (w:=i) rfl Y F) z e1 (aU P (v:= aC n) (u:=l) (w:=j) rfl pO A) y Q (aE (r c r2)) ?_
 refine ((s.mono F2).check).mono ?_
 rintro _ h3 ⟨rfl,k⟩
 refine aM ?_
 refine bI (λm=>(m rfl).elim) (λ_=>?_)
 refine bE (aE (o h3 k)) ?_
 refine ((q.mono (F2.trans k)).check).mono ?_
 rintro _ p ⟨rfl,f4⟩
 have b:=k.trans f4
 refine aM ?_
 refine bI (λm=>(m rfl).elim) (λ_=>?_)
 have N:decide ((n:Int)≠(n:Int))=false:=bT (λh=>h rfl)
 simp(disch:=omega)only[go_sem,H.cell_of (r p b),H.cell_of (o p b),N]
 exact F2.trans b
def KT (A B:LN):LN:=A.flatMap λp=>B.map (dN p)
theorem EG {A B:LN}{x:List Nat}:x∈KT A B↔ ∃p,p∈A/\ ∃q,q∈B/\x=dN p q:=by
 unfold KT;simp only[List.mem_flatMap,qU];exact⟨λ⟨p,hp,q,hq,e⟩=>⟨p,hp,q,hq,e.symm⟩,λ⟨p,hp,q,hq,e⟩=>⟨p,hp,q,hq,e.symm⟩⟩
theorem Ql (A B:LN):(KT A B).length=A.length*B.length:=by
 induction A with
 |nil=>simp [KT]
 |cons a A ih=>
  unfold KT at ih |-;rw[List.flatMap_cons,iB,ih,fL,List.length_cons,Nat.succ_mul,Nat.add_comm]
def GQ (A B:LN)(i k:Nat):LN:=KT (A.take i) B++(B.take k).map (dN (A.getD i []))
theorem QJ (A B:LN){i k:Nat}(a:k<B.length):GQ A B i (k+1)=GQ A B i k++ [dN (A.getD i []) (B.getD k [])]:=by
 unfold GQ;rw[dJ [] a,List.map_append,<-pJ];rfl
theorem WL (A B:LN){i:Nat}(hi:i<A.length):GQ A B i B.length=GQ A B (i+1) 0:=by
 unfold GQ;rw[List.take_length,List.take_zero,List.map_nil,qV,dJ [] hi];unfold KT;rw[List.flatMap_append];simp
theorem aaF (A B:LN):GQ A B A.length 0=KT A B:=by
 unfold GQ;rw[List.take_length,List.take_zero,List.map_nil,qV]
theorem WY {A B:LN}{i k:Nat}(hi:i<=A.length)(a:k<=B.length):(GQ A B i k).length<=(A.length+1)*B.length:=by
 unfold GQ;rw[iB,Ql,wH,fL,wH,Nat.min_eq_left hi,Nat.min_eq_left a,Nat.succ_mul];have:=Nat.mul_le_mul_right B.length hi;omega
section
variable {h:H} {v:V} {ws:List V} {b k n:Nat} {A S Q:LN} {y x:List Nat}
def HU (h:H)(v:V)(ws:List V)(b:Nat):Prop:= ∃id cap rest,v= .sl id 0 ws.length cap/\b<=id/\id<h.next/\h.get id=bG (ws++rest)/\(cap= .un 1\/cap= .kn 1/\ws.length+rest.length=1)
theorem HU.sv (t:HU h v ws b):SV h v 1 ws:=by
 obtain⟨id,a,c,rfl,i,d,f,_⟩:=t;exact .inr ⟨id,0,_,a,false,_,rfl,(qZ _).symm,d,f,by rw[iB];omega,by rw[List.drop_zero,qZ,List.take_left' rfl]⟩
theorem HU.qX {h':H}(t:HU h v ws b)(m:h.next<=h'.next)(i: ∀id,dG v id->h'.get id=h.get id):HU h' v ws b:=by
 have⟨id,c,a,e,f,l,j,d⟩:=t;exact⟨id,c,a,e,f,om,by rw[i id ⟨_,_,_,e⟩];exact j,d⟩
theorem HU.in (t:HU h v ws b){id:Nat}(j:dG v id):b<=id/\id<h.next:=by
 obtain⟨i,f,a,rfl,d,c,_⟩:=t;have⟨_,_,_,e⟩:=j;cases e;exact⟨d,c⟩
theorem HU.push {y:V}{S:Nat}{c:uF}(t:HU h v ws b)(q:SV h (.sl S 0 1 c) 1 [y])(B:b<=h.next)(N:ws.length<1000000):
  ∃v' h',rD h 1 24 v (.sl S 0 1 c)=some (v',h')/\HU h' v' (ws++ [y]) b/\(∀k,k<h.next-> ¬dG v k->h'.get k=h.get k)/\h.next<=h'.next/\h'.next<=h.next+1/\ ∀k,dG v' k->dG v k\/k=h.next:=by
 have G:rD h 1 24 v (.sl S 0 1 c)=Ay.zL h 1 24 v 1 [y]:=by
  simp only[rD,q.len (n:=1) rfl om,q.slice]
 rw[G]
 have p:=t.sv
 have i:=p.len (n:=ws.length) om om
 have l:=p.slice
 obtain⟨id,d,f,rfl,K,w,o,J⟩:=t
 unfold Ay.zL
 simp only[i,l]
 rw[bV om,bL ⟨om,om⟩]
 have a: ∀g:H,g.next=h.next->(∀k,k<h.next->k≠id->g.get k=h.get k)-> ∃v' h',some (V.sl h.next 0 (ws.length+1) (.un 1),g.new (.cells false (ws++ [y])))=some (v',h')/\HU h' v' (ws++ [y]) b/\(∀k,k<h.next-> ¬dG (.sl id 0 ws.length d) k->h'.get k=h.get k)/\h.next<=h'.next/\h'.next<=h.next+1/\ ∀k,dG v' k->dG (.sl id 0 ws.length d) k\/k=h.next:=by
  intro g F u;refine⟨_,_,rfl,⟨h.next,_, [],by rw[iB];rfl,B,by rw[H.aZ];omega,by rw[<-F,H.aQ,qV],.inl rfl⟩,λk j m=>?_,by rw[H.aZ];omega,by rw[H.aZ];omega,λk ⟨_,_,_,e⟩=>by cases e;exact .inr rfl⟩;rw[H.bN g om];exact u k j (λe=>m ⟨_,_,_,by rw[e]⟩)
 rcases J with rfl|⟨rfl,L⟩
 .simp only[o,if_true]
  exact a (h.set id none) rfl (λk _ j=>H.aF h j none)
 .simp only
  by_cases e:ws.length+1<=1
  .rw[bL e]
   have s:ws= []:=Yl om
   subst s
   obtain⟨z,rfl⟩: ∃z,f= [z]:=List.length_eq_one_iff.1 (by simpa using L)
   have r:h.put id (0+([]:List V).length*1) [y]=some (h.set id (bG [y])):=by
    simp [H.put,o,putAt]
   rw[r]
   refine⟨_,_,rfl,⟨id,_, [],rfl,K,w,by rw[H.aW];rfl,.inr ⟨rfl,rfl⟩⟩,λk j m=>H.aF h (λe=>m ⟨0,0,.kn 1,by rw[e];rfl⟩) _,eU _,Nat.le_succ _,λk ⟨_,_,_,e⟩=>by cases e;exact .inl ⟨_,_,_,rfl⟩⟩
  .rw[bV e]
   exact a h rfl (λ_ _ _=>rfl)
def Ze (A:LN)(k:Nat)(y:List Nat):LN:=A.take k++y::A.drop k
theorem oT {z:List Nat}:z∈Ze A k y↔z=y\/z∈A:=by
 unfold Ze;rw[jO,uL];constructor
 .rintro (h|h|h)
  .exact .inr (List.mem_of_mem_take h)
  .exact .inl h
  .exact .inr (List.mem_of_mem_drop h)
 .rintro (h|h)
  .exact .inr (.inl h)
  .rw[<-List.take_append_drop k A,jO] at h
   rcases h with h|h
   .exact .inl h
   .exact .inr (.inr h)
theorem TY {a b:List Nat}(A:aY n a)(B:aY n b)(t: ¬Lt a b)(h2:a≠b):Lt b a:=by
 have h: ∃i,i<n/\a.getD i 0≠b.getD i 0:=zQ λh=>h2 (uD (by rw[A.len,B.len]) λi hi=>zQ λd=>h ⟨i,by rw[<-A.len];exact hi,d⟩)
 have⟨i,hi,c⟩:=h
 have s: ∃i,(i<n/\a.getD i 0≠b.getD i 0)/\ ∀j,j<i-> ¬(j<n/\a.getD j 0≠b.getD j 0):=by
  revert hi c
  induction i using Nat.strongRecOn with
  |ind i ih=>
   intro hi c
   by_cases h: ∃j,j<i/\j<n/\a.getD j 0≠b.getD j 0
   .have⟨j,d,m,u⟩:=h
    exact ih j d m u
   .exact⟨i,⟨hi,c⟩,λj l o=>h ⟨j,l,o⟩⟩
 have⟨k,⟨q,p⟩,f⟩:=s;have r: ∀j,j<k->a.getD j 0=b.getD j 0:=λj l=>zQ λd=>f j l ⟨om,d⟩
 rcases Nat.lt_or_gt_of_ne p with m|m
 .exact (t ⟨k,by rw[A.len];exact q,r,m⟩).elim
 .exact⟨k,by rw[B.len];exact q,λj l=>(r j l).symm,m⟩
theorem LD (l: ∀x∈A,aY n x)(Y:aY n y)(f:A.Pairwise Lt)(p:Plc A y k)(r:y∉A):(Ze A k y).Pairwise Lt:=by
 unfold Ze;rw[List.pairwise_append];have at':{z:List Nat}->z∈A.take k-> ∃i,i<k/\i<A.length/\A.getD i []=z:=λh=>(Ji (d:= [])).1 h
 have t:{z:List Nat}->z∈A.drop k-> ∃i,k<=i/\i<A.length/\A.getD i []=z:=λh=>by
  obtain⟨q,s,e⟩:=rV.1 h;rw[Nx] at s;rw[List.getElem_drop] at e;exact⟨k+q,om,om,by rw[List.getD,dC om,<-e];rfl⟩
 have o: ∀z∈A.take k,Lt z y:=λz a=>by
  obtain⟨i,m,c,rfl⟩:=at' a;exact (lC (by rw[(l _ (aV c)).len,Y.len])).1 (p.lo i m)
 have hi: ∀z∈A.drop k,Lt y z:=λz a=>by
  obtain⟨i,m,c,rfl⟩:=t a;have Z:=l _ (aV (d:= []) c);refine TY Z Y (λh=>?_) (λe=>r (by rw[<-e];exact aV c));have:=p.hi i m c;rw[(lC (by rw[Z.len,Y.len])).2 h] at this;cases this
 refine⟨f.sublist (List.take_sublist k A),List.pairwise_cons.2 ⟨hi,f.sublist (List.drop_sublist k A)⟩,λz a w j=>?_⟩;rcases uL.1 j with rfl|j
 .exact o z a
 .have Z:=l z (List.mem_of_mem_take a)
  exact Lt.trans (by rw[Z.len,Y.len]) (o z a) (hi w j)
structure ElJ (n:Nat)(S A Q:LN):Prop where
 asc:A.Pairwise Lt
 gen: ∀x∈A,bX n (· ∈S) x
 one:bC n∈A
 sub: ∀x∈Q,x∈A
 cl: ∀x∈A,x∉Q-> ∀g∈S,aS x g∈A
theorem ElJ.start (n:Nat)(S:LN):ElJ n S [bC n] [bC n]:=
 ⟨List.pairwise_singleton _ _,λx a=>by simp at a;subst a;exact .one,siM,λx a=>a,λx a h=>absurd a h⟩
theorem ElJ.done (j:ElJ n S A []):dR (bX n (· ∈S)) A:=by
 refine⟨j.asc,λx=>⟨j.gen x,λh=>?_⟩⟩
 induction h with
 |one=>exact j.one
 |mul _ hg ih=>exact j.cl _ ih List.not_mem_nil _ hg
structure UI (n:Nat)(S:LN)(x:List Nat)(i:Nat)(A Q:LN):Prop where
 asc:A.Pairwise Lt
 gen: ∀x∈A,bX n (· ∈S) x
 one:bC n∈A
 sub: ∀x∈Q,x∈A
 mem:x∈A
 cl: ∀z∈A,z∉Q->z=x\/ ∀g∈S,aS z g∈A
 dn: ∀j,j<i->aS x (S.getD j [])∈A
theorem UI.start (j:ElJ n S A (Q++ [x])):UI n S x 0 A Q:=
 ⟨j.asc,j.gen,j.one,λz a=>j.sub z (by simp [a]),j.sub x siM,λz a c=>by
  by_cases e:z=x
  .exact .inl e
  .exact .inr (j.cl z a (by simp [c,e])),λj d=>om⟩
theorem UI.done (j:UI n S x S.length A Q):ElJ n S A Q:=
 ⟨j.asc,j.gen,j.one,j.sub,λz d c g a=>by
  rcases j.cl z d c with rfl|h
  .obtain⟨i,hi,e⟩:=rV.1 a
   have:=j.dn i hi;rwa [List.getD,dC hi,Option.getD_some,e] at this
  .exact h g a⟩
theorem UI.skip {i:Nat}(j:UI n S x i A Q)(h:aS x (S.getD i [])∈A):UI n S x (i+1) A Q:=
 ⟨j.asc,j.gen,j.one,j.sub,j.mem,j.cl,λk a=>by
  by_cases e:k=i
  .rw[e];exact h
  .exact j.dn k om⟩
theorem UI.step {i:Nat}(j:UI n S x i A Q)(l: ∀g∈S,aY n g)(hi:i<S.length)(h:aS x (S.getD i [])∉A)(p:Plc A (aS x (S.getD i [])) k):UI n S x (i+1) (Ze A k (aS x (S.getD i []))) (Q++ [aS x (S.getD i [])]):=by
 have m:=j.gen x j.mem;have d:bX n (· ∈S) (aS x (S.getD i [])):=m.mul (aV hi);obtain⟨y,f⟩:=exI (aS x (S.getD i []));rw[f] at d h p |-;refine⟨LD (λz a=>(j.gen z a).bM l) (d.bM l) j.asc p h,λz a=>?_,oT.2 (.inr j.one),λz a=>?_,oT.2 (.inr j.mem),λz a c=>?_,λq c=>?_⟩
 .rcases oT.1 a with rfl|a
  .exact d
  .exact j.gen z a
 .rcases jO.1 a with a|a
  .exact oT.2 (.inr (j.sub z a))
  .simp at a;exact oT.2 (.inl a)
 .rcases oT.1 a with rfl|a
  .exact absurd siM c
  .rcases j.cl z a (λh=>c (by simp [h])) with e|o
   .exact .inl e
   .exact .inr λg r=>oT.2 (.inr (o g r))
 .by_cases e:q=i
  .rw[e,f];exact oT.2 (.inl rfl)
  .exact oT.2 (.inr (j.dn q om))
theorem fG.Ze {W:Nat->Prop}{c:List V}(p:fG W h c A)(q:PV W h v y)(i:k<=A.length):fG W h (c.take k++v::c.drop k) (Go.Proofs.YtcdbmkidaecdiaaGreat.Ze A k y):=by
 have j:=aJ.length p
 have t:(k:Nat)->(c:List V)->(A:LN)->fG W h c A->fG W h (c.take k) (A.take k)/\fG W h (c.drop k) (A.drop k):=by
  intro k
  induction k with
  |zero=>intro c A p;exact⟨trivial,p⟩
  |succ k ih=>
   intro c A p
   cases c with
   |nil=>cases A with
    |nil=>exact⟨trivial,trivial⟩
    |cons=>exact p.elim
   |cons a c=>cases A with
    |nil=>exact p.elim
    |cons b A=>
     obtain⟨f,d⟩:=ih c A p.2
     exact⟨⟨p.1,f⟩,d⟩
 obtain⟨f,d⟩:=t k c A p;exact f.append ⟨q,d⟩
theorem HU.own (t:HU h v ws b)(m:0<ws.length):cW h v 1 ws b:=by
 obtain⟨id,d,a,rfl,i,f,j,c⟩:=t;refine .inr ⟨id,ws.length,d,a,rfl,(qZ _).symm,?_,i,f,j⟩;rcases c with c|⟨rfl,l⟩
 .exact .inl c
 .have e:ws.length=1:=om
  exact .inr ⟨by rw[e],Yl om⟩
end
def Li (s:Nat->Bool)(n:Nat):Nat:=((List.range n).filter s).length
theorem JE (s:Nat->Bool)(n:Nat):Li s (n+1)=Li s n+if s n=true then 1 else 0:=by
 unfold Li;rw[List.range_succ,List.filter_append,iB];cases h:s n<;>simp [List.filter,h]
theorem VK (s:Nat->Bool)(n:Nat):Li s n<=n:=by
 unfold Li;have:=List.length_filter_le s (List.range n);rwa [Ng] at this
set_option maxRecDepth 100000
theorem Hs {h:H}{v:V}{L:LN}(s:SP h v L):bH v=some (aC (L.length:Int))/\dM v v=true/\ ∃(id off:Nat) (ws:List V),Sl v 1 L.length id off/\ ∀i,i<L.length->id<h.next/\h.cell id (off+i)=some (ws.getD i V.undef)/\SI h (ws.getD i V.undef) (zi (L.getD i [])):=by
 have f:=s.lens;rw[fL] at f;obtain⟨id,off,ws,k,b,c,j,a⟩:=s.open;rw[fL] at k b c j;have⟨l,d,_⟩:=s;exact⟨f,SV.dM d,id,off,ws,k,λi hi=>⟨b om,j i hi,wF a hi⟩⟩
open Classical in
noncomputable def Lr (a:List Nat)(n i:Nat):List Nat:=(List.range i).filter λj=>decide (jH a n j)
theorem KH (a:List Nat)(n i:Nat):(jH a n i->Lr a n (i+1)=Lr a n i++ [i])/\(¬jH a n i->Lr a n (i+1)=Lr a n i):=by
 classical
 unfold Lr;rw[List.range_succ,List.filter_append];constructor
 .intro h;simp [List.filter,h]
 .intro h;simp [List.filter,h]
theorem Xn (a:List Nat)(n i:Nat):(Lr a n i).length<=i:=by
 unfold Lr;have:=List.length_filter_le (λj=> @decide (jH a n j) (Classical.propDecidable _)) (List.range i);rwa [Ng] at this
def itK (a:List Nat)(i s:Nat):List Nat:=(List.range s).map λt=>it a t i
theorem PF (a:List Nat)(i s:Nat):itK a i (s+1)=itK a i s++ [it a s i]:=by
 unfold itK;rw[List.range_succ,List.map_append];rfl
theorem aaX (u:V)(n:Nat)(a:List Nat)(h:H)(hn:n<=64)(A:aY n a)(hu:SI h u (zi a)):
  Ev T 242 [u] h (λv h'=> ∃ws,cW h' v 1 ws h.next/\fG (λq=>q<h.next) h' ws (rQ a n)/\Fr h h'):=by
 refine kV ?_
 have lu:=hu.lens
 rw[aL,A.len] at lu
 obtain⟨id,off,sh,a2,hc⟩:=hu.open
 rw[aL,A.len] at sh a2 hc
 simp(disch:=omega)only[go_sem,aI,lu,Fe h n om]
 obtain⟨S,hS⟩:=exI h.next
 obtain⟨Q,e1,n1,g1,o1,f1⟩:=dF hS (rc n λ_=>V.bool false)
 rw[hS,e1]
 refine aH (λk' f w=> ∃(i:Nat) (G:V) (Y:List V),(∃g:Nat->V,f= [u,g 1,G,.sl S 0 n (.kn n),aC i,g 5,g 6,g 7,g 8,g 9])/\i<=n/\cW w G 1 Y (S+1)/\fG (λq=>q<=S\/dG G q) w Y ((Lr a n i).map (Tl a))/\
   w.get S=some (.cells false (rc n λj=> .bool (zO a i 0 j)))/\S<w.next/\Fr h w/\k'=n-i) n
  ⟨0,.aD, [],aB rfl,fE _,cW.aD _ _ _,trivial,by rw[g1,show (rc n λj=>V.bool (zO a 0 0 j))=rc n λ_=>V.bool false from cT λj _=>by rw[Uj]],om,f1,rfl⟩ ?_
 clear g1 e1 o1 f1 n1 Q
 rintro k' f d ⟨i,G,Y,⟨g,rfl⟩,hi,ow,U,gS,b5,F,rfl⟩
 by_cases a3:(i:Int)<(n:Int)
 case neg=>
  have d1:=bT a3;obtain rfl:i=n:=om
  refine cU lu d1 ?_;exact⟨Y,ow.le om,fG.jK U λq _ N=> .inl om,F⟩
 have d1:=cJ a3
 have k:i<n:=om
 have B:=λj off m c (e:G=V.sl j off m c)=>ow.in j off m c e
 have lw:=aJ.length U
 rw[fL] at lw
 have lf:=Xn a n i
 obtain⟨p0,p1,_⟩:=nG A k
 have b4:=Qv A k
 refine cU lu d1 ?_
 refine bY (λvs w=> ∃(y:V) (l:List Nat),(∃g:Nat->V,vs= [u,g 1,G,.sl S 0 n (.kn n),aC i,y,g 6,g 7,g 8,g 9])/\(jH a n i->l=Tl a i)/\(¬jH a n i->l= [])/\cW w y 1 (ints (zi l)) d.next/\
   w.get S=some (.cells false (rc n λj=> .bool (zO a (i+1) 0 j)))/\d.next<=w.next/\ ∀q,q<d.next->q≠S->w.get q=d.get q) ?_ ?_
 .refine aH (λk' f w=> ∃(s:Nat) (y:V),(∃g:Nat->V,f= [u,g 1,G,.sl S 0 n (.kn n),aC i,y,aC (it a s i:Nat),g 7,g 8,g 9])/\s<=rS a i/\(¬jH a n i->s=0)/\cW w y 1 (ints (zi (itK a i s))) d.next/\
    w.get S=some (.cells false (rc n λj=> .bool (zO a i s j)))/\d.next<=w.next/\(∀q,q<d.next->q≠S->w.get q=d.get q)/\k'=rS a i-s) (rS a i)
   ⟨0,.aD,aB rfl,fE _,λ_=>rfl,cW.aD _ _ _,gS,eU _,λ_ _ _=>rfl,rfl⟩ ?_
  clear g
  rintro k' f J ⟨s,y,⟨g,rfl⟩,hs,a4,K,r,Z,O,rfl⟩
  have kl:=Ab A k s
  have cS:J.cell S (it a s i)=some (.bool (zO a i s (it a s i))):=iJ r kl
  have e3:decide (((it a s i:Nat):Int)<0)=false:=bT om
  have e4:decide ((n:Int)<=((it a s i:Nat):Int))=false:=bT om
  by_cases x:zO a i s (it a s i)=true
  .rw[x] at cS
   refine dQ e3 e4 cS ?_
   by_cases p:jH a n i
   .have a1:s=rS a i:=by
     have:=Hr A k p hs;rw[x] at this;have h5: ¬s<rS a i:=λh=>by have:=this.2 h;cases this
     omega
    subst a1;refine⟨y,itK a i (rS a i),aB rfl,λ_=>rfl,λh=>absurd p h,K,?_,Z,O⟩;rw[r];congr 2;exact cT λj _=>by rw[Xr A k]
   .obtain rfl:=a4 p
    refine⟨y, [],aB rfl,λh=>absurd h p,λ_=>rfl,K,?_,Z,O⟩
    rw[r]
    congr 2
    exact cT λj _=>by rw[Tc A k p]
  .have L:zO a i s (it a s i)=false:=by simpa using x
   rw[L] at cS
   have p:jH a n i:=zQ λp=>by
    obtain rfl:=a4 p;have d: ∃j0,j0<i/\ ∃t,it a t j0=i:=zQ λhn=>p ((yV A k).2 λj0 hj t e=>hn ⟨j0,hj,t,e⟩)
    exact x (nX.2 (.inl d))
   have a1:=(Hr A k p hs).1 L
   have pt:=cF (vs:=rc n λj=> .bool (zO a i s j)) (off:=it a s i) (by rw[iK];exact kl) J S (.bool true)
   rw[jL] at pt
   obtain⟨h4,e5,n4,g4,R⟩:=lU J S (rc n λj=>if j=it a s i then V.bool true else .bool (zO a i s j))
   rw[e5] at pt
   have hr:(rc n λj=>if j=it a s i then V.bool true else .bool (zO a i s j))=rc n λj=> .bool (zO a i (s+1) j):=cT λj _=>by
    rw[Wr];split<;>rfl
   rw[hr] at g4
   have b0:=K.qX (h':=h4) om λq off m c e N=>R q (by have:=(K.in _ _ _ _ e).2.1;omega)
   have ll:(itK a i s).length=s:=by unfold itK;simp
   obtain⟨h5,e6,n5,g5,o5,f5⟩:=dF (h:=h4) rfl [aC (it a s i:Nat)]
   obtain⟨h6,a6,p6⟩:=(b0.fr f5).push (bytes:=8) (SV.one om g5 (.kn 1)) (n:=s) (m:=1) (by rw[aN,aL];omega) rfl om om om
   have n6:=p6.next
   have ci:h6.cell id (off+it a s i)=some (aC (a.getD (it a s i) 0:Nat)):=by
    have N:=a2 om;have hF:=F.next
    have b1:h6.get id=d.get id:=by
     rw[p6.old id om (λq o m c e W=>by have:=(K.in _ _ _ _ e).2.1;omega),o5 id om,R id om,O id om om]
    unfold H.cell;rw[b1];show d.cell id (off+it a s i)=_;rw[F.cell N,hc _ kl];congr 2;simp [zi,A.len,kl]
   have a7:=Ek h4 ((it a s i:Nat):Int)
   rw[show ints [((it a s i:Nat):Int)]= [aC (it a s i:Nat)] from rfl,e6] at a7
   rw[n5] at a6
   refine uG e3 e4 cS r pt a7 a6 @sh.ixa ci ?_
   refine⟨rS a i-(s+1),om,s+1,.sl (h4.next+1) 0 (s+1) (.un 1),?_,om,λh=>absurd p h,?_,?_,om,λq Q d=>?_,rfl⟩
   .rw[show it a (s+1) i=a.getD (it a s i) 0 by rw[sV a s i 1];rfl]
    exact aB rfl
   .have t:=p6.own (by rw[aN,aL];omega) rfl (b:=d.next) om
    rw[PF,Cf,oH]
    rw[n5] at t
    exact t
   .rw[p6.old S om (λq o m c e W=>by have:=(K.in _ _ _ _ e).2.1;omega),o5 S om];exact g4
   .rw[p6.old q om (λq' o m c e W=>by have:=(K.in _ _ _ _ e).2.1;omega),o5 q om,R q d,O q Q d]
 clear g
 rintro f J ⟨y,l,⟨g,rfl⟩,b3,a9,K,r,Z,O⟩
 have F3:Fr h J:=⟨by have:=F.next;omega,λq N=>by rw[O q (by have:=F.next;omega) om];exact F.get q N⟩
 have a0:cW J G 1 Y (S+1):=ow.qX Z λq o m c e N=>O q N (by have:=(B _ _ _ _ e).2.1;omega)
 have x3:Fx (λq=>q<=S\/dG G q) d J:=⟨Z,λq Q d=>O q Q (λe=>d (.inl om))⟩
 have P:=fG.fx U x3
 have lc:bH y=some (aC (l.length:Int)):=by
  have:=SI.lens (show SI J y (zi l) from K.sv);rwa [aL] at this
 obtain⟨a8,b2⟩:=KH a n i
 by_cases p:jH a n i
 .have el:=b3 p
  have ll:l.length=rS a i:=by rw[el,vI]
  have d2:decide ((0:Int)<(l.length:Int))=true:=cJ om
  have pc:PV (λq=>q<=S\/dG G q) J y l:=by
   refine⟨K.sv,?_⟩
   cases y with
   |sl q o m c=>
    have h5:=(K.in _ _ _ _ rfl).2.1;rintro (h6|⟨o',m',c',e⟩)
    .omega
    .have:=(B _ _ _ _ e).1;omega
   |_=>trivial
  obtain⟨h4,e4,n4,g4,R,f4⟩:=dF (h:=J) rfl [y]
  obtain⟨h5,a5,p5⟩:=(a0.fr f4).push (bytes:=24) (SV.one om g4 (.kn 1)) (n:=(Lr a n i).length) (m:=1) om rfl om om om
  have n5:=p5.next
  rw[n4] at a5
  simp(disch:=omega)only[go_sem,lc,d2,cQ _ (z:= .aD) pc.eZ.1 pc.eZ.2,e4,a5]
  rw[eJ i]
  have x5:Fx (λq=>q<=S\/dG G q) J h5:=⟨om,λq Q d=>by rw[p5.old q om (λq' o m c e W=>d (.inr ⟨o,m,c,W▸e⟩)),R q om]⟩
  have w5: ∀q,q<J.next->(q<=S\/dG (.sl (J.next+1) 0 ((Lr a n i).length+1) (.un 1)) q)->(q<=S\/dG G q):=λq Q d=>by
   rcases d with d|⟨_,_,_,e⟩
   .exact .inl d
   .cases e;omega
  have t:=p5.own om rfl (b:=S+1) om
  rw[n4] at t
  refine⟨n-(i+1),om,i+1,_,_,aB rfl,om,t,?_,?_,om,⟨by have:=F3.next;omega,λq N=>?_⟩,rfl⟩
  .rw[a8 p,List.map_append,show [i].map (Tl a)= [l] by rw[el];rfl]
   exact (fG.go P x5 w5).append (fG.one (PV.go pc x5 w5))
  .rw[p5.old S om (λq' o m c e W=>by have:=(B _ _ _ _ e).2.1;omega),R S om];exact r
  .rw[p5.old q om (λq' o m c e W=>by have:=(B _ _ _ _ e).2.1;omega),R q (by have:=F3.next;omega)];exact F3.get q N
 .have el:=a9 p
  have d2:decide ((0:Int)<(l.length:Int))=false:=by rw[el];rfl
  refine cU lc d2 ?_
  rw[eJ i]
  exact⟨n-(i+1),om,i+1,G,Y,aB rfl,om,a0,by rw[b2 p];exact P,r,om,F3,rfl⟩
theorem PW {l:List Nat}{k:Nat}(a:k<l.length):pZ (l.take (k+1))=pZ (l.take k)/Nat.gcd (pZ (l.take k)) (l.getD k 0)*l.getD k 0:=by
 unfold pZ;rw[dJ 0 a,List.foldl_append];rfl
theorem ZQ {l:List Nat}{m k:Nat}(h:pZ l∣m):pZ (l.take k)∣m:=by
 rw[uN] at h |-;exact λc a=>h c (List.mem_of_mem_take a)
theorem HO (u:V)(n:Nat)(a:List Nat)(h:H)(n0:1<=n)(hn:n<=7)(A:aY n a)(Y:SI h u (zi a)):
  Ev T 200 [u] h (λv h'=>v= .tup [aC (oD a n:Nat),aC 0]/\Fr h h'):=by
 refine nL ?_
 refine (mM u _ h (by rw[aL,A.len];omega) Y).mono ?_
 rw[Am A n0 om]
 rintro _ h1 ⟨rfl,R⟩
 refine aM ?_
 refine bI (λF=>(F rfl).elim) (λ_=>?_)
 refine aM ?_
 refine (aaX u n a h1 om A (Y.mono R)).mono ?_
 rintro vl B ⟨wl,ol,pl,f2⟩
 have sl:=fG.sp' ol.sv pl
 obtain⟨C,y⟩:=exI (rQ a n)
 rw[y] at sl
 obtain⟨lv,ev,id,N,ws,sh,F⟩:=Hs sl
 have b: ∀k,pZ ((C.map List.length).take k)∣420:=λk=>ZQ (by rw[<-y];exact Xs A hn)
 have h0: ∀k,0<pZ ((C.map List.length).take k):=λk=>Nat.pos_of_dvd_of_pos (b k) om
 have x: ∀k,pZ ((C.map List.length).take k)<=420:=λk=>Nat.le_of_dvd om (b k)
 have P: ∀k,k<C.length->(C.getD k []).length<=420:=λk hk=>by
  have Z:=b (k+1);rw[uN] at Z;refine Nat.le_of_dvd om (Z _ ?_);have e:((C.map List.length).take (k+1))=(C.take (k+1)).map List.length:=by rw[List.map_take]
  rw[e];refine qU.2 ⟨C.getD k [],?_,rfl⟩;rw[dJ [] hk];simp
 have a1:C.length<=n:=by
  rw[<-y];unfold rQ;rw[fL];exact Xn a n n
 refine aM ?_
 refine aH (λU i w=> ∃(k:Nat),(∃g:Nat->V,i= [g 0,g 1,g 2,g 3,aC ((pZ ((C.map List.length).take k):Nat):Int),vl,aC k,g 7,g 8])/\k<=C.length/\Fr B w/\U=C.length-k) C.length
  ⟨0,aB rfl,fE _,Fr.refl B,rfl⟩ ?_
 rintro U i s ⟨k,⟨g,rfl⟩,hk,O,rfl⟩
 by_cases t:(k:Int)<(C.length:Int)
 case neg=>
  have K:=bT t;obtain rfl:k=C.length:=om
  refine cU lv K ?_;refine⟨?_,(R.trans f2).trans O⟩;rw[Bo (by rw[fL];exact eU _),<-y];rfl
 have K:=cJ t
 have d:k<C.length:=om
 obtain⟨i1,c1,W⟩:=F k d
 have cell: ∀w,Fr B w->w.cell id (N+k)=some (ws.getD k V.undef):=λw f=>by rw[f.cell i1];exact c1
 have o:=W.lens
 rw[aL] at o
 have p:=SV.dM W
 generalize ws.getD k V.undef=vc at cell o p
 obtain⟨m,z⟩:=exI (pZ ((C.map List.length).take k))
 obtain⟨c,l⟩:=exI ((C.getD k []).length)
 have L:0<m:=by rw[<-z];exact h0 k
 have a3:m<=420:=by rw[<-z];exact x k
 have a4:c<=420:=by rw[<-l];exact P k d
 have step:pZ ((C.map List.length).take (k+1))=m/Nat.gcd m c*c:=by
  rw[PW (by rw[fL];exact d),z]
  have:(C.map List.length).getD k 0=c:=by
   rw[<-l,List.getD,List.getD,Jj,dC d];rfl
  rw[this]
 have j:=x (k+1)
 rw[step] at j
 rw[l] at o
 rw[z]
 refine iT lv K @sh.ixa (cell s O) o ?_
 have fb:Fr s (H.mk s.tr (s.next+16)):=(Fr.refl s).bU om
 refine (XW m c _ om om).mono ?_
 rintro _ h4 ⟨rfl,f4⟩
 have Q:=(O.trans fb).trans f4
 have a0:0<Nat.gcd m c:=Nat.gcd_pos_of_pos_left c L
 have G:((Nat.gcd m c:Nat):Int)≠0:=om
 obtain⟨q,J⟩:=exI (m/Nat.gcd m c)
 have a2:q<=m:=by rw[<-J];exact Nat.div_le_self ..
 rw[J] at step j
 obtain⟨r,hr⟩:=exI (q*c)
 rw[hr] at step j
 have ed:((m:Nat):Int).tdiv ((Nat.gcd m c:Nat):Int)=(q:Int):=by
  rw[Int.tdiv_eq_ediv_of_nonneg om,<-J];rfl
 have em:(q:Int)*(c:Int)=(r:Int):=by rw[<-Int.natCast_mul,hr]
 refine uA (cell h4 Q) o ev p G ed em ?_
 rw[eJ k]
 exact⟨C.length-(k+1),om,k+1,by rw[step];exact aB rfl,om,Q,rfl⟩
def wrC (C:LN)(k s j:Nat):Prop:=(∃q,q<k/\j∈C.getD q [])\/j∈(C.getD k []).take s
open Classical in
noncomputable def KQ (C:LN)(x:List Nat)(k s j:Nat):V:=if wrC C k s j then aC (x.getD j 0:Nat) else aC 0
section
variable {O:List (List Int)} {R:List (List (List Int))}
theorem mI {h:H}{v:V}(s:SR h v O):bH v=some (aC (O.length:Int))/\dM v v=true/\v.cells= [v]/\v.one=true/\ ∃(id off:Nat) (ws:List V),Sl v 1 O.length id off/\ ∀i,i<O.length->id<h.next/\h.cell id (off+i)=some (ws.getD i V.undef)/\SI h (ws.getD i V.undef) (O.getD i []):=by
 have c:=s.lens;obtain⟨ws,sv,b⟩:=s;have j:=aJ.length b;obtain⟨id,off,f,a,d⟩:=SV.shape sv O.length om om;exact⟨c,SV.dM sv,(SV.cM sv).1,(SV.cM sv).2.1,id,off,ws,f,λi hi=>⟨a om,by rw[d i om];simp [List.getD,show i<ws.length by omega],Pt b hi⟩⟩
theorem sU {h:H}{v:V}(s:SRR h v R):bH v=some (aC (R.length:Int))/\dM v v=true/\v.cells= [v]/\v.one=true/\ ∃(id off:Nat) (ws:List V),Sl v 1 R.length id off/\ ∀i,i<R.length->id<h.next/\h.cell id (off+i)=some (ws.getD i V.undef)/\SR h (ws.getD i V.undef) (R.getD i []):=by
 obtain⟨ws,sv,b,_⟩:=s;have f:=aJ.length b;obtain⟨id,off,d,a,c⟩:=SV.shape sv R.length om om;refine⟨by unfold bH;rw[SV.len sv (n:=R.length) om om];rfl,SV.dM sv,(SV.cM sv).1,(SV.cM sv).2.1,id,off,ws,d,λi hi=>⟨a om,by rw[c i om];simp [List.getD,show i<ws.length by omega],?_⟩⟩;have:=aJ.get b i om hi;rw[List.getD,List.getD,dC (show i<ws.length by omega),dC hi];exact this
structure FrR (n:Nat)(O:List (List Int))(R:List (List (List Int)))(i k:Nat):Prop where
 row: ∀j,j<i->(O.getD j []).length<=n/\(O.getD j []).length=(R.getD j []).length
 perm: ∀j,j<i-> ∀x∈R.getD j [],x.length=n/\mW x=true
 last: ∀x∈(R.getD i []).take k,x.length=n/\mW x=true
theorem FrR.nat {n:Nat}(f:FrR n O R n 0)(k:R.length=n): ∃R':iA,R=R'.map (List.map zi)/\ ∀g∈R'.flatten,aY n g:=by
 have a: ∀r∈R,∀x∈r,x.length=n/\mW x=true:=λr b x c=>by
  obtain⟨i,hi,rfl⟩:=rV.1 b;exact f.perm i om x (by rw[List.getD,dC hi];exact c)
 refine⟨R.map (List.map (List.map Int.toNat)),?_,λg h=>?_⟩
 .rw[List.map_map]
  refine (List.map_id R).symm.trans (Sk λr b=>?_);show r=(r.map (List.map Int.toNat)).map zi;rw[List.map_map];exact (List.map_id r).symm.trans (Sk λx c=>(Gn (a r b x c).2).1)
 .obtain⟨j,d,h⟩:=List.mem_flatten.1 h
  obtain⟨r,b,rfl⟩:=qU.1 d;obtain⟨x,c,rfl⟩:=qU.1 h;have:=(Gn (a r b x c).2).2;rwa [(a r b x c).1] at this
theorem FrR.next {n:Nat}{i k:Nat}(f:FrR n O R i k)(d:(R.getD i []).length<=k)(c:(O.getD i []).length<=n)(h2:(O.getD i []).length=(R.getD i []).length):FrR n O R (i+1) 0:=by
 have a:=f.last;rw[Bo d] at a;refine⟨λj h=>?_,λj h=>?_,λx b=>by rw[List.take_zero] at b;cases b⟩
 .by_cases e:j=i
  .subst e;exact⟨c,h2⟩
  .exact f.row j om
 .by_cases e:j=i
  .subst e;exact a
  .exact f.perm j om
theorem FL {x:List Int}(a:1<=x.length)(h2:x.length<=64):Ma x=0↔mW x=true:=by
 unfold Ma;rw[bV om];constructor
 .intro h
  split at h
  .assumption
  .omega
 .intro h;rw[bL h]
theorem Gk (vc:V)(d:Int)(O:List (List Int))(R:List (List (List Int)))(h:H)(hc:Hd h vc d O R)(hd:d<=7\/64<d)(so:mY O)(sr:qB R):
  Ev T 95 [vc] h (λv h'=>v= aC (lE d O R)/\Fr h h'):=by
 have d6:=hc
 obtain⟨vO,vR,rfl,sO,sR⟩:=hc
 refine kV ?_
 obtain⟨lO,e3,_,a8,c7,a3,a5,a2,cO⟩:=mI sO
 obtain⟨lR,e6,_,b6,b8,b2,a4,r,cR⟩:=sU sR
 obtain⟨B,hB⟩:=exI h.next
 obtain⟨b,e1,n1,g1,o1,q⟩:=dF hB [aC d,vO,vR]
 have c0: ∀a,Fr b a->a.cell B 0=some (aC d):=λa f=>by rw[f.cell om,H.cell_of g1];rfl
 have c1: ∀a,Fr b a->a.cell B 1=some vO:=λa f=>by rw[f.cell om,H.cell_of g1];rfl
 have L: ∀a,Fr b a->a.cell B 2=some vR:=λa f=>by rw[f.cell om,H.cell_of g1];rfl
 have rB: ∀a,Fr b a->a.row B 0 3=some [aC d,vO,vR]:=λa f=>aE (by rw[f.get B om];exact g1)
 have bx:=aU h (v:= aC d) (u:=vO) (w:=vR) rfl a8 b6
 by_cases a1:d<1
 .have x1:=cJ a1
  simp(disch:=omega)only[go_sem,aI,bx,hB,e1,c0 b (Fr.refl _),x1]
  exact⟨by unfold lE;rw[bL (.inl a1)],q⟩
 have x1:=bT a1
 by_cases a0:64<d
 .have x2:=cJ a0
  simp(disch:=omega)only[go_sem,aI,bx,hB,e1,c0 b (Fr.refl _),x1,x2]
  exact⟨by unfold lE;rw[bL (.inr a0)],q⟩
 have x2:=bT a0
 obtain⟨n,rfl⟩: ∃n:Nat,d=(n:Int):=⟨d.toNat,om⟩
 have A:1<=n:=om
 have d7:n<=7:=om
 by_cases c5:O.length=n
 case neg=>
  have x3:decide ((O.length:Int)≠(n:Int))=true:=cJ om;simp(disch:=omega)only[go_sem,aI,bx,hB,e1,c0 b (Fr.refl _),x1,x2,c1 b (Fr.refl _),lO,x3];exact⟨by rw[uP A om (λf=>c5 f.lo)],q⟩
 have x3:decide ((O.length:Int)≠(n:Int))=false:=bT om
 by_cases b3:R.length=n
 case neg=>
  have x4:decide ((R.length:Int)≠(n:Int))=true:=cJ om;simp(disch:=omega)only[go_sem,aI,bx,hB,e1,c0 b (Fr.refl _),x1,x2,c1 b (Fr.refl _),lO,x3,L b (Fr.refl _),lR,x4];exact⟨by rw[uP A om (λf=>b3 f.lr)],q⟩
 have x4:decide ((R.length:Int)≠(n:Int))=false:=bT om
 simp(disch:=omega)only[go_sem,aI,bx,hB,e1,c0 b (Fr.refl _),x1,x2,c1 b (Fr.refl _),lO,x3,L b (Fr.refl _),lR,x4]
 have P: ¬KS n O R->lE (n:Int) O R=3:=uP A om
 refine aH (λk' o a=> ∃(i:Nat) (G:V) (J:List V),(∃g:Nat->V,o= [g 0,.ptr B 0,g 2,aC n,G,aC i,g 6,g 7,g 8,g 9,g 10,g 11,g 12,g 13,g 14,g 15])/\i<=n/\cW a G 1 J b.next/\aJ (SI b) J (R.take i).flatten/\FrR n O R i 0/\Fr b a/\k'=n-i) n
   ⟨0,.aD, [],aB rfl,fE _,cW.aD _ _ _,trivial,⟨λj hj=>om,λj hj=>om,λx hx=>by rw[List.take_zero] at hx;cases hx⟩,Fr.refl b,rfl⟩ ?_
 rintro k' o l ⟨i,G,J,⟨g,rfl⟩,hi,ow,K,fr,F,rfl⟩
 by_cases a9:(i:Int)<(n:Int)
 case pos=>
  have d1:=cJ a9;have Z:i<n:=om
  obtain⟨i1,ci,si⟩:=cO i om;obtain⟨j1,cj,sj⟩:=cR i om;have lo:=si.lens;have d0:=SV.dM si;obtain⟨lr,c6,_,_,c8,b7,b5,N,cr⟩:=mI sj;have Q: ∀a,Fr b a->a.cell c7 (a3+i)=some (a5.getD i V.undef):=λa f=>by rw[(q.trans f).cell i1];exact ci
  have p: ∀a,Fr b a->a.cell b8 (b2+i)=some (a4.getD i V.undef):=λa f=>by rw[(q.trans f).cell j1];exact cj
  generalize a5.getD i V.undef=vo at Q lo d0;generalize a4.getD i V.undef=vr at p lr c6 N sj;have e2:(R.getD i []).length<1000000:=sr.2 i om
  by_cases q1:(n:Int)<((O.getD i []).length:Int)
  case pos=>
   have y1:=cJ q1;simp(disch:=omega)only[go_sem,d1,c1 l F,L l F,a2.ixa,r.ixa,Q l F,p l F,lo,lr,y1];exact⟨by rw[P λf=>by have:=f.row i Z;omega],q.trans (F.bU om)⟩
  have y1:=bT q1
  by_cases q2:(O.getD i []).length=(R.getD i []).length
  case neg=>
   have y2:decide (((O.getD i []).length:Int)≠((R.getD i []).length:Int))=true:=cJ om;simp(disch:=omega)only[go_sem,d1,c1 l F,L l F,a2.ixa,r.ixa,Q l F,p l F,lo,lr,y1,y2];exact⟨by rw[P λf=>by have:=f.row i Z;omega],q.trans (F.bU om)⟩
  have y2:decide (((O.getD i []).length:Int)≠((R.getD i []).length:Int))=false:=bT om;have Fb:Fr b (H.mk l.tr (l.next+23)):=F.bU om;have b4:cW (H.mk l.tr (l.next+23)) G 1 J b.next:=ow.fr ((Fr.refl l).bU om);simp(disch:=omega)only[go_sem,d1,c1 l F,L l F,a2.ixa,r.ixa,Q l F,p l F,lo,lr,y1,y2];generalize (H.mk l.tr (l.next+23))=h3 at*;refine aH (λk' o a=> ∃(k:Nat) (G:V) (J:List V),(∃g:Nat->V,o= [g 0,.ptr B 0,g 2,aC n,G,aC i,aC k,g 7,g 8,g 9,g 10,g 11,g 12,g 13,g 14,g 15])/\k<=(R.getD i []).length/\cW a G 1 J b.next/\aJ (SI b) J ((R.take i).flatten++(R.getD i []).take k)/\FrR n O R i k/\Fr b a/\k'=(R.getD i []).length-k) (R.getD i []).length
   ⟨0,G,J,aB rfl,fE _,b4,by rw[List.take_zero,qV];exact K,fr,Fb,rfl⟩ ?_
  clear ow b4 K fr Fb;rintro k' o s ⟨k,G,J,⟨g,rfl⟩,hk,ow,K,fr,t,rfl⟩
  by_cases a7:(k:Int)<((R.getD i []).length:Int)
  case neg=>
   have d2:=bT a7;have b0:(R.getD i []).length<=k:=om
   rw[Bo b0,<-Oo om] at K;refine iT (L s t) @r.ixa (p s t) lr d2 ?_;rw[eJ i];exact⟨n-(i+1),om,i+1,G,J,aB rfl,om,ow,K,fr.next b0 om q2,t,rfl⟩
  have d2:=cJ a7;have U:k<(R.getD i []).length:=om
  obtain⟨k1,ck,sk⟩:=cr k U;have Y: ∀a,Fr b a->a.cell c8 (b7+k)=some (b5.getD k V.undef):=λa f=>by rw[(q.trans f).cell k1];exact ck
  generalize b5.getD k V.undef=vx at Y sk;have mx:(R.getD i []).getD k []∈R.getD i []:=aV U;obtain⟨x,hx⟩:=exI ((R.getD i []).getD k []);rw[hx] at sk mx;have lx:=sk.lens;have e0:=SV.dM sk
  by_cases q3:x.length=n
  case neg=>
   have y3:decide ((x.length:Int)≠(n:Int))=true:=cJ om;refine uG (L s t) @r.ixa (p s t) lr d2 @N.ixa (Y s t) lx y3 ?_;exact⟨by rw[P λf=>q3 (f.perm i Z x mx).1],q.trans t⟩
  have y3:decide ((x.length:Int)≠(n:Int))=false:=bT om;refine uG (L s t) @r.ixa (p s t) lr d2 @N.ixa (Y s t) lx y3 ?_;refine (mM vx x _ om (sk.mono (q.trans t))).mono ?_;rintro _ h5 ⟨rfl,f5⟩;have W:=t.trans f5
  by_cases q4:Ma x=0
  case neg=>
   have y4:=cJ q4;refine bE y4 ?_;exact⟨by rw[P λf=>q4 ((FL om om).2 (f.perm i Z x mx).2)],q.trans W⟩
  have y4:decide (Ma x≠0)=false:=bT om;have ok:=(FL om om).1 q4;have b1:=K.length
  have d8:((R.take i).flatten++(R.getD i []).take k).length<=400:=by
   have b:=nH (m:=7) (R:=R) (i:=i) om (λj hj=>by have:=fr.row j hj;omega);have l:i*7<=7*7:=Nat.mul_le_mul_right 7 om;rw[iB,wH];omega
  have one:=SV.cM sk;obtain⟨h6,a6,b9,f6,n6,o6⟩:=tL (v:=vx) (ow.fr f5) W om (bytes:=24) om;simp(disch:=omega)only[go_sem,y4,L h5 W,r.ixa,p h5 W,N.ixa,Y h5 W,cQ _ (z:= .aD) one.1 one.2.1,a6];rw[eJ k];refine⟨(R.getD i []).length-(k+1),om,k+1,_,_,aB rfl,om,b9,?_,⟨fr.row,fr.perm,λy hy=>?_⟩,f6,rfl⟩
  .rw[dJ [] U,hx,<-pJ]
   exact K.append ⟨sk.mono q,trivial⟩
  .rw[dJ [] U,hx] at hy
   rcases jO.1 hy with hy|hy
   .exact fr.last y hy
   .rw[List.mem_singleton.1 hy];exact⟨q3,ok⟩
 have d1:=bT a9
 obtain rfl:i=n:=om
 rw[Bo om] at K
 obtain⟨R',eR,hP⟩:=fr.nat b3
 have eF:R.flatten=R'.flatten.map zi:=by rw[eR,List.map_flatten]
 have fl:R.flatten.length<=49:=by
  have b:=nH (m:=7) (R:=R) (i:=R.length) om (λj hj=>by have:=fr.row j om;omega);have l:R.length*7<=7*7:=Nat.mul_le_mul_right 7 om;rw[Bo om] at b;omega
 have d9:R'.flatten.length<=49:=by rw[eF,fL] at fl;exact fl
 have b1:=K.length
 have d4:=cW.lens ow b1
 have d5:decide ((4096:Int)<(R.flatten.length:Int))=false:=bT om
 rw[eF] at K
 refine dQ d1 d4 d5 ?_
 refine (qK G i R'.flatten l A d7 om ⟨J,ow.sv,K.mono λ_ _ x=>x.mono F⟩ hP).mono ?_
 rintro _ h3 ⟨vm,O2,R2,rfl,gc,f3⟩
 obtain⟨_,⟨uO,uR,rfl,tO,tR⟩⟩:True/\Hd h3 vm (i:Int) (O2.map zi) (R2.map (List.map zi)):=⟨trivial,gc.ch⟩
 obtain⟨_,_,_,c9,_⟩:=mI tO
 obtain⟨_,_,_,d3,_⟩:=sU tR
 obtain⟨M,hM⟩:=exI h3.next
 obtain⟨s,e4,n4,g4,o4,f4⟩:=dF hM [aC 0,.aD,.aD]
 have e5:=f3.next
 have nF:=F.next
 have W:Fr h3 (s.set M (bG [aC i,uO,uR])):=f4.set om _
 have g5:(s.set M (bG [aC i,uO,uR])).get M=bG [aC i,uO,uR]:=H.aW ..
 refine iT hM e4 (bW s M 0 (v:= aC i) (u:=uO) (w:=uR) rfl c9 d3) g4 @bQ ?_
 generalize s.set M (bG [aC i,uO,uR])=h5 at W g5 |-
 have G5:Fr b h5:=(F.trans f3).trans W
 obtain⟨c3,c4⟩:=gc.small
 refine cU (rB h5 G5) (aE g5) ?_
 refine (Da _ _ (i:Int) (i:Int) O (O2.map zi) R (R2.map (List.map zi)) h5 (d6.mono (q.trans G5)) (Hd.mono ⟨uO,uR,rfl,tO,tR⟩ W) so c3 (sr.inn (λj hj x hx=>(fr.perm j om x hx).1) om) c4).mono ?_
 rintro _ h6 ⟨rfl,f6⟩
 have iff:=Zp.iff (O:=O) A om hP gc.isc
 rw[<-eR] at iff
 by_cases hq:(i:Int)=(i:Int)/\O=O2.map zi/\R=R2.map (List.map zi)
 .have ed:=cJ hq
  rw[ed]
  refine aM ?_
  refine⟨?_,q.trans (G5.trans f6)⟩
  unfold lE
  rw[bV om,bL (iff.2 hq.2)]
 .have ed:=bT hq
  rw[ed]
  refine aM ?_
  refine⟨?_,q.trans (G5.trans f6)⟩
  unfold lE
  rw[bV om,bV (λc=>hq ⟨rfl,iff.1 c⟩)]
end
theorem Es {W:Nat->Prop}(vc:V)(n:Nat)(O:LN)(R:iA)(G:List Nat->Prop)(h:H)(f:GC W h vc n O R G):
  Ev T 148 [vc] h (λv h'=> ∃S,v= .tup [.sl S 0 (n+1) (.kn (n+1)),.bool true]/\h.next<=S/\S<h'.next/\h'.get S=some (.cells false (rc (n+1) λj=> aC (iC O (n-j) j:Nat)))/\Fr h h'):=by
 obtain⟨x,q,e,sO,sR⟩:=f.ch
 subst e
 refine kV ?_
 have l:=f.isc
 have n0:=f.n0
 have n7:=f.n7
 obtain⟨wO,tO,aO⟩:=sO
 have lO:=aO.length
 rw[fL,l.lo] at lO
 have J:=tO.cM.2.1
 have P:q.one=true:=Yb sR
 obtain⟨B,hB⟩:=exI h.next
 obtain⟨h1,e1,n1,g1,o1,f1⟩:=dF hB [aC n,x,q]
 have bx:=aU h (v:= aC n) (u:=x) (w:=q) rfl J P
 have en:(n:Int)+1=((n+1:Nat):Int):=om
 have Z:=mJ h1 (n+1) om
 rw[n1] at Z
 obtain⟨t,z,n2,g2,o2,f2⟩:=dF n1 (rc (n+1) λ_=> aC 0)
 rw[z] at Z
 have p:t.get B=some (.cells false [aC n,x,q]):=by rw[o2 _ om];exact g1
 have pt:(c:H)->(S:Nat)->(F:Nat->V)->(k:Nat)->(v:V)->k<n+1->eH (some (.cells false (rc (n+1) F))) c S k [v]=some (c.set S (some (.cells false (rc (n+1) λj=>if j=k then v else F j)))):=λc S F k v U=>by rw[cF (by rw[iK];exact U),jL]
 obtain⟨h3,e3,n3,g3,o3⟩:=lU t (B+1) (rc (n+1) λj=>if j=n then aC 1 else aC 0)
 have o:h3.get B=some (.cells false [aC n,x,q]):=by rw[o3 _ om];exact p
 have a0:n<n+1:=om
 simp(disch:=omega)only[go_sem,aI,bx,hB,e1,H.cell_of g1,en,Z,H.cell_of p,g2,pt _ _ _ n _ a0,e3,H.cell_of o]
 have F3:Fr h h3:=⟨om,λk U=>by rw[o3 _ om,o2 _ om,o1 _ om]⟩
 have a1: ∀i,i<=n->0<iC O (n-i) i/\iC O (n-i) i<=823543:=λi hi=>by
  refine⟨tF _ _ λj h1 t=>(f.row om).1,kP (Fl (m:=7) om _ _ λj h1 t=>by have:=(f.row (j:=j) om).2;omega) ?_⟩;exact kP (Nat.pow_le_pow_right om (show n-i<=7 by omega)) deC
 refine aH (λr b c=> ∃(i:Nat),(∃g:Nat->V,b= [g 0,.ptr B 0,g 2,g 3,.sl (B+1) 0 (n+1) (.kn (n+1)),aC ((i:Int)- 1),g 6,g 7])/\i<=n/\c.get B=some (.cells false [aC n,x,q])/\
   c.get (B+1)=some (.cells false (rc (n+1) λj=>if i<=j then aC (iC O (n-j) j:Nat) else aC 0))/\B+1<c.next/\Fr h c/\r=i) n
  ⟨n,aB rfl,eU _,o,?_,om,F3,rfl⟩ ?_
 .rw[g3]
  congr 2
  refine cT λj hj=>?_
  by_cases e:j=n
  .subst e;rw[bL rfl,bL (eU _),Nat.sub_self];rfl
  .rw[bV e,bV om]
 clear g3 o o3 n3 e3 h3 F3 p g2 o2 n2 z Z t f2
 rintro r b h4 ⟨i,⟨g,rfl⟩,hi,gB,gS,nx,F,U⟩
 subst U
 by_cases L:(0:Int)<=(r:Int)- 1
 case neg=>
  have Y:=bT L;obtain rfl:r=0:=om
  refine bE Y ?_;refine⟨B+1,rfl,om,nx,?_,F⟩;rw[gS];congr 2
 have Y:=cJ L
 obtain⟨i,rfl⟩: ∃i,r=i+1:=⟨r- 1,om⟩
 have ei:((i+1:Nat):Int)- 1=(i:Int):=om
 have eI:(i:Int)+1=((i+1:Nat):Int):=om
 rw[ei] at Y |-
 have a:=gH aO (i:=i) (by rw[fL,l.lo];omega) .undef []
 rw[fO zi (d:= []) (by rw[l.lo];omega)] at a
 obtain⟨a3,N,a5,a7,a2⟩:=(tO.mono F).shape n om om
 have co:h4.cell a3 (N+i)=some (wO.getD i .undef):=by rw[a2 i om,List.getD,dC om];rfl
 generalize wO.getD i .undef=vo at a co
 have lo:=a.lens
 rw[aL] at lo
 obtain⟨m,hm⟩:=exI ((O.getD i []).length)
 rw[hm] at lo
 have K:=f.row (j:=i) om
 rw[hm] at K
 have cS:h4.cell (B+1) (i+1)=some (aC ((iC O (n-(i+1)) (i+1):Nat):Int)):=by rw[iJ gS om,bL (eU _)]
 obtain⟨s,hs⟩:=exI (iC O (n-(i+1)) (i+1))
 rw[hs] at cS
 have y:=a1 (i+1) om
 rw[hs] at y
 have Q:(1000000000000000000:Int).tdiv (m:Int)=((1000000000000000000/m:Nat):Int):=by
  rw[show (1000000000000000000:Int)=((1000000000000000000:Nat):Int) from rfl,Int.tdiv_eq_ediv_of_nonneg om];rfl
 have hq:100000000000000000<=1000000000000000000/m:=by
  rw[Nat.le_div_iff_mul_le om];omega
 have a9:1000000000000000000/m<=1000000000000000000:=Nat.div_le_self _ _
 have d2:decide (((1000000000000000000/m:Nat):Int)<(s:Int))=false:=bT om
 have A:(s:Int)*(m:Int)=((m*s:Nat):Int):=by rw[Int.mul_comm];rfl
 have a8:m*s<=7*823543:=Nat.mul_le_mul om y.2
 have a4:i<n+1:=om
 have a6:(m:Int)≠0:=om
 simp(disch:=omega)only[go_sem,Y,H.cell_of gB,a5.ixa,co,lo,eI,cS,Q,a6,d2,A,gS,pt _ _ _ i _ a4]
 refine⟨i,om,i,aB rfl,om,gB,?_,om,?_,rfl⟩
 .congr 2
  refine cT λj hj=>?_
  by_cases e:j=i
  .subst e
   rw[bL rfl,bL (eU _),show n-j=(n-(j+1))+1 by omega]
   unfold iC
   rw[hm,hs]
  .rw[bV e]
   by_cases z:i+1<=j
   .rw[bL z,bL om]
   .rw[bV z,bV om]
 .exact (F.bU om).set om _
def oJ (l:List Nat)(a:Nat):Nat:=(l.filter λb=>decide (b<a)).length
theorem Zl (l:List Nat)(b a:Nat):oJ (l++ [b]) a=oJ l a+if b<a then 1 else 0:=by
 unfold oJ;rw[List.filter_append,iB]
 by_cases h:b<a<;>simp [h]
theorem Nv:{S:List Nat}->S.Pairwise (· < ·)-> ∀t,t<S.length->oJ S (S.getD t 0)=t
 | [],_,t,h=>by simp at h
 |x::S,hs,0,_=>by
  obtain⟨a,_⟩:=List.pairwise_cons.1 hs;unfold oJ;rw[List.length_eq_zero_iff,List.filter_eq_nil_iff];intro b d;rcases uL.1 d with e|d
  .subst e;simp
  .have:=a b d
   simp;omega
 |x::S,hs,t+1,h=>by
  obtain⟨a,i⟩:=List.pairwise_cons.1 hs;have c:t<S.length:=by simpa using h
  have f:=Nv i t c;unfold oJ at f |-;have e:(x::S).getD (t+1) 0=S.getD t 0:=by simp [List.getD]
  have j:x<S.getD t 0:=a _ (by rw[bJ c];exact pN c);rw[e,List.filter_cons,bL (by simpa using j),List.length_cons,f]
theorem YD {l:List Nat}(nd:l.Nodup){j m:Nat}(w:j<l.length)(n:m<l.length):oJ l (l.getD m 0)=j↔m=l.idxOf ((iR l).getD j 0):=by
 have c:=fX l;have v:=c.length_eq;have f:(iR l).Nodup:=c.nodup_iff.2 nd
 have o:(iR l).Pairwise (· < ·):=by
  rw[Xz] at f;exact ((zB l).and f).imp λ⟨x,d⟩=>om
 have s: ∀a,oJ l a=oJ (iR l) a:=λa=>by
  unfold oJ;exact ((c.filter _).length_eq).symm
 have q:l.getD m 0∈iR l:=c.mem_iff.2 (by rw[bJ n];exact pN n);obtain⟨t,k,u⟩:=rV.1 q;have i:(iR l).getD t 0=l.getD m 0:=by rw[bJ k,u]
 rw[s,<-i,Nv o t k];constructor
 .rintro rfl
  rw[i,bJ n,nd.idxOf_getElem]
 .intro h
  have b:j<(iR l).length:=om
  have r:(iR l).getD j 0∈l:=c.mem_iff.1 (by rw[bJ b];exact pN b)
  have d:l.getD m 0=(iR l).getD j 0:=by
   have p:=iLL.2 r;rw[h,bJ p,List.getElem_idxOf]
  rw[<-i,bJ k,bJ b] at d;exact (List.getElem_inj f).1 d
theorem CX {α:Type}(f:Nat->List α){s:Nat}(d:α)(j:0<s):(l:List Nat)->(k:Nat)->(∀a∈l,(f a).length=s)->k<l.length*s->
  k/s<l.length/\(l.flatMap f).getD k d=(f (l.getD (k/s) 0)).getD (k%s) d
 | [],k,_,h=>by simp at h
 |a::l,k,hl,h=>by
  have o:=hl a siM;rw[List.flatMap_cons]
  by_cases c:k<s
  .rw[Nat.div_eq_of_lt c,Nat.mod_eq_of_lt c]
   refine⟨siM,?_⟩;rw[List.getD,wU om];simp [List.getD]
  .have n:=CX f d j l (k-s) (λb m=>hl b (tX _ m)) (by rw[List.length_cons,Nat.succ_mul] at h;omega)
   have i:k/s=(k-s)/s+1:=by rw[Nat.div_eq_sub_div j om]
   have p:k%s=(k-s)%s:=Nat.mod_eq_sub_mod om;refine⟨by rw[i,List.length_cons];omega,?_⟩;rw[i,p,List.getD,zT om,o];have:=n.2;simp only[List.getD,List.getElem?_cons_succ] at this |-;exact this
section
variable {n:Nat} {G:List Nat->Prop} {O:LN} {R:iA}
theorem QU (j:eM n G)(c:bA n G O R){d i:Nat}{x:List Nat}(hi:i+(d+1)=n)(X:aY n x){k:Nat}(p:0<iC O d (i+1))(l:k<iC O (d+1) i):
  k/iC O d (i+1)<(eY O x i).length/\(iR (eY O x i)).getD (k/iC O d (i+1)) 0∈eY O x i/\
   (bZ O R (d+1) i x).getD k []=(bZ O R d (i+1) (gO O R x i ((iR (eY O x i)).getD (k/iC O d (i+1)) 0))).getD (k%iC O d (i+1)) []:=by
 have m:(iR (eY O x i)).length=(O.getD i []).length:=by rw[(fX _).length_eq];simp [eY]
 have h: ∀a,a∈iR (eY O x i)↔a∈eY O x i:=λa=>(fX _).mem_iff
 obtain⟨f,o⟩:=CX (λa=>bZ O R d (i+1) (gO O R x i a)) [] p (iR (eY O x i)) k (λa b=>by
  obtain⟨_,_,_,_,_,_,Y,_⟩:=lY j c X om ((h a).1 b)
  exact (uI j c d (i+1) _ om Y).2.2) (by rw[m];exact l)
 refine⟨by rw[<-(fX _).length_eq];exact f,(h _).1 (by rw[bJ f];exact pN f),o⟩
end
theorem Pd {h hh:H}{v:V}{l:List Nat}{b:Nat}(s:SI h v (zi l))(m:b=l.length): ∃id off,Sl v 1 b id off/\ ∀hh,Fr h hh-> ∀k,k<b->hh.cell id (off+k)=some (aC (l.getD k 0:Nat)):=by
 subst m;obtain⟨id,off,j,a,i⟩:=s.open;rw[aL] at j a i;refine⟨id,off,j,λhh f k c=>?_⟩;rw[f.cell (a om),i k c];congr 2;rw[zi,fO _ (d:=0) c]
theorem DO {v:V}{b:Nat}(h: ∀id off len cap,v= .sl id off len cap->b<=id):Gz (λq=>q<b) v:=by
 cases v with
 |sl id off len cap=>exact λa=>by have:=h _ _ _ _ rfl;omega
 |_=>trivial
theorem GV {W:Nat->Prop}(vc:V)(n:Nat)(O:LN)(R:iA)(G:List Nat->Prop)(h:H)(Z:GC W h vc n O R G)(S k0:Nat)(hS:S<h.next)
  (gS:h.get S=some (.cells false (rc (n+1) λj=> aC (iC O (n-j) j:Nat)))) (b9:k0<iC O n 0):
  Ev T 153 [vc,.sl S 0 (n+1) (.kn (n+1)),aC k0] h (λv h'=>PV (λq=>q<h.next) h' v ((bZ O R n 0 (bC n)).getD k0 [])/\Fr h h'):=by
 obtain⟨vO,vR,e,sO,sR⟩:=Z.ch
 subst e
 refine kV ?_
 have o:=Z.isc
 have n7:=Z.n7
 have hG:=Z.cX
 obtain⟨lO,g3,_,b6,f0,b3,b5,z,cO⟩:=mI sO
 obtain⟨lR,g6,_,e2,e8,c8,b4,c7,cR⟩:=sU sR
 rw[fL,o.lo] at z cO
 rw[fL,o.lr] at c7 cR
 obtain⟨B,hB⟩:=exI h.next
 obtain⟨J,e1,n1,g1,o1,f1⟩:=dF hB [aC n,vO,vR]
 have c0: ∀hh,Fr J hh->hh.cell B 0=some (aC n):=λhh f=>by rw[f.cell om,H.cell_of g1];rfl
 have c1: ∀hh,Fr J hh->hh.cell B 1=some vO:=λhh f=>by rw[f.cell om,H.cell_of g1];rfl
 have c2: ∀hh,Fr J hh->hh.cell B 2=some vR:=λhh f=>by rw[f.cell om,H.cell_of g1];rfl
 have cS: ∀hh,Fr J hh-> ∀j,j<n+1->hh.cell S j=some (aC (iC O (n-j) j:Nat)):=λhh f j hj=>by
  rw[(f1.trans f).cell hS,iJ gS hj]
 have bx:=aU h (v:= aC n) (u:=vO) (w:=vR) rfl b6 e2
 simp(disch:=omega)only[go_sem,aI,bx,hB,e1,c0 J (Fr.refl _)]
 refine (Rw n J om).mono ?_
 rintro u h2 ⟨su,f2,hu⟩
 obtain⟨L,N⟩:=exI ((bZ O R n 0 (bC n)).getD k0 [])
 rw[N]
 refine aM ?_
 refine aH (λk' a hh=> ∃(i k:Nat) (u:V) (x:List Nat),(∃g:Nat->V,a= [g 0,.sl S 0 (n+1) (.kn (n+1)),aC k,.ptr B 0,g 4,u,aC i,g 7,g 8,g 9,g 10,g 11,g 12,g 13,g 14,g 15,g 16])/\i<=n/\aY n x/\PV (λq=>q<h.next) hh u x/\k<iC O (n-i) i/\(bZ O R (n-i) i x).getD k []=L/\Fr J hh/\k'=n-i) n
  ⟨0,k0,u,_,aB rfl,fE _,aY.one n,⟨su,DO λ_ _ _ _ e=>by have:=hu _ _ _ _ e;omega⟩,b9,N,f2,rfl⟩ ?_
 clear su f2 N b9 hu
 rintro k' a h3 ⟨i,k,u,x,⟨g,rfl⟩,hi,X,su,hk,N,F,rfl⟩
 by_cases b8:(i:Int)<(n:Int)
 case neg=>
  have d1:=bT b8;obtain rfl:i=n:=om
  refine cU (c0 h3 F) d1 ?_;rw[Nat.sub_self] at hk N;have:k=0:=by unfold iC at hk;omega
  subst this;unfold bZ at N;have N:x=L:=N;subst N;exact⟨by rw[<-hB];exact su,f1.trans F⟩
 have d1:=cJ b8
 have p:i<n:=om
 obtain⟨d,hd⟩: ∃d,n-i=d+1:=⟨n-i- 1,om⟩
 have a4:n-(i+1)=d:=om
 rw[hd] at hk N
 have sp:0<iC O d (i+1):=tF _ _ λj J h2=>(Z.row om).1
 obtain⟨a1,a2,a3⟩:=QU hG o (d:=d) om X sp hk
 rw[N] at a3
 have cs:=cS h3 F (i+1) om
 rw[a4] at cs
 obtain⟨s,hs⟩:=exI (iC O d (i+1))
 rw[hs] at sp a1 a2 a3 cs
 have f4:k%s<s:=Nat.mod_lt _ sp
 have nd:=Aq hG o X p
 have la: ∀m,m<(eY O x i).length->(oJ (eY O x i) ((eY O x i).getD m 0)=k/s↔m=(eY O x i).idxOf ((iR (eY O x i)).getD (k/s) 0)):=λm hm=>YD nd a1 hm
 obtain⟨l,q1,q2,q3,q4,q5,q6,_⟩:=lY hG o X p a2
 rw[q2] at la
 rw[q5] at a3 q6
 obtain⟨I,hI⟩:=exI (eY O x i)
 have lI:=yP O x i
 have a9: ∀m,m<(O.getD i []).length->I.getD m 0=x.getD ((O.getD i []).getD m 0) 0:=λm hm=>by rw[<-hI];exact CB hm
 rw[hI] at la lI a1
 obtain⟨skip,b2⟩: ∃q,k/s=q:=⟨_,rfl⟩
 rw[b2] at la a1
 have g5:=Fl (O:=O) (m:=7) om d (i+1) λj J h2=>by have:=(Z.row (j:=j) om).2;omega
 have p7:7^d<=823543:=kP (Nat.pow_le_pow_right om (show d<=7 by omega)) deC
 have g4:=Fl (O:=O) (m:=7) om (d+1) i λj J h2=>by have:=(Z.row (j:=j) om).2;omega
 have p8:7^(d+1)<=823543:=kP (Nat.pow_le_pow_right om (show d+1<=7 by omega)) deC
 have e3:(k:Int).tdiv (s:Int)=(skip:Int):=by rw[Int.tdiv_eq_ediv_of_nonneg om,<-b2];rfl
 have e4:(k:Int).tmod (s:Int)=((k%s:Nat):Int):=by rw[Int.tmod_eq_emod_of_nonneg om];rfl
 have e9:(s:Int)≠0:=om
 have eI:(i:Int)+1=((i+1:Nat):Int):=om
 obtain⟨_,ci,si⟩:=cO i p
 obtain⟨_,cj,sj⟩:=cR i p
 have r: ∀hh,Fr J hh->hh.cell f0 (b3+i)=some (b5.getD i V.undef):=λhh f=>by rw[(f1.trans f).cell (by assumption)];exact ci
 have d8: ∀hh,Fr J hh->hh.cell e8 (c8+i)=some (b4.getD i V.undef):=λhh f=>by rw[(f1.trans f).cell (by assumption)];exact cj
 rw[fO zi (d:= []) (by rw[o.lo];exact p)] at si
 rw[fO (List.map zi) (d:= []) (by rw[o.lr];exact p)] at sj
 generalize b5.getD i V.undef=vo at r si
 generalize b4.getD i V.undef=vr at d8 sj
 obtain⟨lr,g0,_,_,f3,e7,d0,a8,cr⟩:=mI sj
 rw[fL,o.rl i p] at a8 cr
 have lo:=si.lens
 rw[aL] at lo
 obtain⟨m,hm⟩:=exI ((O.getD i []).length)
 have d5:=Z.row (j:=i) p
 have c5: ∀j,j<m->(O.getD i []).getD j 0<n:=λj hj=>yK hG o p (aV om)
 rw[hm] at lo lI a9 a8 cr d5 q1
 obtain⟨f9,f8,c4,co⟩:=Pd (hh:=h) (b:=m) si hm.symm
 obtain⟨idx,f7,b7,cx⟩:=Pd (hh:=h) (b:=n) su.si X.len.symm
 refine uA (c0 h3 F) d1 eI cs e3 e9 e4 ?_
 have g2: ∀q:Nat,((if l<q then l else 0:Nat):Int)=(if l<q then (l:Int) else 0):=λq=>by split<;>rfl
 refine aH (λk' a hh=> ∃(q:Nat),(∃g:Nat->V,a= [g 0,.sl S 0 (n+1) (.kn (n+1)),aC (k%s:Nat),.ptr B 0,g 4,u,aC i,aC skip,aC (if l<q then l else 0:Nat),aC q,g 10,g 11,g 12,g 13,g 14,g 15,g 16])/\q<=m/\Fr h3 hh/\k'=m-q) m
  ⟨0,aB rfl,fE _,Fr.refl h3,rfl⟩ ?_
 rintro k' a Q ⟨q,⟨g,rfl⟩,hq,F4,rfl⟩
 have K:=F.trans F4
 by_cases b1:(q:Int)<(m:Int)
 case neg=>
  have d2:=bT b1;have a5:q=m:=om
  obtain⟨k1,ck,sk⟩:=cr l q1;rw[fO zi (d:= []) (by rw[o.rl i p];omega)] at sk;have e0: ∀hh,Fr J hh->hh.cell f3 (e7+l)=some (d0.getD l V.undef):=λhh f=>by rw[(f1.trans f).cell k1];exact ck
  generalize d0.getD l V.undef=vg at e0 sk;have Y:=hG.bM q4.mem;generalize (R.getD i []).getD l []=y at sk Y a3 q6;have e5:((if l<q then l else 0:Nat):Int)=(l:Int):=by rw[bL om]
  simp(disch:=omega)only[go_sem,c1 Q K,z.ixa,r Q K,lo,d2,c2 Q K,c7.ixa,d8 Q K,e5,a8.ixa,e0 Q K];refine (nV vg u y x Q (by rw[Y.len];omega) (sk.mono (f1.trans K)) (su.si.mono F4) (λj hj=>by rw[X.len];exact Y.fZ (by rw[Y.len] at hj;exact hj))).mono ?_;rintro v A ⟨s5,f5,f6⟩;refine aM ?_;rw[eI];refine⟨n-(i+1),om,i+1,k%s,v,aS y x,aB rfl,om,q6,⟨s5,DO λ_ _ _ _ e=>by have:=f6 _ _ _ _ e;have:=K.next;omega⟩,by rw[a4,hs];exact f4,by rw[a4];exact a3.symm,K.trans f5,rfl⟩
 have d2:=cJ b1
 have a5:q<m:=om
 obtain⟨b,hb⟩:=exI (I.getD q 0)
 have a7:=a9 q a5
 rw[hb] at a7
 refine iT (c1 Q K) @z.ixa (r Q K) lo d2 ?_
 refine aH (λk' a hh=> ∃(t:Nat),(∃g:Nat->V,a= [g 0,.sl S 0 (n+1) (.kn (n+1)),aC (k%s:Nat),.ptr B 0,g 4,u,aC i,aC skip,aC (if l<q then l else 0:Nat),aC q,aC (oJ (I.take t) b:Nat),aC t,g 12,g 13,g 14,g 15,g 16])/\t<=m/\Fr Q hh/\k'=m-t) m
  ⟨0,aB rfl,fE _,Fr.refl Q,rfl⟩ ?_
 rintro k' a A ⟨t,⟨g,rfl⟩,ht,F5,rfl⟩
 have P:=K.trans F5
 by_cases a0:(t:Int)<(m:Int)
 case neg=>
  have d3:=bT a0;rw[Bo (show I.length<=t by omega)];have b0:=la q om;rw[hb] at b0
  by_cases c3:oJ I b=skip
  .have d4:decide (((oJ I b:Nat):Int)=(skip:Int))=true:=cJ om
   have c6:=b0.1 c3;refine kA (c1 A P) @z.ixa (r A P) lo d3 d4 ?_;rw[eJ q];refine⟨m-(q+1),om,q+1,?_,om,F4.trans F5,rfl⟩;rw[bL om,<-c6];exact aB rfl
  .have d4:decide (((oJ I b:Nat):Int)=(skip:Int))=false:=bT om
   have c6:q≠l:=λe=>c3 (b0.2 e)
   refine kA (c1 A P) @z.ixa (r A P) lo d3 d4 ?_;rw[eJ q];refine⟨m-(q+1),om,q+1,?_,om,F4.trans F5,rfl⟩
   have e6:(if l<q+1 then l else 0)=if l<q then l else 0:=by
    by_cases h:l<q
    .rw[bL h,bL om]
    .rw[bV h,bV om]
   rw[e6];exact aB rfl
 have d3:=cJ a0
 have d6:t<m:=om
 have d9:=c5 t om
 have c9:=c5 q om
 have ct:=co A (f1.trans P) t d6
 have cq:=co A (f1.trans P) q a5
 have hc:=a9 t d6
 have step:I.take (t+1)=I.take t++ [I.getD t 0]:=dJ 0 om
 generalize (O.getD i []).getD t 0=ot at ct d9 hc
 generalize (O.getD i []).getD q 0=oq at cq c9 a7
 have U:=cx A (F4.trans F5) ot d9
 have a6:=cx A (F4.trans F5) oq c9
 rw[<-hc] at U
 rw[<-a7] at a6
 generalize I.getD t 0=c at U step
 have ls:=Zl (I.take t) c b
 have ll:oJ (I.take t) b<=t:=kP (List.length_filter_le _ _) (by rw[wH];omega)
 rw[<-step] at ls
 by_cases d7:(c:Int)<(b:Int)
 .have d4:=cJ d7
  rw[bL om] at ls
  simp(disch:=omega)only[go_sem,c1 A P,z.ixa,r A P,lo,d3,c4.ixa,ct,cq,b7.ixa,U,a6,d4]
  rw[show (t:Int)+1=((t+1:Nat):Int) from om,show ((oJ (I.take t) b:Nat):Int)+1=((oJ (I.take t) b+1:Nat):Int) from om,<-ls]
  exact⟨m-(t+1),om,t+1,aB rfl,om,F5.bU om,rfl⟩
 .have d4:=bT d7
  rw[bV om] at ls
  simp(disch:=omega)only[go_sem,c1 A P,z.ixa,r A P,lo,d3,c4.ixa,ct,cq,b7.ixa,U,a6,d4]
  rw[show (t:Int)+1=((t+1:Nat):Int) from om,show ((oJ (I.take t) b:Nat):Int)=((oJ (I.take t) b+0:Nat):Int) from om,<-ls]
  exact⟨m-(t+1),om,t+1,aB rfl,om,F5.bU om,rfl⟩
section
variable {h:H} {v:V} {b:Nat} {W:Nat->Prop}
theorem BT {i:H}{d:V}{a:List V}{ls:LN}{x:List Nat}(o:cW h d 1 a i.next)(f:Fr i h)(r:a.length<1000000)(A:b<=i.next)(p:fG (λq=>q<b\/dG d q) h a ls)(pv:PV (λq=>q<b\/dG d q) h v x):
  ∃h2,rD (h.new (.cells false [v])) 1 24 d (.sl h.next 0 1 (.kn 1))=some (.sl (h.next+1) 0 (a.length+1) (.un 1),h2)/\cW h2 (.sl (h.next+1) 0 (a.length+1) (.un 1)) 1 (a++ [v]) i.next/\fG (λq=>q<b\/dG (.sl (h.next+1) 0 (a.length+1) (.un 1)) q) h2 (a++ [v]) (ls++ [x])/\Fr i h2/\h2.next=h.next+2:=by
 obtain⟨h2,u,s,t,w,y⟩:=tL (v:=v) o f r (bytes:=24) om
 have k:Fx (λq=>q<b\/dG d q) h h2:=⟨om,λq l h2=>y q l λid j m c e z=>h2 (.inr ⟨j,m,c,z▸e⟩)⟩
 have n: ∀q,q<h.next->(q<b\/dG (.sl (h.next+1) 0 (a.length+1) (.un 1)) q)->(q<b\/dG d q):=λq l h2=>by
  rcases h2 with h2|⟨_,_,_,e⟩
  .exact .inl h2
  .cases e;omega
 exact⟨h2,u,s,(fG.go p k n).append (fG.one (PV.go pv k n)),t,w⟩
theorem PV.OV {h':H}{a:V}{d:List V}{sz c:Nat}{x:List Nat}(o:cW h a sz d b)(f:c<=h.next)(p:PV (λq=>q<h.next) h' v x):PV (λq=>q<c\/dG a q) h' v x:=
 p.jK λq _ e=>by
  rcases e with e|⟨_,_,_,e⟩
  .omega
  .exact (o.in _ _ _ _ e).1
theorem Tg {ws:List V}{L:LN}(o:cW h v 1 ws b)(p:fG W h ws L): ∃id off,Sl v 1 L.length id off/\ ∀i,i<L.length->id<h.next/\h.cell id (off+i)=some (ws.getD i V.undef)/\PV W h (ws.getD i V.undef) (L.getD i []):=by
 have f:=aJ.length p;obtain⟨id,off,d,a,c⟩:=SV.shape o.sv L.length om om;refine⟨id,off,d,λi hi=>⟨a om,?_,gH p hi .undef []⟩⟩;rw[c i om,List.getD,dC om];rfl
theorem fG.fr {h':H}{vs:List V}{ls:LN}(p:fG W h vs ls)(f:Fr h h'):fG W h' vs ls:=p.mono λ_ _ x=>⟨x.si.mono f,x.off⟩
theorem GC.Ba {a:V}{n:Nat}{O:LN}{R:iA}{G:List Nat->Prop}(g:GC W h a n O R G):Ev T 95 [a] h (λv h'=>v= aC 0/\Fr h h'):=by
 obtain⟨c,sr⟩:=g.small;have:=Gk a (n:Int) (O.map zi) (R.map (List.map zi)) h g.ch (.inl (by have:=g.n7;omega)) c sr.out;rwa [g.IB] at this
theorem Ws (vc:V)(n:Nat)(O:LN)(R:iA)(G:List Nat->Prop)(h:H)(j:GC W h vc n O R G)(L:LN)(hL:bZ O R n 0 (bC n)=L):
  Ev T 115 [vc] h (λv h'=> ∃vl wl,v= .tup [vl,aC 0]/\cW h' vl 1 wl h.next/\fG (λq=>q<h.next) h' wl L/\Fr h h'):=by
 have d:=j
 obtain⟨r,x,e,sO,sR⟩:=j.ch
 subst e
 refine kV ?_
 have Y:=j.isc
 obtain⟨a0,ll⟩:=dA j.cX Y
 have a4:=dX j
 rw[hL] at a0 ll
 have l:r.one=true:=EB sO
 have p:x.one=true:=Yb sR
 obtain⟨B,hB⟩:=exI h.next
 obtain⟨h1,e1,n1,g1,o1,s⟩:=dF hB [aC n,r,x]
 have bx:=aU h (v:= aC n) (u:=r) (w:=x) rfl l p
 have rB: ∀a,Fr h1 a->a.row B 0 3=some [aC n,r,x]:=λa f=>aE (by rw[f.get B om];exact g1)
 simp(disch:=omega)only[go_sem,aI,bx,hB,e1,rB h1 (Fr.refl _)]
 refine ((d.mono s).Ba).mono ?_
 rintro _ h2 ⟨rfl,Z⟩
 refine aM ?_
 refine bI (λhc=>(hc rfl).elim) (λ_=>?_)
 refine bE (rB h2 Z) ?_
 refine (Es _ n O R G h2 (d.mono (s.trans Z))).mono ?_
 rintro _ y ⟨S,rfl,a3,k,gS,f3⟩
 have F3:=Z.trans f3
 have J: ∀a,Fr y a->a.cell S 0=some (aC (L.length:Int)):=λa f=>by
  rw[f.cell k,iJ gS om,ll];rfl
 obtain⟨m,hm⟩:=exI L.length
 have d2:decide ((5040:Int)<(m:Int))=false:=bT om
 rw[hm] at J
 have n0:=j.n0
 simp(disch:=omega)only[go_sem,J y (Fr.refl _),d2]
 refine aH (λk' c a=> ∃(i:Nat) (vl:V) (wl:List V),(∃g:Nat->V,c= [g 0,.ptr B 0,g 2,g 3,g 4,.sl S 0 (n+1) (.kn (n+1)),g 6,vl,aC i,g 9,g 10,g 11])/\i<=m/\cW a vl 1 wl y.next/\fG (λq=>q<B\/dG vl q) a wl (L.take i)/\Fr y a/\k'=m-i) m
  ⟨0,.aD, [],aB rfl,fE _,cW.aD _ _ _,trivial,Fr.refl _,rfl⟩ ?_
 rintro k' c t ⟨i,vl,wl,⟨g,rfl⟩,hi,ow,N,F,rfl⟩
 have K:=F3.trans F
 have a2:=K.next
 have a1:=F3.next
 have P:=N.length
 rw[wH] at P
 by_cases o:(i:Int)<(m:Int)
 case neg=>
  have d3:=bT o;refine cU (J t F) d3 ?_;rw[Bo om] at N;exact⟨_,wl,rfl,ow.le om,fG.jK N λq _ hq=> .inl om,s.trans K⟩
 have d3:=cJ o
 refine dQ (J t F) d3 (rB t K) ?_
 refine (GV _ n O R G t (d.mono (s.trans K)) S i (by have:=F.next;omega) (by rw[F.get _ k];exact gS) om).mono ?_
 rintro v h5 ⟨A,U⟩
 rw[hL] at A
 obtain⟨h6,a6,Q,p6,f6,n6⟩:=BT (ow.fr U) (F.trans U) om (b:=B) om (fG.fr N U) (PV.OV ow om A)
 simp(disch:=omega)only[go_sem,cQ _ (z:= .aD) A.eZ.1 A.eZ.2,a6]
 rw[eJ i]
 refine⟨m-(i+1),om,i+1,_,_,aB rfl,om,Q,?_,f6,rfl⟩
 rw[dJ [] om]
 exact p6
end
theorem fG.ahC {W:Nat->Prop}{h:H}{ws:List V}{l:LN}(p:fG W h ws l){i:Nat}(hi:i<l.length):SI h (ws.getD i V.undef) (zi (l.getD i [])):=by
 have a:=aJ.length p;have:=(aJ.get p i om hi).si;rwa [oV (d:=V.undef),oV (d:= []) hi] at this
theorem Vu {W W':Nat->Prop}(vc vd:V)(n:Nat)(O O':LN)(R R':iA)(G G':List Nat->Prop)(h:H)(N:GC W h vc n O R G)(U:GC W' h vd n O' R' G'):
  Ev T 78 [vc,vd] h (λv h'=> ∃vr O2 R2,v= .tup [vr,aC 0]/\GC (λq=>q<h.next) h' vr n O2 R2 (tM n R R')/\Fr h h'):=by
 obtain⟨vO,vR,rfl,oO,oR⟩:=N.shape
 obtain⟨uO,uR,rfl,pO,pR⟩:=U.shape
 refine kV ?_
 have n0:=N.n0
 have n7:=N.n7
 have hG:=N.cX
 have b8:=U.cX
 obtain⟨B,hB⟩:=exI h.next
 obtain⟨h1,e1,n1,g1,o1,f1⟩:=dF hB [aC n,vO,vR]
 obtain⟨h2,e2,n2,g2,o2,f2⟩:=dF n1 [aC n,uO,uR]
 obtain⟨P,e3,n3,g3,o3,f3⟩:=dF n2 [aC 0,.aD,.aD]
 have F3:=(f1.trans f2).trans f3
 have gB: ∀a,Fr P a->a.get B=bG [aC n,vO,vR]:=λa f=>by rw[f.get B om,o3 B om,o2 B om];exact g1
 have gC: ∀a,Fr P a->a.get (B+1)=bG [aC n,uO,uR]:=λa f=>by rw[f.get (B+1) om,o3 _ om];exact g2
 have gA: ∀a,Fr P a->a.get (B+1+1)=bG [aC 0,.aD,.aD]:=λa f=>by rw[f.get _ om];exact g3
 have r3:=Fr.refl P
 simp(disch:=omega)only[go_sem,aI,aU h (v:= aC n) (u:=vO) (w:=vR) rfl oO oR,hB,e1,aU h1 (v:= aC n) (u:=uO) (w:=uR) rfl pO pR,n1,e2,n2,e3,aE (gB P r3),aE (gC P r3)]
 refine (PE _ _ n O O' R R' G G' P (N.mono F3) (U.mono F3)).mono ?_
 rintro _ r ⟨rfl,f4⟩
 refine aM ?_
 refine bI (λhc=>(hc rfl).elim) (λ_=>?_)
 have F4:=F3.trans f4
 have fb:Fr r (H.mk r.tr (r.next+6)):=(Fr.refl r).bU om
 refine cU (aE (gB r f4)) (aE (gC r f4)) ?_
 refine (wE _ n O R G h _ N (F4.trans fb)).mono ?_
 rintro L h5 ⟨wA,K,pA,f5⟩
 have a6:=fb.trans f5
 have F5:=f4.trans a6
 have ec:dM uO uO=true/\dM uR uR=true:=by
  obtain⟨_,_,_,_,e,sO,_,_,sR,_,_⟩:=U.cw;cases e;exact⟨SV.dM sO,SV.dM sR⟩
 refine dQ (aE (gC h5 F5)) @ec.1 @ec.2 ?_
 refine (wE _ n O' R' G' h h5 U (F4.trans a6)).mono ?_
 rintro vb J ⟨wB,b9,pB,f6⟩
 have F6:=F5.trans f6
 have b7:=F3.trans F6
 have lA:=aJ.length pA
 have lB:=aJ.length pB
 have sA:=qN hG N.isc
 have sB:=qN b8 U.isc
 have nn:n*n<=7*7:=Nat.mul_le_mul n7 n7
 obtain⟨A,hA⟩:=exI (cI R)
 obtain⟨C,hC⟩:=exI (cI R')
 have Q: ∀g∈A,aY n g:=λg hg=>hG.bM (cH N.isc (hA▸hg))
 have a1: ∀g∈C,aY n g:=λg hg=>b8.bM (cH U.isc (hC▸hg))
 rw[hA] at pA lA sA
 rw[hC] at pB lB sB
 have d0: ∀a,Fr J a->SV a L 1 wA:=λa f=>K.sv.mono (f6.trans f)
 have b4: ∀a,Fr J a->SV a vb 1 wB:=λa f=>b9.sv.mono f
 have d5:bH L=some (aC (A.length:Int)):=by unfold bH;rw[SV.len K.sv (n:=A.length) om om];rfl
 have c6:bH vb=some (aC (C.length:Int)):=by unfold bH;rw[SV.len b9.sv (n:=C.length) om om];rfl
 have c4: ∀{i k},i<=A.length->k<=C.length->(GQ A C i k).length<=50*49:=λ{i k} hi hk=>kP (WY hi hk) (Nat.mul_le_mul om om)
 refine bE d5 ?_
 obtain⟨b,hb⟩:=exI J.next
 refine bY (λvs a=> ∃(l:V) (o:List V),(∃g:Nat->V,vs= [g 0,g 1,.ptr B 0,.ptr (B+1) 0,.ptr (B+1+1) 0,aC 0,g 6,L,vb,l,g 10,g 11,g 12,g 13,g 14,g 15,g 16,g 17,g 18,g 19,g 20,g 21])/\cW a l 1 o J.next/\fG (λq=>q<b\/dG l q) a o (KT A C)/\Fr J a) ?_ ?_
 .refine aH (λk' j a=> ∃(i:Nat) (l:V) (o:List V),(∃g:Nat->V,j= [g 0,g 1,.ptr B 0,.ptr (B+1) 0,.ptr (B+1+1) 0,aC 0,g 6,L,vb,l,g 10,g 11,g 12,g 13,L,aC (A.length:Int),aC i,g 17,g 18,g 19,g 20,g 21])/\i<=A.length/\cW a l 1 o J.next/\fG (λq=>q<b\/dG l q) a o (GQ A C i 0)/\Fr J a/\k'=A.length-i) A.length
   ⟨0,.aD, [],aB rfl,fE _,cW.aD _ _ _,trivial,Fr.refl _,rfl⟩ ?_
  rintro k' j a ⟨i,l,o,⟨g,rfl⟩,hi,t,pv,F,rfl⟩
  by_cases b1:(i:Int)<(A.length:Int)
  case neg=>
   have d1:=bT b1;obtain rfl:i=A.length:=om
   refine bE d1 ?_;exact⟨l,o,aB rfl,t,by rw[aaF] at pv;exact pv,F⟩
  have d1:=cJ b1
  have Z:i<A.length:=om
  obtain⟨d8,b6,c2,c0,a7⟩:=(d0 a F).shape A.length om om
  have cA:a.cell d8 (b6+i)=some (wA.getD i V.undef):=by rw[a7 i om,List.getD,dC om];rfl
  have EA:=fG.ahC pA Z
  have P1:=Q _ (aV (d:= []) Z)
  generalize wA.getD i V.undef=vp at cA EA
  refine gX d1 @c2.ixa cA c6 ?_
  refine aH (λk' j a=> ∃(k:Nat) (l:V) (o:List V),(∃g:Nat->V,j= [g 0,g 1,.ptr B 0,.ptr (B+1) 0,.ptr (B+1+1) 0,aC 0,g 6,L,vb,l,vp,g 11,g 12,g 13,L,aC (A.length:Int),aC i,g 17,vb,aC (C.length:Int),aC k,g 21])/\k<=C.length/\cW a l 1 o J.next/\fG (λq=>q<b\/dG l q) a o (GQ A C i k)/\Fr J a/\k'=C.length-k) C.length
   ⟨0,l,o,aB rfl,fE _,t,pv,F,rfl⟩ ?_
  clear t pv F cA a7 c0
  rintro k' j a5 ⟨k,l,o,⟨g,rfl⟩,hk,t,pv,F,rfl⟩
  by_cases a9:(k:Int)<(C.length:Int)
  case neg=>
   have d2:=bT a9;obtain rfl:k=C.length:=om
   refine bE d2 ?_;rw[eJ i];exact⟨A.length-(i+1),om,i+1,l,o,aB rfl,om,t,by rw[WL A C Z] at pv;exact pv,F,rfl⟩
  have d2:=cJ a9
  have a0:k<C.length:=om
  obtain⟨c8,b5,c9,e6,c1⟩:=(b4 a5 F).shape C.length om om
  have cC:a5.cell c8 (b5+k)=some (wB.getD k V.undef):=by rw[c1 k om,List.getD,dC om];rfl
  have sq:=(fG.ahC pB a0).mono (b7.trans F)
  have Q1:=a1 _ (aV (d:= []) a0)
  generalize wB.getD k V.undef=vq at cC sq
  refine dQ d2 @c9.ixa cC ?_
  have sp:=EA.mono (b7.trans F)
  refine (SH vp vq n _ _ a5 n0 om P1 Q1 sp sq).mono ?_
  rintro _ c7 ⟨w,rfl,pw,a2⟩
  have ll:=c4 (i:=i) (k:=k) om om
  have l9:=aJ.length pv
  obtain⟨f7,a3,d7,c5,e5,f8⟩:=BT (x:=dN (A.getD i []) (C.getD k [])) (v:=w) (t.fr a2) (F.trans a2) om (b:=b) om (fG.fr pv a2) (PV.OV t (by have:=F.next;omega) pw)
  have wx:=SV.cM pw.si
  refine cU (cQ c7 (z:= .aD) wx.1 wx.2.1) a3 ?_
  rw[eJ k]
  exact⟨C.length-(k+1),om,k+1,_,_,aB rfl,om,d7,by rw[QJ A C a0];exact c5,e5,rfl⟩
 rintro j a ⟨l,o,⟨g,rfl⟩,t,pv,F⟩
 have l9:=aJ.length pv
 rw[Ql] at l9
 have g4:A.length*C.length<=49*49:=Nat.mul_le_mul om om
 have b0:=F6.trans F
 have e8:=F3.trans b0
 have a4:Fr a (H.mk a.tr (a.next+12)):=(Fr.refl a).bU om
 have g0:(H.mk r.tr (r.next+6)).next=r.next+6:=rfl
 have f0:r.next+6<=h5.next:=f5.next
 have f9:=f6.next
 have nF:=F.next
 have nb:(H.mk a.tr (a.next+12)).next=a.next+12:=rfl
 have FA:Fr h5 (H.mk a.tr (a.next+12)):=f6.trans (F.trans a4)
 obtain⟨vl,s,d9,Ap⟩:=cW.app (h:=H.mk a.tr (a.next+12)) (bytes:=24) (b:=r.next) ((K.fr FA).le om) om ((b4 a F).mono a4) (n:=A.length) (m:=C.length) om om om om
 have nq:=Ap.next
 have aA: ∀k,b<=k->dS L k:=λk hk e9 d3 m c e e2=>by have:=(K.in _ _ _ _ e).1;omega
 have a8:Fx (λq=>q<b) a s:=⟨om,λq h1 h2=>Ap.get q om (aA q om)⟩
 have e0:Fr r s:=Ap.fr r (a6.trans (f6.trans (F.trans a4))) (eU _)
 have y:Fr P s:=f4.trans e0
 have b3:Fr h s:=F3.trans y
 have cB:UH (s.cell B 0) (aC n)=true:=by rw[H.cell_of (gB s y)];simp [UH,dM]
 have c3:SP s l (KT A C):=by
  refine fG.EA (W:=λq=>q<b) (SV.fx t.sv (W:=λq=>q<b) ?_ a8) (aJ.mono (λ_ _ p=>PV.go p (Fx.wide a8 λq h=> .inl h) λq _ h=> .inl h) pv)
  cases l with
  |sl id d3 m c=>exact λ(e:id<b)=>by have:=(t.in _ _ _ _ rfl).2.1;omega
  |_=>trivial
 have e4:SP s vl (A++C):=fG.EA (W:=λ_=>False) Ap.own.sv (aJ.append (aJ.mono (λ_ _ p=>⟨p.si.mono b3,sJ _⟩) pA) (aJ.mono (λ_ _ p=>⟨p.si.mono b3,sJ _⟩) pB))
 simp(disch:=omega)only[go_sem,H.cell_of (gB a b0),d9]
 refine⟨cB,?_⟩
 refine (Nb l vl n (KT A C) (A++C) s n0 n7 (λg hg=>?_) (λg hg=>(jO.1 hg).elim (Q g) (a1 g)) (by rw[Ql];omega) (by rw[iB];omega) c3 e4).mono ?_
 .obtain⟨p,hp,q,s,rfl⟩:=EG.1 hg
  exact rT (Q p hp) (a1 q s)
 rintro _ hr ⟨D,rfl,hD,bd,fr⟩
 obtain⟨xO,xR,O2,R2,gD,Y⟩:=bd.ex
 obtain⟨_,d4,d6⟩:=Y.one
 have e7:=fr.next
 have b2:=y.trans fr
 obtain⟨hs,es,ns,gs,os⟩:=lU hr (B+1+1) [aC n,xO,xR]
 refine kA (aE gD) (bW hr (B+1+1) 0 (v:= aC n) (u:=xO) (w:=xR) rfl d4 d6) (gA hr b2) @bQ es (aE gs) ?_
 have q3:=y.next
 refine⟨_,O2,R2,rfl,?_,⟨om,λq s=>by rw[os q om,b2.get q om];exact F3.get q s⟩⟩
 have e1:(λx=>x∈KT A C)=(λx=> ∃p,p∈A/\ ∃q,q∈C/\x=dN p q):=funext λx=>propext EG
 have e2:(λx=>x∈A++C)=(λx=>x∈A\/x∈C):=funext λx=>propext jO
 rw[e1,e2] at Y
 unfold tM
 rw[hA,hC]
 exact Y.go ⟨om,λq h1 h2=>os q λe=>h2 (.inl om)⟩ λq _ h=> .inl om
theorem yA {W:Nat->Prop}(vc:V)(n:Nat)(O:LN)(R:iA)(G:List Nat->Prop)(h:H)(k:GC W h vc n O R G):
  Ev T 65 [vc] h (λv h'=>v= aC (iC O n 0:Nat)/\Fr h h'):=by
 obtain⟨t,Q,p,a0,rfl,z,oO,pO,sR,oR,aR⟩:=k.cw
 refine kV ?_
 have r:=(SV.cM z).2.1
 have s:=(SV.cM sR).2.1
 have d:=k.isc
 have n7:=k.n7
 have a1:=dX k
 have lO:=aJ.length pO
 rw[d.lo] at lO
 obtain⟨B,hB⟩:=exI h.next
 obtain⟨P,e1,n1,g1,o1,F⟩:=dF hB [aC n,t,Q]
 have x:bH t=some (aC n):=by unfold bH;rw[SV.len z (n:=n) om om];rfl
 obtain⟨y,o,K,q,cO⟩:=SV.shape z n om om
 simp(disch:=omega)only[go_sem,aI,aU h (v:= aC n) (u:=t) (w:=Q) rfl r s,hB,e1,H.cell_of g1,x]
 refine aH (λU b L=> ∃(i a:Nat),(∃g:Nat->V,b= [g 0,g 1,g 2,aC a,g 4,t,aC n,aC i,g 8])/\i<=n/\a*iC O (n-i) i=iC O n 0/\L=P/\U=n-i) n
  ⟨0,1,aB rfl,fE _,by rw[Nat.one_mul];rfl,rfl,rfl⟩ ?_
 rintro U b L ⟨i,a,⟨g,rfl⟩,hi,f,rfl,rfl⟩
 by_cases l:(i:Int)<(n:Int)
 case neg=>
  have J:=bT l;obtain rfl:i=n:=om
  refine bE J ?_;rw[Nat.sub_self] at f;have:iC O 0 i=1:=rfl;rw[this,qZ] at f;exact⟨by rw[f],F⟩
 have J:=cJ l
 have c:i<n:=om
 have A:=aJ.get pO i om (by rw[d.lo];exact c)
 rw[show O[i]'(by rw[d.lo];exact c)=O.getD i [] from oV _] at A
 have Z:L.cell y (o+i)=some (p[i]'om):=by
  rw[F.cell (q om),cO i om,dC om]
 generalize p[i]'om=vo at A Z
 have N:=(A.si.mono F).lens
 rw[aL] at N
 obtain⟨r1,r2⟩:=k.row c
 have st:iC O (n-i) i=(O.getD i []).length*iC O (n-(i+1)) (i+1):=by
  rw[show n-i=(n-(i+1))+1 by omega];rfl
 have pos:=tF (O:=O) (n-(i+1)) (i+1) (λj P h2=>(k.row om).1)
 obtain⟨m,hm⟩:=exI ((O.getD i []).length)
 rw[st,<-Nat.mul_assoc,hm] at f
 rw[hm] at N
 have bd:a*m<=iC O n 0:=by rw[<-f];exact Nat.le_mul_of_pos_right _ pos
 have Y:(a:Int)*(m:Int)=((a*m:Nat):Int):=rfl
 obtain⟨w,hw⟩:=exI (a*m)
 rw[hw] at Y bd f
 refine iT J @K.ixa Z N Y ?_
 rw[eJ i]
 exact⟨n-(i+1),om,i+1,w,aB rfl,om,f,rfl⟩
theorem Xv {W:Nat->Prop}(b:V)(n:Nat)(O:LN)(R:iA)(G:List Nat->Prop)(h:H)(a:GC W h b n O R G):
  Ev T 74 [b] h (λv h'=>v= .tup [aC (iC O n 0:Nat),aC 0]/\Fr h h'):=by
 obtain⟨c,i,rfl,j,m⟩:=a.shape
 have l:=dX a
 obtain⟨B,f⟩:=exI h.next
 obtain⟨r,p,t,k,x,d⟩:=dF f [aC n,c,i]
 refine pY (aU h (v:= aC n) (u:=c) (w:=i) rfl j m) f p (aE k) ?_
 refine (ZE _ n O R G r (a.mono d)).mono ?_
 rintro _ s ⟨rfl,o⟩
 have q:decide ((5040:Int)<((iC O n 0:Nat):Int))=false:=bT om
 simp(disch:=omega)only[go_sem,q,eq_self,decide_true]
 exact d.trans o
abbrev qG:=LN×iA
def Hk (n:Nat)(w:Bool)(c d:qG):List Nat->Prop:=tM n d.2 (if w then c.2 else d.2)
structure xP (n:Nat)(w:Bool)(c:qG)(l:List qG):Prop where
 hd:l[0]? =some c
 st: ∀k d e,l[k]? =some d->l[k+1]? =some e->bA n (Hk n w c d) e.1 e.2/\e≠d
 en: ∀d,l[l.length- 1]? =some d->bA n (Hk n w c d) d.1 d.2
theorem xP.uniq {n:Nat}{w:Bool}{c:qG}{l m:List qG}(a:xP n w c l)(b:xP n w c m):l=m:=by
 have one:{d e f:qG}->bA n (Hk n w c d) e.1 e.2->bA n (Hk n w c d) f.1 f.2->e=f:=λh k=>by
  obtain⟨v,i⟩:=h.uniq k;exact Prod.ext v i
 have z:0<l.length:=by
  cases l with
  |nil=>exact absurd a.hd siM
  |cons x r=>simp
 have lb:0<m.length:=by
  cases m with
  |nil=>exact absurd b.hd siM
  |cons x r=>simp
 have q: ∀k,(k<l.length↔k<m.length)/\l[k]? =m[k]? :=by
  intro k
  induction k with
  |zero=>exact⟨⟨λ_=>lb,λ_=>z⟩,by rw[a.hd,b.hd]⟩
  |succ k ih=>
   have⟨p,o⟩:=ih
   have j:{l m:List qG}->xP n w c l->xP n w c m->(k<l.length↔k<m.length)->l[k]? =m[k]? ->k+1<l.length->k+1<m.length/\l[k+1]? =m[k+1]? :=λ{l m} a b p o h=>by
    have u:k<l.length:=om
    have A:=p.1 u;have s:=a.st k _ _ (dC u) (dC h);have y:m[k]? =some l[k]:=by rw[<-o];exact dC u
    by_cases i:k+1<m.length
    .have t:=b.st k _ _ y (dC i)
     exact⟨i,by rw[dC h,dC i,one s.1 t.1]⟩
    .have t:=b.en l[k] (by rw[show m.length- 1=k by omega];exact y)
     exact absurd (one s.1 t) s.2
   by_cases h:k+1<l.length
   .obtain⟨v,i⟩:=j a b p o h
    exact⟨⟨λ_=>v,λ_=>h⟩,i⟩
   .have i: ¬k+1<m.length:=λi=>h (j b a p.symm o.symm i).1
    exact⟨⟨λx=>absurd x h,λx=>absurd x i⟩,by rw[List.getElem?_eq_none om,List.getElem?_eq_none om]⟩
 exact List.ext_getElem? λk=>(q k).2
theorem aaT {G K:List Nat->Prop}{L M:LN}(E:dR G L)(F:dR K M)(h: ∀x,K x->G x)(j:M.length=L.length)(x:List Nat):G x↔K x:=by
 refine⟨λf=>?_,h x⟩;have d: ∀y∈M,y∈L:=λy a=>(E.mem y).2 (h y ((F.mem y).1 a))
 refine (F.mem x).1 ?_;have c:=(E.mem x).2 f;apply zQ;intro i
 have b: ∀y∈M,y∈L.erase x:=λy a=>by
  have ne:y≠x:=λe=>by subst e;exact i a
  exact (List.mem_erase_of_ne ne).2 (d y a)
 have:=List.Nodup.length_le_of_subset F.nodup b;rw[List.length_erase_of_mem c] at this;have:=Ss c;omega
section
variable {n:Nat} {w:Bool} {c d e:qG} {Gc Gd:List Nat->Prop}
structure Dx (n:Nat)(w:Bool)(Gc:List Nat->Prop)(d:qG)(Gd:List Nat->Prop):Prop where
 cX:eM n Gd
 isc:bA n Gd d.1 d.2
 le: ∀x,Gd x->Gc x
 norm:w=true-> ∀y b,Gd y->Gc b->Gd (aX y b)
theorem Dx.first (a:eM n Gc)(i:bA n Gc c.1 c.2):Dx n w Gc c Gc:=
 ⟨a,i,λ_ h=>h,λ_ y b j f=>a.mul (a.mul (a.inv f) j) f⟩
theorem Dx.nx (i:eM n Gc)(f:bA n Gc c.1 c.2)(x:Dx n w Gc d Gd):eM n (Hk n w c d)/\(∀y,Hk n w c d y->Gd y)/\(w=true-> ∀y b,Hk n w c d y->Gc b->Hk n w c d (aX y b)):=by
 unfold Hk
 cases w with
 |false=>exact⟨tM.cX x.cX x.cX x.isc x.isc,λy a=>tM.self x.cX x.isc a,λh=>by cases h⟩
 |true=>exact⟨tM.cX x.cX i x.isc f,λy a=>tM.le x.cX i x.isc f (x.norm rfl) a,λ_ y b a j=>tM.norm x.cX i x.isc f a j⟩
theorem Dx.next (j:eM n Gc)(h:bA n Gc c.1 c.2)(x:Dx n w Gc d Gd)(f:bA n (Hk n w c d) e.1 e.2):Dx n w Gc e (Hk n w c d):=by
 obtain⟨a,i,b⟩:=x.nx j h;exact⟨a,f,λy k=>x.le y (i y k),b⟩
theorem Dx.size (r:eM n Gc)(q:bA n Gc c.1 c.2)(x:Dx n w Gc d Gd)(i:bA n (Hk n w c d) e.1 e.2):iC e.1 n 0<=iC d.1 n 0/\(iC e.1 n 0=iC d.1 n 0->e=d):=by
 obtain⟨p,j,_⟩:=x.nx r q;obtain⟨m,k⟩:=dA x.cX x.isc;obtain⟨f,l⟩:=dA p i;refine⟨?_,λh=>?_⟩
 .rw[<-k,<-l]
  exact List.Nodup.length_le_of_subset f.nodup λy o=>(m.mem y).2 (j y ((f.mem y).1 o))
 .have:=aaT m f j (by rw[k,l,h])
  obtain⟨a,b⟩:=(i.congr λy=>(this y).symm).uniq x.isc;exact Prod.ext a b
structure Kl (n:Nat)(w:Bool)(c:qG)(l:List qG)(d:qG):Prop where
 hd:l= []->d=c
 h0:l≠ []->l[0]? =some c
 st: ∀k d e,l[k]? =some d->l[k+1]? =some e->bA n (Hk n w c d) e.1 e.2/\e≠d
 la: ∀e,l[l.length- 1]? =some e->bA n (Hk n w c e) d.1 d.2
theorem Kl.start:Kl n w c [] c:=⟨λ_=>rfl,λh=>absurd rfl h,λk d e h=>by simp at h,λe h=>by simp at h⟩
theorem Kl.push {l:List qG}(s:Kl n w c l d)(j: ∀e,l[l.length- 1]? =some e->d≠e)(p:bA n (Hk n w c d) e.1 e.2):Kl n w c (l++ [d]) e:=by
 refine⟨λh=>by simp at h,λ_=>?_,λk a b f i=>?_,λa f=>?_⟩
 .cases l with
  |nil=>rw[s.hd rfl];rfl
  |cons x r=>have:=s.h0 siM;simpa using this
 .by_cases q:k+1<l.length
  .rw[wU q] at i
   rw[wU om] at f;exact s.st k a b f i
  .have o:k+1=l.length:=by
    have:=(rW.1 i).1;simp at this;omega
   rw[wU om] at f;rw[o,zT om,Nat.sub_self] at i;have i:d=b:=by simpa using i
   subst i;have m:l[l.length- 1]? =some a:=by rw[show l.length- 1=k by omega];exact f
   exact⟨s.la a m,j a m⟩
 .have:a=d:=by
   rw[iB,show l.length+ [d].length- 1=l.length from rfl,zT om,Nat.sub_self] at f;simpa using f.symm
  rw[this];exact p
theorem Kl.done {l:List qG}(s:Kl n w c l d)(b:l≠ [])(h:l[l.length- 1]? =some d):xP n w c l:=
 ⟨s.h0 b,s.st,λe a=>by rw[h] at a;cases a;exact s.la d h⟩
end
def NxF (n:Nat)(w:Bool)(c:qG)(h:H)(F:Nat)(caps:List V):Prop:=
 ∀(hh:H) (vd:V) (W:Nat->Prop) (d:qG) (Gd:List Nat->Prop),Fr h hh->GC W hh vd n d.1 d.2 Gd->
  Ev T F (vd::caps) hh (λv h'=> ∃(p:V×V) (e:qG),v= .agg [aC n,p.1,p.2]/\GC (λq=>q<hh.next) h' v n e.1 e.2 (Hk n w c d)/\Fr hh h')
theorem SY (n:Nat)(c:qG)(h:H):NxF n false c h 77 []:=by
 intro J vd W d z _ p;obtain⟨l,s,rfl,oO,U⟩:=p.shape;obtain⟨B,O⟩:=exI J.next;obtain⟨h1,e1,L,g1,o1,f1⟩:=dF O [aC n,l,s];obtain⟨k,e2,n2,Y,G,f2⟩:=dF L [aC 0,.aD,.aD];have t:k.get B=bG [aC n,l,s]:=by rw[G B om];exact g1
 refine GG (aU J (v:= aC n) (u:=l) (w:=s) rfl oO U) O e1 L e2 (aE t) ?_;have F2:=f1.trans f2;refine (Vu _ _ n d.1 d.1 d.2 d.2 z z k (p.mono F2) (p.mono F2)).mono ?_;rintro _ h3 ⟨vr,O2,Z,rfl,K,y⟩;obtain⟨a,f,rfl,i,b⟩:=K.shape;have n3:=y.next;obtain⟨S,N⟩:=exI h3.next;obtain⟨F,e4,n4,g4,x,f4⟩:=dF N [aC 0,.aD,.aD];obtain⟨r,Q,n5,g5,m⟩:=lU F S [aC n,a,f];have o:r.get (B+1)=bG [aC 0,.aD,.aD]:=by rw[m _ om,x _ om,y.get _ om];exact Y
 obtain⟨h6,e6,n6,P,A⟩:=lU r (B+1) [aC n,a,f];simp(disch:=omega)only[go_sem,N,e4,bW F S 0 (v:= aC n) (u:=a) (w:=f) rfl i b,g4,bQ,Q,aE g5,bW r (B+1) 0 (v:= aC n) (u:=a) (w:=f) rfl i b,o,e6,aE P];refine⟨(a,f),(O2,Z),rfl,?_,⟨om,λq hq=>by rw[A q om,m q om,x q om,y.get q om,G q om,o1 q om]⟩⟩;refine K.go ⟨om,λq R j=>?_⟩ λq _ (h:q<B)=>by show q<k.next;omega
 have j: ¬q<k.next:=j;rw[A q om,m q om,x q om]
theorem MJ {W0:Nat->Prop}(n:Nat)(c:qG)(h:H)(l:Nat)(a b:V)(P:List Nat->Prop)(J:h.get l=bG [aC n,a,b])(A:l<h.next)(g0:GC W0 h (.agg [aC n,a,b]) n c.1 c.2 P):NxF n true c h 81 [.ptr l 0]:=by
 intro U vd W d Gd y O;obtain⟨p,t,rfl,oO,oR⟩:=O.shape;refine kV ?_;obtain⟨B,hB⟩:=exI U.next;have nh:=y.next;obtain⟨h1,e1,Y,g1,o1,f1⟩:=dF hB [aC n,p,t];obtain⟨i,e2,n2,g2,R,f2⟩:=dF Y [aC 0,.aD,.aD];have F:i.get B=bG [aC n,p,t]:=by rw[R B om];exact g1
 have F2:=f1.trans f2;have x:i.get l=bG [aC n,a,b]:=by rw[(y.trans F2).get l A];exact J
 refine qL @aI (aU U (v:= aC n) (u:=p) (w:=t) rfl oO oR) hB e1 Y e2 (aE F) (aE x) ?_;refine (Vu _ _ n d.1 c.1 d.2 c.2 Gd P i (O.mono F2) (g0.mono (y.trans F2))).mono ?_;rintro _ h3 ⟨vr,O2,R2,rfl,Q,K⟩;obtain⟨f,k,rfl,m,j⟩:=Q.shape;have n3:=K.next;obtain⟨S,Z⟩:=exI h3.next;obtain⟨N,e4,n4,g4,G,f4⟩:=dF Z [aC 0,.aD,.aD];obtain⟨z,e5,n5,g5,r⟩:=lU N S [aC n,f,k];have s:z.get (B+1)=bG [aC 0,.aD,.aD]:=by rw[r _ om,G _ om,K.get _ om];exact g2
 obtain⟨h6,e6,n6,g6,L⟩:=lU z (B+1) [aC n,f,k];simp(disch:=omega)only[go_sem,Z,e4,bW N S 0 (v:= aC n) (u:=f) (w:=k) rfl m j,g4,bQ,e5,aE g5,bW z (B+1) 0 (v:= aC n) (u:=f) (w:=k) rfl m j,s,e6,aE g6];refine⟨(f,k),(O2,R2),rfl,?_,⟨om,λq hq=>by rw[L q om,r q om,G q om,K.get q om,R q om,o1 q om]⟩⟩;refine Q.go ⟨om,λq a0 o=>?_⟩ λq _ (h:q<B)=>by show q<i.next;omega
 have o: ¬q<i.next:=o;rw[L q om,r q om,G q om]
def Dk (n:Nat)(ls:List (V×V)):List V:=ls.flatMap λp=> [aC n,p.1,p.2]
theorem Ie (n:Nat)(a b:List (V×V)):Dk n (a++b)=Dk n a++Dk n b:=by unfold Dk;rw[List.flatMap_append]
theorem iU (n:Nat)(ls:List (V×V)):(Dk n ls).length=ls.length*3:=by
 induction ls with
 |nil=>rfl
 |cons a r ih=>
  unfold Dk at ih |-;rw[List.flatMap_cons,iB,ih,List.length_cons,List.length_cons,List.length_cons,List.length_cons,List.length_nil];omega
theorem RH {n:Nat}:{ls:List (V×V)}->{i:Nat}->(hi:i<ls.length)->(Dk n ls)[i*3]? =some (aC n)/\(Dk n ls)[i*3+1]? =some ls[i].1/\(Dk n ls)[i*3+2]? =some ls[i].2
 |p::r,0,_=>⟨rfl,rfl,rfl⟩
 |p::r,i+1,hi=>by
  have:=RH (n:=n) (ls:=r) (i:=i) (by simpa using hi);have e:Dk n (p::r)= [aC n,p.1,p.2]++Dk n r:=rfl;rw[e];refine⟨?_,?_,?_⟩
  .rw[zT (by show 3<=(i+1)*3;omega)]
   rw[show (i+1)*3- [aC n,p.1,p.2].length=i*3 from by show (i+1)*3- 3=i*3;omega];exact this.1
  .rw[zT (by show 3<=(i+1)*3+1;omega)]
   rw[show (i+1)*3+1- [aC n,p.1,p.2].length=i*3+1 from by show (i+1)*3+1- 3=i*3+1;omega];exact this.2.1
  .rw[zT (by show 3<=(i+1)*3+2;omega)]
   rw[show (i+1)*3+2- [aC n,p.1,p.2].length=i*3+2 from by show (i+1)*3+2- 3=i*3+2;omega];exact this.2.2
def UG (C1 P id:Nat)(vl:V)(q:Nat):Prop:=q=C1\/q=P\/q=id\/dG vl q
def GD (W:Nat->Prop)(h:H)(n:Nat)(w:Bool)(Gc:List Nat->Prop)(p:V×V)(e:qG):Prop:= ∃G,GC W h (.agg [aC n,p.1,p.2]) n e.1 e.2 G/\Dx n w Gc e G
theorem GD.go {W W':Nat->Prop}{h h':H}{n:Nat}{w:Bool}{a:List Nat->Prop}{p:V×V}{e:qG}(g:GD W h n w a p e)(f:Fx W h h')(b: ∀q,q<h.next->W' q->W q):GD W' h' n w a p e:=by
 have⟨G,c,x⟩:=g;exact⟨G,c.go f b,x⟩
structure VV (h0 hh:H)(C1 C2 K P id:Nat)(r:fR)(f:V)(n:Nat)(w:Bool)(Gc:List Nat->Prop)(l:List qG)(d:qG):Prop where
 ex: ∃vl ls p,hh.get P=bG [vl]/\cW hh vl 3 (Dk n ls) 0/\(∀q,dG vl q->h0.next<=q/\q≠C1/\q≠C2/\q≠K/\q≠P/\q≠id/\q<hh.next)/\aJ (GD (UG C1 P id vl) hh n w Gc) ls l/\hh.get C1=bG [aC n,p.1,p.2]/\GD (UG C1 P id vl) hh n w Gc p d
 k:hh.get K=bG [.fn 65 [] []]
 c2:hh.get C2=bG [f]
 gr:hh.get id=some (.loop r)
 fr:Fr h0 hh
 nx:id<hh.next
def muS (n:Nat)(l:List qG):Nat:=match l[l.length- 1]? with|none=>6000|some e=>iC e.1 n 0
theorem ZK (n:Nat)(l:List qG)(d:qG):muS n (l++ [d])=iC d.1 n 0:=by
 unfold muS
 have:(l++ [d])[(l++ [d]).length- 1]? =some d:=by
  rw[iB,show l.length+ [d].length- 1=l.length from rfl,zT om,Nat.sub_self];rfl
 rw[this]
theorem VV.at {k hh:H}{m h K P id:Nat}{r:fR}{f:V}{n:Nat}{w:Bool}{a:List Nat->Prop}{l:List qG}{d:qG}(j:VV k hh m h K P id r f n w a l d){i:Nat}{e:qG}(c:l[i]? =some e): ∃W p,GD W hh n w a p e:=by
 obtain⟨o,q,p,_,_,_,b,_⟩:=j.ex;obtain⟨hi,rfl⟩:=rW.1 c;have:=aJ.length b;exact⟨_,_,aJ.get b i om hi⟩
theorem OX (U:H)(f y K P id:Nat)(r:fR)(F:Nat)(m:List V)(n:Nat)(w:Bool)(c:qG)(R:List Nat->Prop)(hG:eM n R)(hc:bA n R c.1 c.2)(nx:NxF n w c U F m)(N:U.next<=f)(ho:f<id/\y<id/\K<id/\P<id)(B:f≠y/\f≠K/\f≠P)(h:H)(j0:VV U h f y K P id r (.fn F [] m) n w R [] c)(Q:H->Prop)
  (hy: ∀l d hh (p:V×V),VV U hh f y K P id r (.fn F [] m) n w R l d->hh.get f=bG [aC n,p.1,p.2]->Kl n w c l d->Ey T id [.agg [aC n,p.1,p.2]] hh (λv h'=>v= .bool true/\VV U h' f y K P id r (.fn F [] m) n w R (l++ [d]) d/\(∀e,l[l.length- 1]? =some e->d≠e)\/v= .bool false/\Q h')):
  Ev T 120 [.yl id,.ptr f 0,.ptr y 0] h (λ_ h'=>Q h'):=by
 refine nL ?_
 refine aH (λk' z hh=> ∃(l:List qG) (d:qG),(∃g:Nat->V,z= [.yl id,.ptr f 0,.ptr y 0,g 3])/\VV U hh f y K P id r (.fn F [] m) n w R l d/\Kl n w c l d/\k'=muS n l) 6000
  ⟨[],c,aB rfl,j0,Kl.start,rfl⟩ ?_
 rintro k' z hh ⟨l,d,⟨g,rfl⟩,j,s,rfl⟩
 obtain⟨vl,ls,p,gP,ow,bl,al,a0,gd⟩:=j.ex
 refine bE (aE a0) ?_
 refine (hy l d hh p j a0 s).mono ?_
 rintro _ o (⟨rfl,t,A⟩|⟨rfl,q2⟩)
 case inr=>
  refine aM ?_;exact q2
 obtain⟨J,a6,p2,b0,a1,O,a9,Z,a2⟩:=t.ex
 have⟨Gd,G,dx⟩:=a2
 obtain⟨_,b2,b3⟩:=G.one
 simp(disch:=omega)only[go_sem,H.cell_of t.c2,aE Z]
 refine (nx o _ _ d Gd t.fr G).mono ?_
 rintro _ h3 ⟨Y,e,rfl,L,f3⟩
 obtain⟨_,a7,a4⟩:=L.one
 have n3:=f3.next
 have b4:=t.nx
 have b1:h3.get f=bG [aC n,p2.1,p2.2]:=by rw[f3.get f om];exact Z
 obtain⟨h4,e4,n4,g4,o4⟩:=lU h3 f [aC n,Y.1,Y.2]
 refine gX (bW h3 f 0 (v:= aC n) (u:=Y.1) (w:=Y.2) rfl a7 a4) b1 @bQ e4 ?_
 have hE:=L.isc
 have b6:=dX G
 have a5:muS n (l++ [d])<muS n l:=by
  rw[ZK];unfold muS
  cases hl:l[l.length- 1]? with
  |none=>show iC d.1 n 0<6000;omega
  |some a=>
   obtain⟨_,_,Ga,b5,a3⟩:=j.at hl;have:=a3.size hG hc (s.la a hl);have ne:iC d.1 n 0≠iC a.1 n 0:=λh=>A a hl (this.2 h)
   show iC d.1 n 0<iC a.1 n 0;omega
 have fx:Fx (UG f P id J) o h4:=⟨om,λq N o=>by rw[o4 q λe=>o (.inl e),f3.get q N]⟩
 have W: ∀q,q<o.next->q≠f->h4.get q=o.get q:=λq N o=>by rw[o4 q o,f3.get q N]
 refine⟨_,a5,l++ [d],e,aB rfl,⟨⟨J,a6,Y,by rw[W P om (Ne.symm B.2.2)];exact b0,a1.mono om λq _ _ _ ee _ N=>W q N (O q ⟨_,_,_,ee⟩).2.1,λq hq=>by obtain⟨a,b,c,d,e,g,i⟩:=O q hq;exact⟨a,b,c,d,e,g,om⟩,aJ.mono (λ_ _ x=>x.go fx λ_ _ h=>h) a9,g4,Hk n w c d,?_,dx.next hG hc hE⟩,by rw[W K om (Ne.symm B.2.1)];exact t.k,by rw[W y om (Ne.symm B.1)];exact t.c2,by rw[W id om om];exact t.gr,⟨by have:=t.fr.next;omega,λq hq=>by rw[W q (by have:=t.fr.next;omega) om];exact t.fr.get q hq⟩,om⟩,s.push A hE,rfl⟩
 have a8: ∀q,UG f P id J q->q<o.next:=λq h=>by
  rcases h with h|h|h|h
  .omega
  .omega
  .omega
  .exact (O q h).2.2.2.2.2.2
 exact L.go ⟨om,λq N o=>o4 q λe=>o (by show q<_;omega)⟩ λq _ h=>a8 q h
theorem Oq {h:H}{id o:Nat}{a b c:V}(i:h.cell id o=some a)(d:h.cell id (o+1)=some b)(f:h.cell id (o+2)=some c):h.row id o 3=some [a,b,c]:=by
 unfold H.cell at i d f;unfold H.row;split at i
 .rename_i q j e
  rw[e] at d f;have d:j[o+1]? =some b:=d;have f:j[o+2]? =some c:=f;obtain⟨n,m⟩:=rW.1 i;obtain⟨lb,p⟩:=rW.1 d;obtain⟨k,l⟩:=rW.1 f
  try rw[e]
  simp only[sub];rw[bL om,Ij n,Ij lb,Ij k,m,p,l]
  rfl
 .cases i
theorem qF {h:H}{v:V}{n:Nat}{ls:List (V×V)}(s:SV h v 3 (Dk n ls)){i:Nat}(hi:i<ls.length): ∃id off,Sl v 3 ls.length id off/\h.row id (off+i*3) 3=some [aC n,ls[i].1,ls[i].2]:=by
 obtain⟨id,off,j,f,a⟩:=s.shape ls.length (iU n ls) om;obtain⟨c,d,b⟩:=RH (n:=n) hi;have k:=iU n ls;refine⟨id,off,j,Oq ((a (i*3) om).trans c) ?_ ?_⟩
 .have:=(a (i*3+1) om).trans d
  rwa [<-Nat.add_assoc] at this
 .have:=(a (i*3+2) om).trans b
  rwa [<-Nat.add_assoc] at this
theorem Fp (h:H){x y:V}{d:Int}(b:x.one=true)(a:y.one=true):mC h 3 [aC 0,.aD,.aD] 1 [(0,3,.agg [aC d,x,y])]=some (.sl h.next 0 1 (.kn 1),h.new (.cells false [aC d,x,y])):=by
 have e:dT [aC 0,.aD,.aD] (1*3)= [aC 0,.aD,.aD]:=rfl;simp [mC,iH,e,putAt,V.cells,b,a,show (aC d).one=true from rfl]
theorem VV.short {u hh:H}{x t K P id:Nat}{r:fR}{f:V}{n:Nat}{w:Bool}{c:qG}{i:List Nat->Prop}{l:List qG}{d:qG}(j:VV u hh x t K P id r f n w i l d)(y:eM n i)(B:bA n i c.1 c.2)(s:Kl n w c l d):l.length<=6000:=by
 have b: ∀k e,l[k]? =some e->k+iC e.1 n 0<=5999:=by
  intro k
  induction k with
  |zero=>
   intro e a;obtain⟨_,_,_,q,_⟩:=j.at a;have:=dX q;omega
  |succ k ih=>
   intro e a;have z:k<l.length:=by have:=(rW.1 a).1;omega
   have m:l[k]? =some l[k]:=dC z;obtain⟨_,_,F,_,o⟩:=j.at m;obtain⟨A,p⟩:=s.st k _ _ m a;have v:=o.size y B A;have G:=ih _ m;have:iC e.1 n 0≠iC l[k].1 n 0:=λh=>p (v.2 h)
   omega
 by_cases h:l.length=0
 .omega
 .have:=b (l.length- 1) _ (dC om)
  omega
theorem Ms {W0:Nat->Prop}(Z h:H)(y R:Nat)(F:Nat)(A:List V)(n:Nat)(w:Bool)(c:qG)(Gc:List Nat->Prop)(vO vR:V)(f0:Fr Z h)(a:Z.next<=y)(h2:Z.next<=R)(d0:y≠R)(l1:y<h.next)(l2:R<h.next)(b4:h.get y=bG [aC n,vO,vR])(c7:h.get R=bG [.fn F [] A])(g0:GC W0 Z (.agg [aC n,vO,vR]) n c.1 c.2 Gc)(nx:NxF n w c Z F A):
  Ev T 75 [.fn 120 [] [.ptr y 0,.ptr R 0],.fn 65 [] []] h (λv h'=> ∃ls l,SV h' v 3 (Dk n ls)/\aJ (GD (λ_=>False) h' n w Gc) ls l/\xP n w c l/\Fr Z h'):=by
 obtain⟨K,hK⟩:=exI h.next
 obtain⟨h3,e3,n3,g3,o3,f3⟩:=dF hK [.fn 65 [] []]
 obtain⟨Y,e4,n4,g4,o4,f4⟩:=dF n3 [.aD]
 refine aeG (mH (x:= .fn 65 [] []) rfl rfl h) hK e3 n3 e4 ?_
 obtain⟨P,hP⟩:=exI (K+1)
 rw[hP] at n3 n4 g4 o4 |-
 obtain⟨id,a5⟩:=exI Y.next
 refine⟨rfl,tG λr hr=>?_⟩
 rw[a5]
 have jE:r.st= .ready:=by rw[hr]
 have c4:r.pend=none:=by rw[hr]
 have oA: ∀k,k<id->(Y.new (.loop r)).get k=Y.get k:=λk hk=>H.bN Y om _
 have nA:(Y.new (.loop r)).next=id+1:=by rw[H.aZ,a5]
 have fA:Fr h (Y.new (.loop r)):=(f3.trans f4).new _
 have n0:=f0.next
 have J0:VV Z (Y.new (.loop r)) y R K P id r (.fn F [] A) n w Gc [] c:=by
  refine⟨⟨.aD, [],(vO,vR),by rw[oA _ om];exact g4,cW.aD _ _ _,λq ⟨_,_,_,e⟩=>(by cases e),trivial,by rw[fA.get _ l1];exact b4,Gc,(g0.jK λq a h2=>?_).mono (f0.trans fA),Dx.first g0.cX g0.isc⟩,by rw[oA _ om,o4 _ om];exact g3,by rw[fA.get _ l2];exact c7,by rw[<-a5,H.aQ],f0.trans fA,om⟩;rcases h2 with h|h|h|⟨_,_,_,e⟩
  .omega
  .omega
  .omega
  .cases e
 refine (OX Z y R K P id r F A n w c Gc g0.cX g0.isc nx a om om _ J0 (λh'=> ∃f ls l,h'.get P=bG [f]/\(cW h' f 3 (Dk n ls) 0/\ ∀q,dG f q->q≠id)/\aJ (GD (UG y P id f) h' n w Gc) ls l/\xP n w c l/\Fr Z h'/\h'.get id=some (.loop (sH r (.exit 0)))/\id<h'.next) ?_).mono ?_
 .intro l d B p j gp s
  obtain⟨f,ls,t,gP,ow,U,al,a1,a3⟩:=j.ex
  have b8:t=p:=by
   have:=a1.symm.trans gp;simp only[Option.some.injEq,Ob.cells.injEq,List.cons.injEq,true_and,and_true] at this;exact Prod.ext this.1 this.2
  subst b8
  have c8:=a3
  have⟨Gd,gc,dx⟩:=c8
  obtain⟨_,a6,a9⟩:=gc.one
  have jn:=j.nx
  have jf:=j.fr.next
  have la:=aJ.length al
  have l6:=j.short g0.cX g0.isc s
  obtain⟨X,hX⟩:=exI B.next
  obtain⟨hA,eA,nA,gA,oA,fA⟩:=dF hX [aC 0,.aD,.aD]
  obtain⟨hB,eB,nB,gB,oB⟩:=lU hA X [aC n,t.1,t.2]
  refine abS j.gr (by rw[hr];rfl) ?_
  rw[congrArg fR.assign hr,congrArg fR.vars hr,congrArg fR.pars hr]
  simp(disch:=omega)only[go_sem,List.zip_cons_cons,List.zip_nil_left,hX,eA,bW hA X 0 (v:= aC n) (u:=t.1) (w:=t.2) rfl a6 a9,gA,bQ,eB]
  refine⟨r,by rw[oB _ om,oA _ om];exact j.gr,jE,?_⟩
  obtain⟨z,eC⟩: ∃x,hB.set id (some (.loop (pL r)))=x:=⟨_,rfl⟩
  have c1:hB.set id (some (.loop {r with st:= .busy}))=z:=eC
  rw[c1,congrArg fR.body hr]
  have nC:z.next=X+1:=by rw[<-eC];show hB.next=_;omega
  have b0:z.get id=some (.loop (pL r)):=by rw[<-eC,H.aW]
  have oC: ∀q,q≠id->q≠X->z.get q=B.get q:=λq a h2=>by rw[<-eC,H.aF _ a,oB q h2,oA q h2]
  have a4:z.get X=bG [aC n,t.1,t.2]:=by rw[<-eC,H.aF _ om];exact gB
  have fx:Fx (UG y P id f) B z:=⟨om,λq a h2=>oC q (λe=>h2 (.inr (.inr (.inl e)))) om⟩
  rw[Vc]
  refine Rc (λa0 hf=>(∃g:Nat->V,a0= [g 0,g 1,g 2,g 3,.ptr P 0,.ptr X 0,g 6,g 7,g 8])/\Fr z hf/\ ∀e,l[l.length- 1]? =some e->d≠e) ?_ ?_
  .have sv:=(ow.mono (h':=z) om λq o m Q e _ a=>oC q (U q ⟨o,m,Q,e⟩).2.2.2.2.2.1 om).sv
   have lv:bH f=some (aC (ls.length:Int)):=by unfold bH;rw[SV.len sv (n:=ls.length) (iU n ls) om];rfl
   have a8:z.get P=bG [f]:=by rw[oC P om om];exact gP
   have fb:Fr z (H.mk z.tr (z.next+17)):=(Fr.refl z).bU om
   have b2:z.get K=bG [.fn 65 [] []]:=by rw[oC K om om];exact j.k
   by_cases hl:ls.length=0
   .have d1:decide ((ls.length:Int)>0)=false:=bT om
    have l0:l= []:=Yl om
    simp(disch:=omega)only[go_sem,H.cell_of a8,lv,d1]
    exact .inl ⟨aB rfl,fb,λe he=>by rw[l0] at he;cases he⟩
   .have d1:decide ((ls.length:Int)>0)=true:=cJ om
    have hi:ls.length- 1<ls.length:=om
    obtain⟨ri,ro,b9,rC⟩:=qF sv hi
    have gl:=aJ.get al (ls.length- 1) hi om
    have⟨Gl,a2,a7⟩:=gl
    have em:((ls.length:Nat):Int)- 1=((ls.length- 1:Nat):Int):=om
    have G:l[ls.length- 1]? =some (l[ls.length- 1]'om):=dC om
    generalize (ls[ls.length- 1]'hi)=pl at a2 rC
    generalize (l[ls.length- 1]'om)=e0 at a2 a7 G
    rw[la] at G
    have c0:=a7.size g0.cX g0.isc (s.la e0 G)
    simp(disch:=omega)only[go_sem,H.cell_of a8,lv,d1,H.cell_of b2,em,b9.ixa,rC,aE a4]
    refine (yA _ n e0.1 e0.2 Gl _ ((a2.go fx λ_ _ h=>h).mono fb)).mono ?_
    rintro _ h5 ⟨rfl,f5⟩
    have F5:=fb.trans f5
    have ec:dM t.1 t.1=true/\dM t.2 t.2=true:=by
     obtain⟨_,_,_,_,e,sO,_,_,sR,_,_⟩:=gc.cw;simp only[V.agg.injEq,List.cons.injEq,true_and,and_true] at e;rw[e.1,e.2];exact⟨SV.dM sO,SV.dM sR⟩
    simp(disch:=omega)only[go_sem,aE (show h5.get X=_ from (F5.get X om).trans a4),H.cell_of (show h5.get K=_ from (F5.get K om).trans b2),ec.1,ec.2,show dM (.fn 65 [] []) (.fn 65 [] [])=true from rfl]
    refine (yA _ n d.1 d.2 Gd _ ((gc.go fx λ_ _ h=>h).mono F5)).mono ?_
    rintro _ h6 ⟨rfl,f6⟩
    have F6:=F5.trans f6
    by_cases hs:iC e0.1 n 0=iC d.1 n 0
    .have d2:decide (((iC e0.1 n 0:Nat):Int)=((iC d.1 n 0:Nat):Int))=true:=cJ (by rw[hs])
     refine bE d2 ?_
     obtain⟨hz,O⟩: ∃x,h6.set id (some (.loop (sH r (.exit 0))))=x:=⟨_,rfl⟩
     have nz:hz.next=h6.next:=by rw[<-O];rfl
     have n6:=F6.next
     have oz: ∀q,q≠id->q<X->hz.get q=B.get q:=λq a h2=>by rw[<-O,H.aF _ a,F6.get q om,oC q a om]
     have fz:Fx (UG y P id f) B hz:=⟨om,λq a h2=>oz q (λe=>h2 (.inr (.inr (.inl e)))) om⟩
     refine .inr ⟨λe=>(by cases e),BE (by rw[F6.get id om];exact b0) ?_⟩
     rw[O]
     exact .inr ⟨rfl,f,ls,l,by rw[oz P om om];exact gP,⟨ow.mono om λq o m Q e _ a=>oz q (U q ⟨o,m,Q,e⟩).2.2.2.2.2.1 om,λq h=>(U q h).2.2.2.2.2.1⟩,aJ.mono (λ_ _ x=>x.go fz λ_ _ h=>h) al,s.done (λe=>hl (by rw[la,e];rfl)) (by rw[G,c0.2 hs.symm]),⟨om,λq N=>by rw[oz q om om];exact j.fr.get q N⟩,by rw[<-O,H.aW],om⟩
    .have d2:decide (((iC e0.1 n 0:Nat):Int)=((iC d.1 n 0:Nat):Int))=false:=bT om
     refine bE d2 ?_
     exact .inl ⟨aB rfl,F6,λe he c6=>by rw[G] at he;cases he;exact hs (by rw[c6])⟩
  .rintro a0 hf ⟨⟨g,rfl⟩,ff,b3⟩
   have nf:=ff.next
   have of: ∀q,q≠id->q<X->hf.get q=B.get q:=λq a h2=>by rw[ff.get q om,oC q a om]
   obtain⟨S,hS⟩:=exI hf.next
   obtain⟨a,e1,n1,g1,o1,f1⟩:=dF hS [aC n,t.1,t.2]
   have b6:cW a f 3 (Dk n ls) 0:=ow.mono om λq o m Q e _ N=>by rw[o1 q om,of q (U q ⟨o,m,Q,e⟩).2.2.2.2.2.1 om]
   have c3:SV a (.sl S 0 1 (.kn 1)) 3 [aC n,t.1,t.2]:=SV.all rfl om g1 _
   obtain⟨h2,e2,pu⟩:=b6.push (bytes:=56) c3 (n:=ls.length) (m:=1) (iU n ls) rfl om om om
   have n2:=pu.next
   obtain⟨v2,J⟩: ∃x,V.sl a.next 0 (ls.length+1) (.un 3)=x:=⟨_,rfl⟩
   have b5: ∀q,¬dG f q->dS f q:=λq h i o m Q e N=>h ⟨o,m,Q,by rw[N];exact e⟩
   have o2: ∀q,q≠a.next-> ¬dG f q->h2.get q=a.get q:=λq a h2=>pu.old q a (b5 q h2)
   have c5:h2.get P=bG [f]:=by rw[o2 P om (λh=>(U P h).2.2.2.2.1 rfl),o1 P om,of P om om];exact gP
   obtain⟨h3,e3,n3,g3,o3⟩:=lU h2 P [v2]
   have b7:Ny h2 1 (.ptr P 0) v2=some h3:=by rw[<-J,TB,c5,cF (by show 0<1;omega),J];exact congrArg some e3
   rw[J] at e2
   simp(disch:=omega)only[go_sem,H.cell_of (show hf.get P=_ from (of P om om).trans gP),aE (show hf.get X=_ from (ff.get X om).trans a4),Fp hf a6 a9,hS,e1,e2,b7]
   obtain⟨hz,O⟩: ∃x,h3.set id (some (.loop r))=x:=⟨_,rfl⟩
   have nz:hz.next=a.next+1:=by rw[<-O];show h3.next=_;omega
   have L: ∀q,q<X->(¬dG f q->q≠id->q≠P->hz.get q=B.get q):=λq a h2 h3 Y=>by
    rw[<-O,H.aF _ h3,o3 q Y,o2 q om h2,o1 q om,of q h3 a]
   have W: ¬dG f y/\ ¬dG f R/\ ¬dG f K/\ ¬dG f id:=⟨λh=>(U y h).2.1 rfl,λh=>(U R h).2.2.1 rfl,λh=>(U K h).2.2.2.1 rfl,λh=>(U id h).2.2.2.2.2.1 rfl⟩
   have fz:Fx (UG y P id f) B hz:=⟨om,λq a h2=>L q om (λh=>h2 (.inr (.inr (.inr h)))) (λe=>h2 (.inr (.inr (.inl e)))) (λe=>h2 (.inr (.inl e)))⟩
   have b1: ∀q,dG v2 q->q=a.next:=λq ⟨_,_,_,e⟩=>by rw[<-J] at e;cases e;rfl
   have hw: ∀q,q<B.next->UG y P id v2 q->UG y P id f q:=λq a h2=>by
    rcases h2 with h|h|h|h
    .exact .inl h
    .exact .inr (.inl h)
    .exact .inr (.inr (.inl h))
    .have:=b1 q h;omega
   refine pD jE c4 (by rw[o3 id om,o2 id om W.2.2.2,o1 id om,ff.get id om];exact b0) ?_
   rw[O]
   refine .inl ⟨rfl,⟨⟨v2,ls++ [t],t,?_,?_,?_,?_,?_,?_⟩,?_,?_,?_,?_,?_⟩,b3⟩
   .rw[<-O,H.aF _ om];exact g3
   .rw[Ie,<-J]
    refine (pu.own (b:=0) (iU n ls) rfl om).mono om λq o m Q e _ N=>?_
    cases e
    rw[<-O,H.aF _ om,o3 _ om]
   .intro q N
    have:=b1 q N
    omega
   .exact aJ.append (aJ.mono (λ_ _ x=>x.go fz hw) al) ⟨a3.go fz hw,trivial⟩
   .rw[L y om W.1 om om];exact a1
   .exact a3.go fz hw
   .rw[L K om W.2.2.1 om om];exact j.k
   .rw[L R om W.2.1 om om];exact j.c2
   .rw[<-O,H.aW]
   .refine⟨om,λq N=>?_⟩
    rw[L q om (λh=>?_) om om]
    .exact j.fr.get q N
    .have:=(U q h).1;omega
   .omega
 .rintro _ B ⟨f,ls,l,gP,⟨ow,bi⟩,al,s,F,gr,nx⟩
  refine⟨_,gr,by simp [sH],?_⟩
  have en:(sH r (.exit 0)).pend.getD .norm= .exit 0:=rfl
  rw[en]
  have c9:(B.set id (some (.loop {sH r (.exit 0) with st:= .out}))).get P=bG [f]:=by rw[H.aF _ om];exact gP
  simp(disch:=omega)only[go_sem,H.cell_of c9]
  have n0:=F.next
  refine⟨ls,l,?_,?_,s,⟨?_,λq N=>?_⟩⟩
  .refine cW.sv (b:=0) ?_
   exact ow.mono (eU _) λq o m Q e _ a=>H.aF _ (bi q ⟨o,m,Q,e⟩) _
  .exact aJ.mono (λ_ _ x=>x.go ⟨eU _,λq a h2=>H.aF _ (λe=>h2 (.inr (.inr (.inl e)))) _⟩ λ_ _ h=>h.elim) al
  .exact n0
  .rw[H.aF _ (by have:=f0.next;omega)]
   exact F.get q N
section
variable {W:Nat->Prop}
theorem Iy (h:H){a b c:V}(f:V)(r:a.one=true)(m:b.one=true)(t:c.one=true)(k:f.one=true)(d:f.cells= [f]):
  Ev T 76 [.agg [a,b,c],f] h (λv h'=>v= .fn 120 [] [.ptr h.next 0,.ptr (h.next+1) 0]/\h'.get h.next=bG [a,b,c]/\h'.get (h.next+1)=bG [f]/\h'.next=h.next+2/\Fr h h'):=by
 obtain⟨B,j⟩:=exI h.next
 obtain⟨s,p,i,l,G,q⟩:=dF j [a,b,c]
 obtain⟨F,A,y,o,z,n⟩:=dF i [f]
 refine GG (aU h (v:=a) (u:=b) (w:=c) r m t) j p (mH (x:=f) d k s) i A ?_
 exact⟨by rw[z B om];exact l,o,y,q.trans n⟩
def ahG (n:Nat)(w:Bool)(c:qG)(G:List Nat->Prop)(h:H)(v:V)(h':H):Prop:= ∃vl ls l,v= .tup [vl,aC 0]/\SV h' vl 3 (Dk n ls)/\aJ (GD (λ_=>False) h' n w G) ls l/\xP n w c l/\Fr h h'
theorem Yk (q:V)(n:Nat)(O:LN)(R:iA)(G:List Nat->Prop)(h:H)(i:GC W h q n O R G):
  Ev T 18 [q] h (ahG n false (O,R) G h):=by
 obtain⟨b,d,rfl,m,p⟩:=i.shape
 obtain⟨B,r⟩:=exI h.next
 obtain⟨N,J,U,o,Z,k⟩:=dF r [aC n,b,d]
 refine pY (aU h (v:= aC n) (u:=b) (w:=d) rfl m p) r J (aE o) ?_
 refine (Xv _ n O R G N (i.mono k)).mono ?_
 rintro _ a ⟨rfl,j⟩
 have f:a.get B=bG [aC n,b,d]:=by rw[j.get B om];exact o
 have L:decide ((0:Int)≠0)=false:=rfl
 refine cU L (aE f) ?_
 refine (Iy a (.fn 77 [] []) rfl m p rfl rfl).mono ?_
 rintro _ A ⟨rfl,P,t,Q,K⟩
 refine aM ?_
 refine (Ms (c:=(O,R)) a A a.next (a.next+1) 77 [] n false G b d K (eU _) om om om om P t (i.mono (k.trans j)) (SY n (O,R) a)).mono ?_
 rintro y Y ⟨F,l,sv,x,s,z⟩
 refine aM ?_
 exact⟨y,F,l,rfl,sv,x,s,(k.trans j).trans z⟩
theorem RZ (q:V)(n:Nat)(O:LN)(R:iA)(G:List Nat->Prop)(h:H)(k:GC W h q n O R G):
  Ev T 20 [q] h (ahG n true (O,R) G h):=by
 obtain⟨b,d,rfl,o,m⟩:=k.shape
 obtain⟨B,r⟩:=exI h.next
 obtain⟨y,L,Z,p,Y,j⟩:=dF r [aC n,b,d]
 refine pY (aU h (v:= aC n) (u:=b) (w:=d) rfl o m) r L (aE p) ?_
 refine (Xv _ n O R G y (k.mono j)).mono ?_
 rintro _ a ⟨rfl,i⟩
 have n2:=i.next
 have f:a.get B=bG [aC n,b,d]:=by rw[i.get B om];exact p
 have x:decide ((0:Int)≠0)=false:=rfl
 refine cU x (aE f) ?_
 refine (Iy a (.fn 81 [] [.ptr B 0]) rfl o m rfl rfl).mono ?_
 rintro _ K ⟨rfl,P,z,Q,N⟩
 refine aM ?_
 refine (Ms (c:=(O,R)) a K a.next (a.next+1) 81 [.ptr B 0] n true G b d N (eU _) om om om om P z (k.mono (j.trans i)) (MJ n (O,R) a B b d G f om (k.mono (j.trans i)))).mono ?_
 rintro F U ⟨t,l,sv,A,s,J⟩
 refine aM ?_
 exact⟨F,t,l,rfl,sv,A,s,(j.trans i).trans J⟩
theorem xP.pos {n:Nat}{w:Bool}{c:qG}{l:List qG}(s:xP n w c l):0<l.length:=by
 have:=(rW.1 s.hd).1;omega
theorem xP.short {h:H}{n:Nat}{w:Bool}{c:qG}{f:List Nat->Prop}{ls:List (V×V)}{l:List qG}(s:xP n w c l)(q:eM n f)(t:bA n f c.1 c.2)(al:aJ (GD W h n w f) ls l):l.length<=6000:=by
 have v:=aJ.length al
 have d: ∀k e,l[k]? =some e->k+iC e.1 n 0<=5999:=by
  intro k
  induction k with
  |zero=>
   intro e b;obtain⟨a,rfl⟩:=rW.1 b;obtain⟨_,o,_⟩:=aJ.get al 0 om a;have:=dX o;omega
  |succ k ih=>
   intro e b;have a:k<l.length:=by have:=(rW.1 b).1;omega
   have j:l[k]? =some l[k]:=dC a;obtain⟨u,_,i⟩:=aJ.get al k om a;obtain⟨r,m⟩:=s.st k _ _ j b;have p:=i.size q t r;have x:=ih _ j;have:iC e.1 n 0≠iC l[k].1 n 0:=λh=>m (p.2 h)
   omega
 by_cases h:l.length=0
 .omega
 .have:=d (l.length- 1) _ (dC om)
  omega
end
theorem Kx (u:V)(a:List Nat)(h:H)(W:a.length<=1000)(z: ∀x∈a,x<256)(L:SI h u (zi a)):
  Ev T 99 [u] h (λv h'=>v= .str a/\Fr h h'):=by
 refine kV ?_
 obtain⟨n,s⟩:=exI a.length
 have K:=L.lens
 rw[aL,s] at K
 obtain⟨id,off,B,q,P⟩:=L.open
 rw[aL,s] at B q P
 simp(disch:=omega)only[go_sem,aI,K,Oy h n om]
 have o:Fr h (h.new (.cells false (rc n λ_=> .int .u8 0))):=(Fr.refl h).new _
 have f:(h.new (.cells false (rc n λ_=> .int .u8 0))).get h.next=some (.cells false (rc n λ_=> .int .u8 0)):=H.aQ ..
 have c:(h.new (.cells false (rc n λ_=> .int .u8 0))).next=h.next+1:=H.aZ ..
 generalize h.new (.cells false (rc n λ_=> .int .u8 0))=U at*
 obtain⟨S,O⟩:=exI h.next
 rw[O] at f c
 rw[O]
 refine aH (λJ b t=> ∃(i:Nat),(∃j:Nat->V,b= [u,j 1,.sl S 0 n (.kn n),j 3,j 4,u,aC n,aC i,j 8])/\i<=n/\
   t.get S=some (.cells false (rc n λj=>if j<i then .int .u8 ((a.getD j 0:Nat):Int) else .int .u8 0))/\t.next=S+1/\Fr h t/\J=n-i) n
  ⟨0,aB rfl,fE _,by rw[f];rfl,c,o,rfl⟩ ?_
 clear f o c
 rintro J b m ⟨i,⟨Y,rfl⟩,hi,y,R,F,rfl⟩
 refine aM ?_
 by_cases l:(i:Int)<(n:Int)
 .rw[cJ l]
  have d:i<n:=om
  have ci:m.cell id (off+i)=some (aC (a.getD i 0:Nat)):=by rw[F.cell (q om),P i d];congr 2;simp [zi,s,d]
  have r:=z (a.getD i 0) (aV om)
  generalize Q:a.getD i 0=k at ci r
  have A:=cF (vs:=rc n λj=>if j<i then .int .u8 ((a.getD j 0:Nat):Int) else .int .u8 0) (off:=i) (by rw[iK];exact d) m S (.int .u8 (k:Int))
  rw[jL] at A
  refine iT @B.ixa ci y @wC A ?_
  rw[eJ i]
  refine⟨n-(i+1),om,i+1,aB rfl,om,?_,R,F.set om _,rfl⟩
  congr 2
  refine cT λj N=>?_
  by_cases e:j=i
  .rw[bL e,bL om,e,Q]
  .rw[bV e]
   by_cases G:j<i
   .rw[bL G,bL om]
   .rw[bV G,bV om]
 rw[bT l]
 obtain rfl:i=n:=om
 have p:m.row S 0 i=some (a.map λ(x:Nat)=>V.int .u8 (x:Int)):=by
  have e:(rc i λj=>if j<i then V.int .u8 ((a.getD j 0:Nat):Int) else .int .u8 0)=a.map λ(x:Nat)=>V.int .u8 (x:Int):=Gy (by rw[fL,s]) λj N=>by
   rw[bL N,Jj,dC om,List.getD,dC om];rfl
  unfold H.row;rw[y,e];simp only[sub];rw[bL (by rw[fL];omega)];rw[List.drop_zero,Bo (by rw[fL];omega)]
 have w:GY m (.sl S 0 i (.kn i))=some (.str a):=by
  show (match m.row S 0 i with|some ys=>(pV ys).map V.str|none=>none)=_;rw[p];show (pV (a.map λ(x:Nat)=>V.int .u8 (x:Int))).map V.str=_;rw[Ax a z];rfl
 refine cU @CM w ?_
 exact F
structure UD (n:Nat)(O:LN)(R:iA)(G:List Nat->Prop)(L:LN)(K:List Nat)(h:H)(p:Nat):Prop where
 ex: ∃vO vR M vr,h.get p=some (.cells false [aC n,vO,vR,.mp M,vr])/\h.get M=some (.wmap .str (Fg L L.length))/\GC (λ_=>False) h (.agg [aC n,vO,vR]) n O R G/\SP h vr (K.map λr=>L.getD r [])/\M<h.next
 hL:bZ O R n 0 (bC n)=L
 isK:vB n G L K
 nx:p<h.next
theorem UD.mono {n:Nat}{O:LN}{R:iA}{G:List Nat->Prop}{L:LN}{K:List Nat}{h h':H}{p:Nat}(l:UD n O R G L K h p)(f:Fr h h'):UD n O R G L K h' p:=by
 obtain⟨b,i,M,c,g,j,d,sp,a⟩:=l.ex;have nx:=l.nx;exact⟨⟨b,i,M,c,by rw[f.get p nx];exact g,by rw[f.get M a];exact j,d.mono f,sp.mono f,kQ a f.next⟩,l.hL,l.isK,kQ nx f.next⟩
theorem WC {a b c m:V}(j:a.one=true)(h:b.one=true)(i:c.one=true)(f:m.cells= [m])(d:m.one=true):oN [aC 0,.aD,.aD,.nilm,.aD] [(0,3,.agg [a,b,c]),(3,1,m)]=some (.agg [a,b,c,m,.aD]):=by
 simp [oN,iH,putAt,j,h,i,f,d,show (V.agg [a,b,c]).cells= [a,b,c] from rfl]
theorem VJ {a b:V}(c:a.one=true)(d:b.one=true)(n:Int)(M:Nat)(h:H):An h (.agg [aC n,a,b,.mp M,.aD])=some (.ptr h.next 0,h.new (.cells false [aC n,a,b,.mp M,.aD])):=sQ h _ (by simp [c,d,show (aC n).one=true from rfl,show (V.mp M).one=true from rfl,show V.aD.one=true from rfl])
theorem SI.Dw {h h':H}{v:V}{l:List Int}{q:Nat}{n:Int}{a b m x y:V}(s:SI h v l)(J:l≠ [])(g:h.get q=bG [aC n,a,b,m,x])(g':h'.get q=bG [aC n,a,b,m,y])(A: ∀z,a≠ aC z)(K: ∀z,b≠ aC z)(F: ∀z,m≠ aC z)(nx: ∀z,x≠ aC z)(f:Fx (· =q) h h'):SI h' v l:=by
 rcases s with s|⟨id,off,len,i,G,L,o,B,u,w,p,d⟩
 .exact .inl s
 .by_cases e:id=q
  .subst e
   rw[g] at w;cases w
   cases l with
   |nil=>exact absurd rfl J
   |cons z r=>
    have j:(c:V)->(t:List V)->(∀z,c≠ aC z)->c::t≠ints (z::r):=λc t N e=>N z (List.cons.inj e).1
    match off,len,o,p,d with
    |off,0,_,_,d=>simp [ints] at d
    |0,1,o,p,d=>exact .inr ⟨id,0,1,i,false,_,o,B,kQ u f.next,g',p,d⟩
    |0,k+2,_,_,d=>
     exfalso
     cases r with
     |nil=>
      have:=congrArg List.length d;simp [ints] at this
      try omega
     |cons z2 r2=>
      have:=congrArg (λl:List V=>l[1]?) d;simp [ints] at this;exact A z2 this
    |1,k+1,_,_,d=>exact absurd d (by simpa using j a _ A)
    |2,k+1,_,_,d=>exact absurd d (by simpa using j b _ K)
    |3,k+1,_,_,d=>exact absurd d (by simpa using j m _ F)
    |4,k+1,_,_,d=>exact absurd d (by simpa using j x _ nx)
    |off+5,k+1,_,_,d=>simp [ints] at d
  .exact .inr ⟨id,off,len,i,G,L,o,B,kQ u f.next,by rw[f.get id u e];exact w,p,d⟩
theorem WU {W0:Nat->Prop}(vc:V)(n:Nat)(O:LN)(R:iA)(G:List Nat->Prop)(h:H)(gc:GC W0 h vc n O R G):
  Ev T 46 [vc] h (λv h'=> ∃p L K,v= .tup [.ptr p 0,aC 0]/\UD n O R G L K h' p/\Fr h h'):=by
 obtain⟨l,y,rfl,a0,a5⟩:=gc.shape
 obtain⟨A,hA⟩:=exI h.next
 obtain⟨J,e1,n1,g1,o1,f1⟩:=dF hA [aC n,l,y]
 have bx:=aU h (v:= aC n) (u:=l) (w:=y) rfl a0 a5
 have rB:=aE g1
 obtain⟨L,hL⟩:=exI (bZ O R n 0 (bC n))
 obtain⟨E,ll⟩:=dA gc.cX gc.isc
 have g4:=dX gc
 rw[hL] at E ll
 have hG:=gc.cX
 have n7:=gc.n7
 have n0:=gc.n0
 refine pY bx hA e1 rB ?_
 refine (Pa _ n O R G J (gc.mono f1)).mono ?_
 rw[hL]
 rintro _ j ⟨vL,rfl,nw⟩
 obtain⟨wL,W,c9,d1,g2,W1⟩:=nw.ex
 have c4:=aJ.length d1
 obtain⟨m,hm⟩:=exI L.length
 rw[hm] at c4
 have f9:=cW.lens c9 c4
 have f2:=nw.fr
 have f8:j.row A 0 3=some [aC n,l,y]:=aE (by rw[f2.get A om];exact g1)
 refine aM ?_
 refine bI (λhc=>(hc rfl).elim) (λ_=>?_)
 obtain⟨X,hX⟩:=exI j.next
 refine iT f8 f9 hX (WC (a:= aC n) (b:=l) (c:=y) (m:= .mp (X+3)) rfl a0 a5 rfl rfl) (VJ a0 a5) ?_
 obtain⟨h3,Y⟩: ∃h3:H,h3=H.mk ((H.mk ((H.mk j.tr (X+3)).new (Ob.wmap Bp.str [])).tr (X+5)).new (Ob.cells false [aC n,l,y,.mp (X+3),.aD])).tr (X+7):=⟨_,rfl⟩
 rw[<-Y]
 have n3:h3.next=X+7:=by rw[Y]
 have gB:h3.get (X+5)=bG [aC n,l,y,.mp (X+3),.aD]:=by rw[Y];exact H.aQ (H.mk _ (X+5)) _
 have gM:h3.get (X+3)=some (.wmap .str (Fg L 0)):=by
  rw[Y];exact (H.bN (H.mk _ (X+5)) (show X+3≠X+5 by omega) _).trans (H.aQ (H.mk _ (X+3)) _)
 have f3:Fr j h3:=⟨om,λq hq=>by
  rw[Y]
  exact (H.bN (H.mk _ (X+5)) (show q≠X+5 by omega) _).trans (H.bN (H.mk _ (X+3)) (show q≠X+3 by omega) _)⟩
 clear Y
 have Q: ∀i,i<m->(L.getD i []).length<=1000/\ ∀x∈L.getD i [],x<256:=λi hi=>by
  have P:=jJ hG E (show i<L.length by omega);exact⟨by rw[P.len];omega,λx hx=>by have:=P.lt x hx;omega⟩
 obtain⟨d8,d0,e4,c8,d7⟩:=SV.shape c9.sv m om om
 have e9: ∀i,i<m-> ∃vx,(∀h',Fr j h'->h'.cell d8 (d0+i)=some vx)/\SI j vx (zi (L.getD i [])):=λi hi=>by
  obtain⟨v,J,f4⟩:=fG.at d1 (i:=i) om;exact⟨v,λh' f=>by rw[f.cell (c8 om),d7 i om,J],f4.si⟩
 have hK: ∀i,i<m->isKey .str (.str (L.getD i []))=true:=λi hi=>vJ (Q i hi).1 (Q i hi).2
 refine bY (λvs F=>(∃g:Nat->V,vs= [g 0,.ptr A 0,.nilp,aC 0,vL,g 5,.ptr (X+5) 0,g 7,g 8,g 9,g 10,g 11,g 12,g 13,g 14,g 15,g 16,g 17,g 18,g 19])/\F.get (X+3)=some (.wmap .str (Fg L m))/\Fx (· =X+3) h3 F) ?_ ?_
 .refine aH (λk' vs F=> ∃(i:Nat),(∃g:Nat->V,vs= [g 0,.ptr A 0,.nilp,aC 0,vL,g 5,.ptr (X+5) 0,g 7,g 8,g 9,g 10,g 11,vL,aC m,aC i,g 15,g 16,g 17,g 18,g 19])/\i<=m/\F.get (X+3)=some (.wmap .str (Fg L i))/\Fx (· =X+3) h3 F/\k'=m-i) m
   ⟨0,aB rfl,fE _,gM,Fx.refl _ h3,rfl⟩ ?_
  rintro k' b4 h4 ⟨i,⟨g,rfl⟩,hi,b0,F4,rfl⟩
  by_cases a3:(i:Int)<(m:Int)
  case neg=>
   have d4:=bT a3;obtain rfl:i=m:=om
   refine bE d4 ?_;exact⟨aB rfl,b0,F4⟩
  have d4:=cJ a3
  have s:i<m:=om
  have a7:Fr j h4:=⟨by have:=F4.next;omega,λq hq=>by rw[F4.get q om om];exact f3.get q hq⟩
  have b8:h4.get (X+5)=bG [aC n,l,y,.mp (X+3),.aD]:=by rw[F4.get _ om om];exact gB
  obtain⟨vx,cx,sx⟩:=e9 i s
  have d2:h4.cell (X+5) 3=some (.mp (X+3)):=by rw[H.cell_of b8];rfl
  refine gX d4 @e4.ixa (cx h4 a7) d2 ?_
  refine (Kx vx (L.getD i []) _ (Q i s).1 (Q i s).2 (sx.mono (a7.trans ((Fr.refl h4).bU om)))).mono ?_
  rintro _ B ⟨rfl,f5⟩
  have b2:Fr h4 B:=((Fr.refl h4).bU om).trans f5
  have n4:=F4.next
  have b9:B.get (X+3)=some (.wmap .str (Fg L i)):=by rw[b2.get _ om];exact b0
  have d3:B.cell (X+5) 3=some (.mp (X+3)):=by rw[b2.cell om];exact d2
  have pt:=λF=>Vi E.nodup (show i<L.length by omega) (hK i s) F (X+3)
  refine dQ d3 b9 pt ?_
  rw[eJ i]
  refine⟨by simp [dM],m-(i+1),om,i+1,aB rfl,om,rfl,⟨by have:=b2.next;show h3.next<=B.next;omega,λq J j=>by rw[H.aF _ (λe=>j e),b2.get q om];exact F4.get q J j⟩,rfl⟩
 rintro b4 h4 ⟨⟨g,rfl⟩,b0,F4⟩
 have n4:=F4.next
 have a7:Fr j h4:=⟨om,λq hq=>by rw[F4.get q om om];exact f3.get q hq⟩
 have b8:h4.get (X+5)=bG [aC n,l,y,.mp (X+3),.aD]:=by rw[F4.get _ om om];exact gB
 have b7:=f2.trans a7
 have rA:=aE (h:=h4) (id:=A) (ro:=false) (by rw[b7.get _ om];exact g1)
 refine bE rA ?_
 refine (OL _ n O R G h4 (gc.mono (f1.trans b7)) L hL).mono ?_
 rintro _ B ⟨vl,K,ks,rfl,ik,sl,al,f5⟩
 have lk:=aJ.length al
 have kl:K.length<=5040:=kP (List.Nodup.length_le_of_subset ik.nd (l₂:=List.range L.length) λx hx=>wY.2 (ik.lt hx)) (by rw[Ng];omega)
 have e5:bH vl=some (aC (K.length:Int)):=by unfold bH;rw[SV.len sl (n:=K.length) (by rw[fS,lk]) om];rfl
 have n5:=f5.next
 have b6:B.get (X+5)=bG [aC n,l,y,.mp (X+3),.aD]:=by rw[f5.get _ om];exact b8
 obtain⟨b3,Lw,e6,c3,a9⟩:=SV.shape sl K.length (by rw[fS,lk]) om
 have a8:=b7.trans f5
 obtain⟨nO,nR⟩:(∀k z,l≠ .int k z)/\ ∀k z,y≠ .int k z:=by
  obtain⟨_,_,_,_,ev,sO,_,_,sR,_,_⟩:=gc.cw;simp only[V.agg.injEq,List.cons.injEq,true_and,and_true] at ev;rw[<-ev.1] at sO;rw[<-ev.2] at sR;refine⟨λk z e=>?_,λk z e=>?_⟩
  .rw[e] at sO
   rcases sO with ⟨h|⟨_,h⟩,_⟩|⟨_,_,_,_,_,_,h,_⟩<;>cases h
  .rw[e] at sR
   rcases sR with ⟨h|⟨_,h⟩,_⟩|⟨_,_,_,_,_,_,h,_⟩<;>cases h
 refine bE e5 ?_
 refine aH (λk' vs F=> ∃(i:Nat) (vr:V) (wr:List V),(∃g:Nat->V,vs= [g 0,g 1,g 2,aC 0,g 4,g 5,.ptr (X+5) 0,g 7,g 8,g 9,g 10,g 11,g 12,g 13,g 14,g 15,vl,aC (K.length:Int),aC i,g 19])/\i<=K.length/\F.get (X+5)=bG [aC n,l,y,.mp (X+3),vr]/\cW F vr 1 wr B.next/\aJ (λv r=>SI B v (zi (L.getD r []))) wr (K.take i)/\Fx (· =X+5) B F/\k'=K.length-i) K.length
  ⟨0,.aD, [],aB rfl,fE _,b6,cW.aD _ _ _,trivial,Fx.refl _ B,rfl⟩ ?_
 rintro k' b4 h6 ⟨i,vr,wr,⟨g,rfl⟩,hi,b1,ow,aw,F6,rfl⟩
 have n6:=F6.next
 by_cases a3:(i:Int)<(K.length:Int)
 case neg=>
  have d4:=bT a3;obtain rfl:i=K.length:=om
  have e0:Fr h h6:=⟨by have:=f1.next;have:=a8.next;omega,λq hq=>by rw[F6.get q (by have:=a8.next;omega) (by have:=f2.next;omega),a8.get q om];exact f1.get q hq⟩
  have f6: ∀q,q<B.next->q≠X+5->h6.get q=B.get q:=λq J j=>F6.get q J j
  refine bE d4 ?_;rw[List.take_length] at aw;have b9:B.get (X+3)=some (.wmap .str (Fg L L.length)):=by rw[f5.get _ om,b0,hm]
  have Lp: ∀r∈K,zi (L.getD r [])≠ []:=λr hr e=>by
   have P:=jJ hG E (ik.lt hr);have:=congrArg List.length e;rw[aL,P.len] at this;exact absurd this (by show n≠0;omega)
  have f0:SP h6 vr (K.map λr=>L.getD r []):=by
   refine fG.EA (W:=λ_=>False) ow.sv (aJ.jM (by rw[fL];exact aJ.length aw) λt J j=>?_);rw[fL] at j;rw[List.getElem_map];exact⟨SI.Dw (aJ.get aw t J j) (Lp _ (pN _)) b6 b1 (nO _) (nR _) (λ_ e=>(by cases e)) (λ_ e=>(by cases e)) F6,sJ _⟩
  have d9:GC (λ_=>False) h6 (.agg [aC n,l,y]) n O R G:=by
   refine (((gc.mono f1).jK (W':=λq=>q=X+5) λq hq h=>?_).mono a8).go (W':=λ_=>False) (h':=h6) F6 λq _ h=>h.elim
   have:=f2.next;omega
  exact⟨X+5,L,K,rfl,⟨⟨l,y,X+3,vr,b1,by rw[f6 _ om om];exact b9,d9,f0,om⟩,hL,ik,om⟩,e0⟩
 have d4:=cJ a3
 have s:i<K.length:=om
 have c0:i<ks.length:=om
 have d5:b3≠X+5:=λe=>by
  obtain⟨_,c1,_⟩:=xC c0;have Z:=a9 (i*3+1) (by rw[fS];omega);rw[c1,e,H.cell_of b6] at Z
  match ho:Lw+(i*3+1),Z with
  |0,_=>omega
  |1,Z=>exact nO _ _ (Option.some.inj Z)
  |2,Z=>exact nR _ _ (Option.some.inj Z)
  |3,Z=>cases Z
  |4,Z=>cases Z
  |k+5,Z=>cases Z
 obtain⟨q1,q2,q3⟩:=xC c0
 have r5:B.row b3 (Lw+i*3) 3=some [ks[i].rep,aC (ks[i].ord:Int),aC (ks[i].size:Int)]:=by
  have ll:=fS ks;refine Oq ((a9 (i*3) om).trans q1) ?_ ?_
  .have:=(a9 (i*3+1) om).trans q2
   rwa [<-Nat.add_assoc] at this
  .have:=(a9 (i*3+2) om).trans q3
   rwa [<-Nat.add_assoc] at this
 have r6:h6.row b3 (Lw+i*3) 3=some [ks[i].rep,aC (ks[i].ord:Int),aC (ks[i].size:Int)]:=by
  rw[<-r5];unfold H.row;rw[F6.get b3 (c3 om) d5]
 have kr:=(aJ.get al i c0 s).rep
 have N:=ks[i].hrep
 generalize ks[i].rep=rp at r6 kr N
 generalize ((ks[i].ord:Nat):Int)=a1 at r6
 generalize ((ks[i].size:Nat):Int)=a2 at r6
 obtain⟨D,hD⟩:=exI h6.next
 obtain⟨h7,e7,g3,g7,o7,f7⟩:=dF hD [.aD,aC 0,aC 0]
 obtain⟨U,e8,n8,g8,o8⟩:=lU h7 D [rp,aC a1,aC a2]
 have e3:U.get (X+5)=bG [aC n,l,y,.mp (X+3),vr]:=by rw[o8 _ om,o7 _ om];exact b1
 simp(disch:=omega)only[go_sem,d4,e6.ixa,r6,hD,e7,bW h7 D 0 (v:=rp) (u:= aC a1) (w:= aC a2) N.2.1 rfl rfl,g7,bQ,e8,H.cell_of e3,H.cell_of g8,cQ (H.mk U.tr (U.next+7)) (z:= .aD) N.1 N.2.1]
 obtain⟨h9,a4⟩: ∃h9:H,h9=H.mk ((H.mk U.tr (U.next+7)).new (Ob.cells false [rp])).tr (U.next+12):=⟨_,rfl⟩
 rw[<-a4]
 have g9:h9.get (U.next+7)=bG [rp]:=by rw[a4];exact H.aQ (H.mk U.tr (U.next+7)) _
 have n9:h9.next=U.next+12:=by rw[a4]
 have o9: ∀k,k≠U.next+7->h9.get k=U.get k:=λk hk=>by rw[a4];exact H.bN (H.mk U.tr (U.next+7)) hk _
 clear a4
 have b5: ∀k,k<h6.next->h9.get k=h6.get k:=λk hk=>by rw[o9 k om,o8 k om,o7 k om]
 have lw:=aJ.length aw
 rw[wH,Nat.min_eq_left om] at lw
 obtain⟨c7,d6,a6⟩:=(ow.mono (h':=h9) om λq o m c e _ J=>b5 q J).push (bytes:=24) (SV.one om g9 (.kn 1)) (n:=i) (m:=1) om rfl om om om
 have g0:=a6.next
 have c5: ∀k,k<B.next->dS vr k:=λk hk id o m c e e2=>by have:=(ow.in _ _ _ _ e).2.1;omega
 have c6:c7.get (X+5)=bG [aC n,l,y,.mp (X+3),vr]:=by rw[a6.old _ om (c5 _ om),b5 _ om];exact b1
 have pt:(F:H)->(x:V)->eH (bG [aC n,l,y,.mp (X+3),vr]) F (X+5) 4 [x]=some (F.set (X+5) (bG [aC n,l,y,.mp (X+3),x])):=λF x=>cF siM F _ x
 refine dQ d6 c6 pt ?_
 rw[eJ i]
 refine⟨K.length-(i+1),om,i+1,_,_,aB rfl,om,rfl,(a6.own om rfl om).mono (eU _) λq o m c e _ J=>H.aF _ (by cases e;omega) _,?_,⟨by show B.next<=c7.next;omega,λq J j=>?_⟩,rfl⟩
 .rw[dJ 0 s]
  exact aJ.append aw ⟨by rw[<-oV (d:=0) s];exact kr,trivial⟩
 .rw[H.aF _ j,a6.old q om (c5 q J),b5 q om]
  exact F6.get q J j
section
variable {a b c d:V}
structure Rk (L:LN)(Gd:List Nat->Prop)(r:List Nat):Prop where
 asc:r.Pairwise (· < ·)
 mem: ∀i,i∈r↔i<L.length/\Gd (L.getD i [])
theorem mB (h:H)(id off:Nat)(k:a.one=true)(j:b.one=true)(i:c.one=true)(f:d.one=true):Ny h 4 (.ptr id off) (.agg [a,b,c,d])=eH (h.get id) h id off [a,b,c,d]:=vN h id off 4 _ rfl (by simp [k,j,i,f])
theorem kY {x y z t:V}(h:H)(id:Nat):eH (some (.cells false [x,y,z,t])) h id 0 [a,b,c,d]=some (h.set id (some (.cells false [a,b,c,d]))):=by
 simp [eH,putAt]
theorem gZ {h:H}{id:Nat}{ro:Bool}(f:h.get id=some (.cells ro [a,b,c,d])):h.row id 0 4=some [a,b,c,d]:=by
 simp [H.row,f,sub]
theorem XE (f:a.one=true)(i:b.one=true)(h:c.one=true):oN [aC 0,.aD,.aD,.aD] [(0,3,.agg [a,b,c])]=some (.agg [a,b,c,.aD]):=by
 simp [oN,iH,putAt,f,i,h,show (V.agg [a,b,c]).cells= [a,b,c] from rfl]
theorem afZ {G o:List Nat->Prop}{L l:LN}(u:dR G L)(E:dR o l)(le: ∀x,o x->G x){f:List Int}(p:f.Perm (zi (l.map λx=>L.idxOf x)))(s:f.Pairwise (· <= ·)): ∃r,f=zi r/\Rk L o r:=by
 have j: ∀x∈l,x∈L:=λx m=>(u.mem x).2 (le x ((E.mem x).1 m))
 have e:zi (f.map Int.toNat)=f:=by
  unfold zi;rw[List.map_map];refine (Sk λz F=>?_).trans (List.map_id _);have:=p.mem_iff.1 F;unfold zi at this;obtain⟨k,_,rfl⟩:=qU.1 this
  rfl
 have nd:(l.map λx=>L.idxOf x).Nodup:=by
  refine List.pairwise_map.2 (List.Pairwise.imp_of_mem (λ{a b} A w ne e=>ne ?_) E.nodup);have B:=List.getElem_idxOf (List.idxOf_lt_length_of_mem (j a A));have v:=List.getElem_idxOf (List.idxOf_lt_length_of_mem (j b w));rw[<-B,<-v];congr 1
 have t:(f.map Int.toNat).Perm (l.map λx=>L.idxOf x):=by
  have:=p.map Int.toNat;refine this.trans (List.Perm.of_eq ?_);unfold zi;rw[List.map_map];exact (Sk λz _=>rfl).trans (List.map_id _)
 refine⟨_,e.symm,?_,λi=>?_⟩
 .have q:=t.nodup_iff.2 nd
  have y:(f.map Int.toNat).Pairwise (· <= ·):=List.pairwise_map.2 (s.imp λh=>Int.toNat_le_toNat h);exact (List.pairwise_and_iff.2 ⟨y,q⟩).imp λh=>Nat.lt_of_le_of_ne h.1 h.2
 .rw[t.mem_iff,qU]
  constructor
  .rintro⟨x,m,rfl⟩
   have n:=List.idxOf_lt_length_of_mem (j x m);refine⟨n,?_⟩;rw[List.getD,dC n,Option.getD_some,List.getElem_idxOf n];exact (E.mem x).1 m
  .rintro⟨hi,hg⟩
   refine⟨_,(E.mem _).2 hg,?_⟩;rw[List.getD,dC hi,Option.getD_some];exact u.nodup.idxOf_getElem i hi
theorem TL {W:Nat->Prop}(T0:Nat)(vd:V)(n:Nat)(O O':LN)(R R':iA)(G Gd:List Nat->Prop)(L:LN)(K:List Nat)(h:H)(Dw:UD n O R G L K h T0)(gd:GC W h vd n O' R' Gd)(le: ∀x,Gd x->G x):
  Ev T 102 [.ptr T0 0,vd] h (λv h'=> ∃vO vR vr r,vd= .agg [aC n,vO,vR]/\v= .agg [aC n,vO,vR,vr]/\SI h' vr (zi r)/\Rk L Gd r/\Gz (λq=>q<h.next) vr/\Fr h h'):=by
 obtain⟨vO,vR,rfl,y,F⟩:=gd.shape
 obtain⟨lO,lR,M,lr,gT,gM,gc,_,nM⟩:=Dw.ex
 obtain⟨E0,e0⟩:=dA gc.cX gc.isc
 rw[Dw.hL] at E0
 obtain⟨E,ll⟩:=dA gd.cX gd.isc
 have e3:=dX gd
 have n7:=gd.n7
 obtain⟨J,b0⟩:=exI (bZ O' R' n 0 (bC n))
 rw[b0] at E ll
 have nT:=Dw.nx
 obtain⟨A,hA⟩:=exI h.next
 obtain⟨h1,e1,n1,g1,o1,f1⟩:=dF hA [aC n,vO,vR]
 obtain⟨h2,e2,n2,g2,o2,f2⟩:=dF n1 [aC 0,.aD,.aD,.aD]
 have F2:=f1.trans f2
 have b4:h2.get A=some (.cells false [aC n,vO,vR]):=by rw[o2 A om];exact g1
 refine GG (aU h (v:= aC n) (u:=vO) (w:=vR) rfl y F) hA e1 n1 e2 (aE b4) ?_
 refine (Pa _ n O' R' Gd h2 (gd.mono F2)).mono ?_
 rw[b0]
 rintro _ h3 ⟨vL,rfl,nw⟩
 obtain⟨wL,W,b7,c0,d9,W1⟩:=nw.ex
 have a8:=aJ.length c0
 have d8:=cW.lens b7 a8
 have f3:=nw.fr
 have n3:=f3.next
 have d7:h3.get A=some (.cells false [aC n,vO,vR]):=by rw[f3.get A om];exact b4
 obtain⟨D,hD⟩:=exI h3.next
 obtain⟨h4,e4,n4,g4,o4,f4⟩:=dF hD [aC 0,.aD,.aD,.aD]
 obtain⟨Y,e5,n5,g5,o5⟩:=lU h4 D [aC n,vO,vR,.aD]
 refine uG (aE d7) (XE (a:= aC n) (b:=vO) (c:=vR) rfl y F) hD e4 (mB h4 D 0 (a:= aC n) (b:=vO) (c:=vR) (d:= .aD) rfl y F rfl) g4 @kY e5 d8 ?_
 obtain⟨m,hm⟩:=exI J.length
 rw[hm] at a8
 have a5:Fr h3 Y:=⟨om,λq hq=>by rw[o5 q om,o4 q om]⟩
 obtain⟨c3,b9,c4,b3,c2⟩:=SV.shape b7.sv m om om
 have d0: ∀i,i<m-> ∃vx,(∀h',Fr h3 h'->h'.cell c3 (b9+i)=some vx)/\SI h3 vx (zi (J.getD i [])):=λi hi=>by
  obtain⟨v,h1,d1⟩:=fG.at c0 (i:=i) om;exact⟨v,λh' f=>by rw[f.cell (b3 om),c2 i om,h1],d1.si⟩
 have B: ∀i,i<m->(J.getD i []).length<=1000/\ ∀x∈J.getD i [],x<256:=λi hi=>by
  have P:=jJ gd.cX E (show i<J.length by omega);exact⟨by rw[P.len];omega,λx hx=>by have:=P.lt x hx;omega⟩
 have c9: ∀x∈J,x∈L:=λx hx=>(E0.mem x).2 (le x ((E.mem x).1 hx))
 have a6:Fr h h3:=F2.trans f3
 obtain⟨Z,a0⟩: ∃Z:Nat->List Int,Z=λi=>zi ((J.take i).map λx=>L.idxOf x):=⟨_,rfl⟩
 have rl: ∀i,i<=m->(Z i).length=i:=λi hi=>by rw[a0];simp [aL];omega
 refine bY (λvs t=> ∃S,(∃g:Nat->V,vs= [g 0,g 1,g 2,.ptr (A+1) 0,g 4,.ptr D 0,g 6,g 7,g 8,g 9,g 10])/\t.get D=some (.cells false [aC n,vO,vR,.sl S 0 m (.un 1)])/\t.get S=some (.cells false (ints (Z m)))/\S<t.next/\Y.next<=S/\Fx (· =D) Y t) ?_ ?_
 .refine aH (λk' vs t=> ∃(i:Nat) (vr:V),(∃g:Nat->V,vs= [.ptr T0 0,g 1,g 2,.ptr (A+1) 0,g 4,.ptr D 0,g 6,vL,aC m,aC i,g 10])/\i<=m/\t.get D=some (.cells false [aC n,vO,vR,vr])/\cW t vr 1 (ints (Z i)) Y.next/\(0<i-> ∃S,vr= .sl S 0 i (.un 1)/\t.get S=some (.cells false (ints (Z i)))/\S<t.next/\Y.next<=S)/\Fx (· =D) Y t/\k'=m-i) m
   ⟨0,.aD,by rw[hm];exact aB rfl,fE _,g5,by rw[a0];exact cW.aD _ _ _,λh=>absurd h om,Fx.refl _ Y,rfl⟩ ?_
  rintro k' b2 l ⟨i,vr,⟨g,rfl⟩,hi,s,ow,hS,F6,rfl⟩
  have n6:=F6.next
  by_cases b1:(i:Int)<(m:Int)
  case neg=>
   have d4:=bT b1;obtain rfl:i=m:=om
   have mp:0<i:=by
    have:=Ss ((E.mem _).2 gd.cX.one);omega
   obtain⟨S,rfl,gS,s1,s2⟩:=hS mp;refine bE d4 ?_;exact⟨S,aB rfl,s,gS,s1,s2,F6⟩
  have d4:=cJ b1
  have N:i<m:=om
  have a3:Fr h3 l:=⟨om,λq hq=>by rw[F6.get q om om];exact a5.get q hq⟩
  have a7:Fr h l:=a6.trans a3
  obtain⟨vx,cx,sx⟩:=d0 i N
  have b6:l.get T0=some (.cells false [aC n,lO,lR,.mp M,lr]):=by rw[a7.get T0 nT];exact gT
  have c7:dM vr vr=true:=ow.sv.dM
  obtain⟨j,hj⟩:=exI (L.idxOf (J.getD i []))
  have xL:J.getD i []∈L:=c9 _ (aV om)
  have jl:j<L.length:=hj▸List.idxOf_lt_length_of_mem xL
  have lj:L.getD j []=J.getD i []:=by
   rw[List.getD,dC jl,Option.getD_some];subst hj;exact List.getElem_idxOf _
  have c6:isKey .str (.str (J.getD i []))=true:=vJ (B i N).1 (B i N).2
  have lk:=λz=>Je E0.nodup jl (by rw[lj];exact c6) z
  rw[lj] at lk
  have fb:Fr l (H.mk l.tr (l.next+13)):=(Fr.refl l).bU om
  simp(disch:=omega)only[go_sem,d4,c4.ixa,cx l a3,H.cell_of s,H.cell_of b6]
  refine (Kx vx (J.getD i []) _ (B i N).1 (B i N).2 (sx.mono (a3.trans fb))).mono ?_
  rintro _ p ⟨rfl,f7⟩
  have a1:=fb.trans f7
  have d5:l.next+13<=p.next:=f7.next
  have a4:p.get D=some (.cells false [aC n,vO,vR,vr]):=by rw[a1.get D om];exact s
  have c1:p.get T0=some (.cells false [aC n,lO,lR,.mp M,lr]):=by rw[a1.get T0 (by have:=a7.next;omega)];exact b6
  have d6:p.get M=some (.wmap .str (Fg L L.length)):=by rw[(a7.trans a1).get M nM];exact gM
  simp(disch:=omega)only[go_sem,H.cell_of a4,H.cell_of c1,c7,d6,lk,show dM (.mp M) (.mp M)=true from by simp [dM],cQ (H.mk p.tr (l.next+9)) (z:= aC 0) (v:= aC j) rfl rfl]
  obtain⟨h8,U⟩: ∃h8:H,h8=H.mk ((H.mk p.tr (l.next+9)).new (Ob.cells false [aC j])).tr p.next:=⟨_,rfl⟩
  rw[<-U]
  have g8:h8.get (l.next+9)=some (.cells false [aC j]):=by rw[U];exact H.aQ (H.mk p.tr (l.next+9)) _
  have n8:h8.next=p.next:=by rw[U]
  have o8: ∀k,k≠l.next+9->h8.get k=p.get k:=λk hk=>by rw[U];exact H.bN (H.mk p.tr (l.next+9)) hk _
  clear U
  have a2: ∀k,k<l.next->h8.get k=l.get k:=λk hk=>by rw[o8 k om,a1.get k hk]
  have li:=rl i om
  obtain⟨h9,a9,p9⟩:=(ow.mono (h':=h8) om λq o m c e _ h1=>a2 q h1).push (bytes:=8) (SV.one om g8 (.kn 1)) (n:=i) (m:=1) (by rw[aN];omega) rfl om om om
  have n9:=p9.next
  have b8: ∀k,k<Y.next->dS vr k:=λk hk id o m c e e2=>by have:=(ow.in _ _ _ _ e).2.1;omega
  have c5:h9.get D=some (.cells false [aC n,vO,vR,vr]):=by rw[p9.old _ om (b8 _ om),a2 _ om];exact s
  have pt:(t:H)->(x:V)->eH (some (.cells false [aC n,vO,vR,vr])) t D 3 [x]=some (t.set D (some (.cells false [aC n,vO,vR,x]))):=λt x=>cF siM t _ x
  refine dQ a9 c5 pt ?_
  rw[eJ i]
  have er:ints (Z i)++ [aC j]=ints (Z (i+1)):=by
   rw[a0];simp only;rw[dJ [] om,List.map_append,List.map_singleton,hj];simp [zi,ints]
  have pg:=p9.get
  have po:=p9.own (b:=Y.next) (by rw[aN];omega) rfl om
  rw[er] at pg po
  refine⟨m-(i+1),om,i+1,_,aB rfl,om,rfl,po.mono (eU _) λq o m c e _ h1=>H.aF _ (by cases e;omega) _,λ_=>⟨_,rfl,(H.aF _ om _).trans pg,by show h8.next<h9.next;omega,om⟩,⟨by show Y.next<=h9.next;omega,λq h1 h2=>?_⟩,rfl⟩
  rw[H.aF _ h2,p9.old q om (b8 q h1),a2 q om]
  exact F6.get q h1 h2
 rintro b2 l ⟨S,⟨g,rfl⟩,s,gS,s1,s2,F6⟩
 have n6:=F6.next
 simp(disch:=omega)only[go_sem,H.cell_of s]
 have b5:=rl m (eU _)
 refine Ev.mono (Q:=λ_ h'=> ∃l',h'.get S=some (.cells false (ints l'))/\l'.Perm (Z m)/\l'.Pairwise (· <= ·)/\Fx (· =S) l h') (by have:=Ib l S (Z m) (.un 1) om gS s1;rwa [b5] at this) ?_
 rintro _ p ⟨l',c8,pm,so,F7⟩
 have a4:p.get D=some (.cells false [aC n,vO,vR,.sl S 0 m (.un 1)]):=by rw[F7.get D om om];exact s
 obtain⟨r,rfl,rk⟩:=afZ E0 E le (by rw[a0] at pm;simp only[<-hm,List.take_length] at pm;exact pm) so
 have d3:(zi r).length=m:=by rw[pm.length_eq,b5]
 have d5:=F7.next
 have d2:p.get (A+1)=some (.cells false [aC 0,.aD,.aD,.aD]):=by rw[F7.get _ om om,F6.get _ om om,a5.get _ om,f3.get _ om];exact g2
 obtain⟨h8,e8,n8,g8,o8⟩:=lU p (A+1) [aC n,vO,vR,.sl S 0 m (.un 1)]
 refine kA (gZ a4) (mB p (A+1) 0 (a:= aC n) (b:=vO) (c:=vR) (d:= .sl S 0 m (.un 1)) rfl y F rfl) d2 @kY e8 (gZ g8) ?_
 refine⟨vO,vR,_,r,rfl,rfl,SV.all (by rw[aN,d3,qZ]) om (by rw[o8 S om];exact c8) _,rk,λ(e:S<A)=>by have:=a6.next;omega,⟨om,λq hq=>?_⟩⟩
 rw[o8 q om,F7.get q om om,F6.get q om om,a5.get q om]
 exact a6.get q hq
end
theorem DN (vc vx:V)(n:Nat)(O:LN)(R:iA)(G:List Nat->Prop)(x:List Nat)(h:H)(e8:1<=n)(hn:n<=64)(hG:eM n G)(o:bA n G O R)(hc:Hd h vc (n:Int) (O.map zi) (R.map (List.map zi)))(hx:SI h vx (zi x))(X:aY n x):
  Ev T 204 [vc,vx] h (λv h'=> ∃b,v= .bool b/\(b=true↔G x)/\Fr h h'):=by
 obtain⟨vO,vR,rfl,sO,sR⟩:=hc
 obtain⟨e9,eO,cO,b0,d5,a9,wO,a1,N⟩:=mI sO
 obtain⟨f6,eR,cR,c6,c9,b8,wR,b7,P⟩:=sU sR
 rw[fL,o.lo] at a1 N
 rw[fL,o.lr] at b7 P
 obtain⟨B,hB⟩:=exI h.next
 obtain⟨h1,e1,n1,g1,o1,f1⟩:=dF hB [aC n,vO,vR]
 have bx:=aU h (v:= aC n) (u:=vO) (w:=vR) rfl b0 c6
 refine Ku bx hB e1 ?_
 refine aH (λk' r hh=> ∃(i:Nat) (vy:V) (y:List Nat),(∃g:Nat->V,r= [g 0,vy,.ptr B 0,g 3,aC i,g 5,g 6,g 7,g 8])/\i<=n/\SI hh vy (zi y)/\aY n y/\Fix i y/\(G y↔G x)/\Fr h1 hh/\k'=n-i) n
  ⟨0,vx,x,aB rfl,fE _,hx.mono f1,X,λk hk=>om,Iff.rfl,Fr.refl _,rfl⟩ ?_
 rintro k' r h2 ⟨i,vy,y,⟨g,rfl⟩,hi,sy,Y,Q,a4,F2,rfl⟩
 have g2:h2.get B=some (.cells false [aC n,vO,vR]):=by rw[F2.get B om];exact g1
 have d8:(zi y).length=n:=by rw[aL,Y.len]
 by_cases b2:(i:Int)<(n:Int)
 case neg=>
  have d1:=bT b2;obtain rfl:i=n:=om
  simp(disch:=omega)only[go_sem,H.cell_of g2,d1];exact⟨true,rfl,⟨λ_=>a4.1 (by rw[Q.all Y];exact hG.one),λ_=>rfl⟩,f1.trans F2⟩
 have d1:=cJ b2
 have f:i<n:=om
 have F:=f1.trans F2
 obtain⟨bO,b9,W⟩:=N i f
 obtain⟨bR,c1,a3⟩:=P i f
 rw[fO zi (d:= []) (by rw[o.lo];exact f)] at W
 rw[fO (List.map zi) (d:= []) (by rw[o.lr];exact f)] at a3
 generalize wO.getD i V.undef=vo at b9 W
 generalize wR.getD i V.undef=vr at c1 a3
 obtain⟨a0,eo,e7,e5,L,J,a5,K⟩:bH vo=some (aC ((O.getD i []).length:Int))/\True/\True/\True/\ ∃L J,Sl vo 1 (O.getD i []).length L J/\ ∀k,k<(O.getD i []).length->L<h.next/\h.cell L (J+k)=some (aC ((O.getD i []).getD k 0:Nat)):=by
  have l:=W.lens;obtain⟨a,b,s,c,d⟩:=W.open;rw[aL] at l s c d;refine⟨l,trivial,trivial,trivial,a,b,s,λk hk=>⟨c om,?_⟩⟩;rw[d k hk];congr 2;exact fO (λk:Nat=>(k:Int)) (d:=0) om
 obtain⟨f8,er,f2,e6,d6,b5,wr,a6,t⟩:=mI a3
 rw[fL,o.rl i f] at a6 t
 have d9:(O.getD i []).length<=n:=kP (kC (λx hx=>hG.bM hx) f (o.asc i f) (o.mem i f)) om
 obtain⟨m,hm⟩:=exI ((O.getD i []).length)
 rw[hm] at a0 a5 K a6 t d9
 obtain⟨p,hp⟩:=exI (y.getD i 0)
 simp(disch:=omega)only[go_sem,H.cell_of g2,d1]
 refine aH (λk' r hh=> ∃(k:Nat),(∃g:Nat->V,r= [g 0,vy,.ptr B 0,g 3,aC i,aC k,g 6,g 7,g 8])/\k<=m/\(∀j,j<k->(O.getD i []).getD j 0≠p)/\Fr h2 hh/\k'=m-k) m
  ⟨0,aB rfl,fE _,λj hj=>om,Fr.refl _,rfl⟩ ?_
 rintro k' r h3 ⟨k,⟨g',rfl⟩,hk,hj,f3,rfl⟩
 have g3:h3.get B=some (.cells false [aC n,vO,vR]):=by rw[f3.get B (by have:=F2.next;omega)];exact g2
 have F3:=F.trans f3
 have U:h3.cell d5 (a9+i)=some vo:=by rw[F3.cell bO];exact b9
 have e0:h3.cell c9 (b8+i)=some vr:=by rw[F3.cell bR];exact c1
 have c3:=sy.mono f3
 obtain⟨c8,c2,a7,c7,b6⟩:=c3.open
 rw[d8] at a7 c7 b6
 have cy:h3.cell c8 (c2+i)=some (aC p):=by rw[b6 i f];congr 2;simp [zi,Y.len,f,<-hp]
 by_cases b3:(k:Int)<(m:Int)
 case neg=>
  have d2:=bT b3;obtain rfl:k=m:=om
  have d0: ¬G x:=λhx=>by
   have hy:=a4.2 hx;obtain⟨j,d7,e4⟩:=rV.1 ((o.mem i f p).2 ⟨y,hy,Q,hp⟩);exact hj j om (by rw[Zo,dC d7];exact e4)
  simp(disch:=omega)only[go_sem,H.cell_of g3,a1.ixa,U,a0,d2];refine bI (λ_=>?_) (λhc=>(hc trivial).elim);refine aM ?_;exact⟨false,rfl,⟨λe=>(by cases e),λhx=>absurd hx d0⟩,F3.bU om⟩
 have d2:=cJ b3
 have a2:k<m:=om
 obtain⟨b4,c4⟩:=K k a2
 have c5:h3.cell L (J+k)=some (aC ((O.getD i []).getD k 0:Nat)):=by rw[F3.cell b4];exact c4
 obtain⟨q,hq⟩:=exI ((O.getD i []).getD k 0)
 rw[hq] at c5
 by_cases c0:q=p
 case neg=>
  have d3:decide ((q:Int)≠(p:Int))=true:=cJ om;simp(disch:=omega)only[go_sem,H.cell_of g3,a1.ixa,U,a0,d2,a5.ixa,c5,a7.ixa,cy,d3];rw[eJ k];refine⟨m-(k+1),om,k+1,aB rfl,om,λj f7=>?_,f3.bU om,rfl⟩
  by_cases e:j=k
  .rw[e,hq];exact c0
  .exact hj j om
 have d3:decide ((q:Int)≠(p:Int))=false:=bT om
 have d4:decide ((k:Int)=(m:Int))=false:=bT om
 have A:=o.rep i f k om
 rw[hq,c0] at A
 obtain⟨z,hz⟩:=exI ((R.getD i []).getD k [])
 rw[hz] at A
 have Z:=hG.bM A.mem
 obtain⟨br,b1,a8⟩:=t k a2
 rw[fO zi (l:=R.getD i []) (i:=k) (d:= []) (by rw[o.rl i f];omega),hz] at a8
 generalize wr.getD k V.undef=vz at b1 a8
 have e3:h3.cell d6 (b5+k)=some vz:=by rw[F3.cell br];exact b1
 have fb:=(Fr.refl h3).bU (n:=h3.next+23) om
 have f0:=U
 simp(disch:=omega)only[go_sem,H.cell_of g3,a1.ixa,U,a0,d2,a5.ixa,c5,a7.ixa,cy,d3,d4,b7.ixa,e0,a6.ixa,e3]
 refine (Cd vz n z _ om Z (a8.mono (F3.trans fb))).mono ?_
 rintro vi h4 ni
 have f4:=fb.trans ni.fr
 have e2:SI h4 vi (zi (cK z)):=(uS ni).si
 refine aM ?_
 refine (nV vy vi y (cK z) h4 (by rw[Y.len];omega) (c3.mono f4) e2 (λj hj=>by rw[iI,Z.len];exact Y.fZ (by rw[<-Y.len];exact hj))).mono ?_
 rintro vm h5 ⟨sm,f5,_⟩
 refine aM ?_
 rw[eJ i]
 refine⟨n-(i+1),om,i+1,_,_,aB rfl,om,sm,Y.mul Z.inv,?_,?_,F2.trans (f3.trans (f4.trans f5)),rfl⟩
 .refine (Fix.mul Y om Q (Fix.inv Z om A.fix)).succ ?_
  rw[dI (by rw[Y.len];exact f),hp]
  have:=rE Z f
  rwa [A.maps] at this
 .rw[<-a4]
  constructor
  .intro h1
   have:=hG.mul h1 A.mem
   rwa [aG Y Z.inv Z,dU Z,bD Y] at this
  .exact λh1=>hG.mul h1 (hG.inv A.mem)
theorem JB (u w:V)(n:Nat)(a b:List Nat)(h:H)(q:n<=64)(A:aY n a)(B:aY n b)(k:SI h u (zi a))(f:SI h w (zi b)):
  Ev T 203 [u,w] h (λv h'=>SI h' v (zi (aX a b))/\Fr h h'/\ ∀id off len cap,v= .sl id off len cap->h.next<=id):=by
 refine nL ?_
 refine (Cd w n b h om B f).mono ?_
 rintro x l d
 refine aM ?_
 refine (nV x u (cK b) a l (by rw[B.inv.len];omega) (uS d).si (k.mono d.fr) (xU B.inv A)).mono ?_
 rintro y p ⟨m,o,_⟩
 have c:=d.fr.trans o
 refine aM ?_
 refine (nV y w (aS (cK b) a) b p (by rw[(B.inv.mul A).len];omega) m (f.mono c) (xU (B.inv.mul A) B)).mono ?_
 rintro z r ⟨sz,j,i⟩
 refine aM ?_
 exact⟨sz,c.trans j,λid off len cap e=>kP c.next (i id off len cap e)⟩
theorem dbl {n:Nat}{G K:List Nat->Prop}{L M:LN}(d:eM n G)(k:eM n K)(E:dR G L)(F:dR K M)(h: ∀y,G y->K y){x:List Nat}(j:K x)(nx: ¬G x):2*L.length<=M.length:=by
 have X:=k.bM j
 have nd:(L++L.map (aS x)).Nodup:=by
  refine List.nodup_append.2 ⟨E.nodup,?_,λa i b f e=>?_⟩
  .refine List.pairwise_map.2 (List.Pairwise.imp_of_mem (λ{a b} i f ne e=>ne ?_) E.nodup)
   exact yG (d.bM ((E.mem a).1 i)) (d.bM ((E.mem b).1 f)) X e
  .obtain⟨y,c,rfl⟩:=qU.1 f
   have Y:=(E.mem y).1 c;have A:=(E.mem a).1 i;rw[e] at A;have:=d.mul A (d.inv Y);rw[aG X (d.bM Y) (d.bM Y).inv,dB (d.bM Y),bD X] at this;exact nx this
 have:=List.Nodup.length_le_of_subset nd (l₂:=M) λy c=>(F.mem y).2 (by
  rcases jO.1 c with c|c
  .exact h y ((E.mem y).1 c)
  .obtain⟨z,l,rfl⟩:=qU.1 c
   exact k.mul j (h z ((E.mem z).1 l)))
 rw[iB,fL] at this;omega
theorem IU {W W':Nat->Prop}{h h':H}{d o:V}{n:Nat}{O c:LN}{R k:iA}{l:LN}{x:List Nat}(b:GC W h d n O R (bX n (· ∈l)))(a:GC W' h' o n c k (bX n (· ∈l++ [x])))(j: ∀g∈l++ [x],aY n g)(nx: ¬bX n (· ∈l) x):2*iC O n 0<=iC c n 0:=by
 obtain⟨E,e⟩:=dA b.cX b.isc;obtain⟨F,f⟩:=dA a.cX a.isc;rw[<-e,<-f];exact dbl b.cX a.cX E F (λy i=>bX.mono (λg m=>jO.2 (.inl m)) i) (bX.of j siM) nx
theorem Kb (vl:V)(n:Nat)(l:LN)(h:H)(n0:1<=n)(n7:n<=7)(hl:l.length<1000000)(hv:SP h vl l)(hP: ∀g∈l,aY n g):
  Ev T 202 [aC n,vl] h (λv h'=> ∃O R,GC (λid=>id<h.next) h' v n O R (bX n (· ∈l))/\Fr h h'):=by
 obtain⟨B,hB⟩:=exI h.next
 obtain⟨G,e1,n1,g1,o1,f1⟩:=dF hB [aC 0,.aD,.aD]
 obtain⟨id,a5,ws,sh,Q,b4,hc,a7⟩:=hv.open
 rw[fL] at sh Q b4 hc
 refine Px hB e1 ?_
 refine (qK .aD n [] G n0 n7 siM (SR.aD G) (λg h=>by cases h)).mono ?_
 rintro _ P ⟨vc,O0,R0,rfl,N,f2⟩
 obtain⟨s,t,rfl,oO,oR⟩:=N.shape
 have n2:=f2.next
 obtain⟨C,hC⟩:=exI P.next
 obtain⟨h3,e3,n3,g3,o3,f3⟩:=dF hC [aC 0,.aD,.aD]
 obtain⟨h4,e4,n4,g4,o4⟩:=lU h3 C [aC n,s,t]
 have lv:=hv.lens
 rw[fL] at lv
 have a0:Fr P h4:=⟨om,λq d=>by rw[o4 q om,o3 q om]⟩
 refine kA hC e3 (bW h3 C 0 (v:= aC n) (u:=s) (w:=t) rfl oO oR) g3 @bQ e4 ?_
 have a1: ∀g∈([]:LN),g∈l:=λg h=>by cases h
 refine bY (λvs a=> ∃(s t:V) (O:LN) (R:iA),(∃g:Nat->V,vs= [g 0,g 1,.ptr B 0,.ptr C 0,g 4,g 5,g 6,g 7])/\a.get C=some (.cells false [aC n,s,t])/\GC (λq=>q<B+1) a (.agg [aC n,s,t]) n O R (bX n (· ∈l))/\Fr G a/\C<a.next) ?_ ?_
 .refine aH (λk' vs a=> ∃(i:Nat) (vk:V) (L:List V) (kept:LN) (b:Nat) (s t:V) (O:LN) (R:iA),(∃g:Nat->V,vs= [aC n,vl,.ptr B 0,.ptr C 0,vk,aC i,g 6,g 7])/\i<=l.length/\cW a vk 1 L G.next/\fG (λq=>B<=q) h L kept/\a.get C=some (.cells false [aC n,s,t])/\GC (λq=>q<b\/q=C\/dG vk q) a (.agg [aC n,s,t]) n O R (bX n (· ∈kept))/\B<b/\(∀q,dG vk q->q≠C)/\Fr G a/\C<a.next/\(∀g∈kept,g∈l)/\(∀g∈l.take i,bX n (· ∈kept) g)/\2^kept.length<=iC O n 0/\k'=l.length-i) l.length
   ⟨0,.aD, [], [],B+1,s,t,O0,R0,aB rfl,fE _,cW.aD _ _ _,trivial,g4,?_,Nat.lt_succ_self _,λq ⟨_,_,_,e⟩=>(by cases e),⟨om,λq d=>by rw[a0.get q om];exact f2.get q d⟩,om,a1,λg h=>(by cases h),?_,rfl⟩ ?_
  .refine (N.jK (W':=λq=>q<B+1\/q=C\/dG .aD q) λq hn d=>?_).mono a0
   rcases d with h|h|⟨_,_,_,e⟩
   .show q<G.next;omega
   .omega
   .cases e
  .exact tF n 0 λj _ P=>(N.row om).1
  rintro k' a4 a ⟨i,vk,L,kept,b,Y,xR,O,R,⟨g,rfl⟩,hi,ow,pv,Z,r,b7,a9,F,nC,hk,ht,b0,rfl⟩
  by_cases a3:(i:Int)<(l.length:Int)
  case neg=>
   have d4:=bT a3;obtain rfl:i=l.length:=om
   refine cU lv d4 ?_;rw[List.take_length] at ht;have p: ∀g∈kept,aY n g:=λg k=>hP g (hk g k)
   exact⟨Y,xR,O,R,aB rfl,Z,(r.jK λq _ (h:q<B+1)=> .inl om).congr λy=>⟨bX.mono hk,bX.le (bX.cX p) ht⟩,F,nC⟩
  have d4:=cJ a3
  have f:i<l.length:=om
  have Fh:Fr h a:=f1.trans F
  have ci:a.cell id (a5+i)=some (ws.getD i .undef):=by rw[Fh.cell (Q om),hc i f]
  have W:=wF a7 f
  have X:aY n (l.getD i []):=hP _ (aV f)
  have xl:l.getD i []∈l:=aV f
  have tm:=Ov f
  generalize ws.getD i .undef=U at ci W
  generalize l.getD i []=x at W X xl tm
  have fb:Fr a (H.mk a.tr (a.next+7)):=(Fr.refl a).bU om
  refine iT lv d4 (aE Z) @sh.ixa ci ?_
  refine (DN _ U n O R _ x _ n0 om r.cX r.isc (r.ch.mono fb) (W.mono (Fh.trans fb)) X).mono ?_
  rintro _ h5 ⟨bb,rfl,a2,f5⟩
  have A:=fb.trans f5
  have n5:=A.next
  have nF:=F.next
  cases bb with
  |true=>
   refine aM ?_;rw[eJ i]
   exact⟨l.length-(i+1),om,i+1,vk,L,kept,b,Y,xR,O,R,aB rfl,om,ow.fr A,pv,by rw[A.get C nC];exact Z,r.mono A,b7,a9,F.trans A,om,hk,λg k=>by
    rcases (tm g).1 k with h|h
    .exact ht g h
    .rw[h];exact a2.1 rfl,b0,rfl⟩
  |false=>
   have nx: ¬bX n (· ∈kept) x:=λh=>by have:=a2.2 h;cases this
   have b9:kept.length<=12:=by
    have:=dX r;apply zQ;intro hc;have:2^13<=2^kept.length:=Nat.pow_le_pow_right om om;omega
   have lw:=aJ.length pv;have b5:h5.cell id (a5+i)=some U:=by rw[A.cell (by have:=Q om;have:=Fh.next;omega)];exact ci
   obtain⟨h6,a6,J,f6,n6,o6⟩:=tL (v:=U) (ow.fr A) (F.trans A) om (bytes:=24) om;have wx:=SV.cM W;refine gX @sh.ixa b5 (cQ h5 (z:= .aD) wx.1 wx.2.1) a6 ?_;generalize b2:V.sl (h5.next+1) 0 (L.length+1) (.un 1)=v6 at J;have p: ∀g∈kept++ [x],aY n g:=λg k=>(jO.1 k).elim (λh=>hP g (hk g h)) λh=>by rw[List.mem_singleton.1 h];exact X
   have px:PV (λq=>B<=q) h U x:=⟨W,Qs (b:=B) W om λ_ h=>h⟩
   have a8:fG (λq=>B<=q) h (L++ [U]) (kept++ [x]):=aJ.append pv (fG.one px);have b3:Fr h h6:=f1.trans f6;refine (qK v6 n (kept++ [x]) h6 n0 n7 (by rw[iB,List.length_singleton];omega) (fG.EA J.sv (fG.fr a8 b3)) p).mono ?_;rintro _ h7 ⟨vc,O2,R2,rfl,K,f7⟩;obtain⟨yO,yR,rfl,pO,pR⟩:=K.shape;have c0:=f7.next
   have b8:h7.get C=some (.cells false [aC n,Y,xR]):=by
    rw[f7.get C om,o6 C om λq o m c e e2=>a9 q ⟨o,m,c,e⟩ e2.symm,A.get C nC];exact Z
   obtain⟨h8,e8,n8,g8,o8⟩:=lU h7 C [aC n,yO,yR];refine gX (bW h7 C 0 (v:= aC n) (u:=yO) (w:=yR) rfl pO pR) b8 @bQ e8 ?_;rw[eJ i];have b6: ∀q,dG v6 q->q=h5.next+1:=λq ⟨_,_,_,e⟩=>by rw[<-b2] at e;cases e;rfl
   have b1:Fx (λq=>q<h6.next) h7 h8:=⟨om,λq G P=>o8 q λe=>P (by show q<_;omega)⟩
   refine⟨l.length-(i+1),om,i+1,v6,L++ [U],kept++ [x],h6.next,yO,yR,O2,R2,aB rfl,om,?_,a8,g8,?_,om,λq d=>by have:=b6 q d;omega,?_,om,?_,?_,?_,rfl⟩
   .refine J.mono om λq o m c e _ G=>?_
    have:=b6 q ⟨o,m,c,e⟩;rw[o8 q om,f7.get q om]
   .refine K.go b1 λq _ d=>?_
    show q<h6.next;rcases d with h|h|h
    .exact h
    .omega
    .have:=b6 q h;omega
   .have F7:=f6.trans f7
    exact⟨by have:=F7.next;omega,λq d=>by rw[o8 q om];exact F7.get q d⟩
   .intro g k
    rcases jO.1 k with h|h
    .exact hk g h
    .rw[List.mem_singleton.1 h];exact xl
   .intro g k
    rcases (tm g).1 k with h|h
    .exact bX.mono (λg k=>jO.2 (.inl k)) (ht g h)
    .rw[h];exact bX.of p siM
   .have:=IU r K p nx
    rw[iB,List.length_singleton,Nat.pow_succ];omega
 rintro a4 a ⟨Y,xR,O,R,⟨g,rfl⟩,Z,r,F,nC⟩
 obtain⟨_,qO,qR⟩:=r.one
 have gB:a.get B=some (.cells false [aC 0,.aD,.aD]):=by rw[F.get B om];exact g1
 obtain⟨h9,e9,n9,g9,o9⟩:=lU a B [aC n,Y,xR]
 refine kA (aE Z) (bW a B 0 (v:= aC n) (u:=Y) (w:=xR) rfl qO qR) gB @bQ e9 (aE g9) ?_
 have Fh:Fr h a:=f1.trans F
 refine⟨O,R,r.go ⟨om,λq G P=>o9 q λe=>P (by show q<_;omega)⟩ λq _ (h:q<B)=>by show q<B+1;omega,⟨by have:=Fh.next;omega,λq d=>by rw[o9 q om];exact Fh.get q d⟩⟩
def Gt (n:Nat)(G K:List Nat->Prop)(x:List Nat):List Nat->Prop:=NC n (λa=>K a\/a=x) G
def RG (L:LN)(r:List Nat)(x:List Nat):Prop:= ∃i,i∈r/\L.getD i []=x
section
variable {n:Nat} {G K K':List Nat->Prop} {O O':LN} {R R':iA} {x y:List Nat} {L:LN} {r r':List Nat}
theorem Gt.cX (c:eM n G)(le: ∀x,K x->G x)(d:G x):eM n (Gt n G K x):=
 NC.cX (λa h=>c.bM (h.elim (le a) λe=>by rw[e];exact d)) λb h=>c.bM h
theorem Gt.le (c:eM n G)(le: ∀x,K x->G x)(i:G x)(h:Gt n G K x y):G y:=
 NC.le h c (λa h=>h.elim (le a) λe=>by rw[e];exact i) λy b f d=>c.mul (c.mul (c.inv d) f) d
theorem XQ (j:eM n G)(c:bA n G O R)(o:eM n K)(d:bA n K O' R')(le: ∀x,K x->G x)(p:G x)(y:List Nat):NC n (· ∈cI R'++ [x]) (· ∈cI R) y↔Gt n G K x y:=by
 have q: ∀a,a∈cI R'++ [x]->aY n a:=λa l=>(jO.1 l).elim (λh=>o.bM (cH d h)) λh=>by rw[List.mem_singleton.1 h];exact j.bM p
 have m: ∀b,b∈cI R->aY n b:=λb h=>j.bM (cH c h)
 constructor
 .intro h
  exact NC.le h (Gt.cX j le p) (λa l=>(jO.1 l).elim (λh=>NC.of (.inl (cH d h))) λh=>NC.of (.inr (List.mem_singleton.1 h))) λy b f i=>NC.cj f (cH c i)
 .intro h
  have k:=NC.cX q m;refine NC.le h k ?_ λy b f i=>xS k m (λy b f i=>NC.cj f i) (lX j c i) y f
  rintro a (h|rfl)
  .exact bX.le k (λg s=>NC.of (jO.2 (.inl s))) (lX o d h)
  .exact NC.of (jO.2 (.inr (List.mem_singleton.2 rfl)))
theorem Gt.iff (e: ∀x,K x↔K' x)(y:List Nat):Gt n G K x y↔Gt n G K' x y:=by
 have:K=K':=funext λx=>propext (e x)
 rw[this]
theorem Rk.uniq (a:Rk L K r)(b:Rk L K r'):r=r':=sX a.asc b.asc λi=>(a.mem i).trans (b.mem i).symm
theorem Rk.iff (E:dR G L)(le: ∀x,K x->G x)(a:Rk L K r)(x:List Nat):K x↔RG L r x:=by
 constructor
 .intro h
  obtain⟨i,hi,rfl⟩:=rV.1 ((E.mem x).2 (le x h));have e:L.getD i []=L[i]:=by rw[List.getD,dC hi];rfl
  exact⟨i,(a.mem i).2 ⟨hi,by rw[e];exact h⟩,e⟩
 .rintro⟨i,hi,rfl⟩
  exact ((a.mem i).1 hi).2
theorem Rk.self (a:Rk L K r)(E:dR G L):Rk L (RG L r) r:=⟨a.asc,λi=>⟨λh=>⟨((a.mem i).1 h).1,i,h,rfl⟩,λ⟨hi,j,hj,e⟩=>by
 have b:=((a.mem j).1 hj).1;rw[List.getD,dC b,List.getD,dC hi] at e;have:j=i:=(List.getElem_inj E.nodup).1 e
 rw[<-this];exact hj⟩⟩
theorem Rk.len (h:eM n K)(d:bA n K O' R')(E:dR G L)(le: ∀x,K x->G x)(a:Rk L K r):r.length=iC O' n 0:=by
 obtain⟨F,e⟩:=dA h d;rw[<-e]
 have p:(r.map λi=>L.getD i []).Perm (bZ O' R' n 0 (bC n)):=by
  refine (List.perm_ext_iff_of_nodup ?_ F.nodup).2 λx=>?_
  .refine List.pairwise_map.2 (List.Pairwise.imp_of_mem (λ{i j} hi b (ne:i<j) e=>?_) a.asc)
   have f:=((a.mem i).1 hi).1;have c:=((a.mem j).1 b).1;rw[List.getD,dC f,List.getD,dC c] at e;have:=(List.getElem_inj E.nodup).1 e;omega
  .rw[F.mem,a.iff E le,qU]
   rfl
 have:=p.length_eq;rwa [fL] at this
end
open Classical in
noncomputable def Km (L:LN)(K:List Nat->Prop):List Nat:=(List.range L.length).filter λi=>decide (K (L.getD i []))
open Classical in
theorem xW (L:LN)(K:List Nat->Prop):Rk L K (Km L K):=⟨List.pairwise_lt_range.filter _,λi=>by
 unfold Km
 rw[Re,wY,tU]⟩
noncomputable def zX (n:Nat)(G:List Nat->Prop)(L:LN)(r:List Nat)(i:Nat):List Nat:=Km L (Gt n G (RG L r) (L.getD i []))
def uC (l:LN)(a:List Nat):LN:=if a∈l then l else l++ [a]
noncomputable def SQ (n:Nat)(G:List Nat->Prop)(L:LN)(r:List Nat)(K:List Nat):LN:=K.foldl (λl i=>if i∈r then l else uC l (zX n G L r i)) []
def uU (l:LN)(a:List Nat):Bool:=l.any λb=>decide (b.length<a.length)&&b.all λi=>decide (i∈a)
def HT (l:LN):LN:=l.filter λa=>!uU l a
def lexB:List Nat->List Nat->Bool
 | [], []=>false
 | [],_::_=>true
 |_::_, []=>false
 |a::l,b::m=>if a=b then lexB l m else decide (a<b)
def Nj:LN->List Nat
 | []=> []
 |a::l=>l.foldl (λm x=>if lexB x m then x else m) a
noncomputable def Dv (n:Nat)(G:List Nat->Prop)(L:LN)(K:List Nat)(r:List Nat):List Nat:=Nj (HT (SQ n G L r K))
theorem Uf {l:LN}{a x:List Nat}:x∈uC l a↔x∈l\/x=a:=by
 unfold uC;split
 .rename_i h
  exact⟨.inl,λk=>k.elim id λe=>by rw[e];exact h⟩
 .simp
theorem Ii {n:Nat}{G:List Nat->Prop}{L:LN}{r K:List Nat}{x:List Nat}:x∈SQ n G L r K↔ ∃i,i∈K/\i∉r/\x=zX n G L r i:=by
 have d:(K:List Nat)->(l:LN)->x∈K.foldl (λl i=>if i∈r then l else uC l (zX n G L r i)) l↔x∈l\/ ∃i,i∈K/\i∉r/\x=zX n G L r i:=by
  intro K
  induction K with
  |nil=>intro l;simp
  |cons k K ih=>
   intro l;rw[List.foldl_cons,ih];split
   .rename_i h
    refine or_congr_right ⟨λ⟨i,a,b,c⟩=>⟨i,tX _ a,b,c⟩,λ⟨i,a,b,c⟩=>?_⟩;rcases uL.1 a with rfl|a
    .exact absurd h b
    .exact⟨i,a,b,c⟩
   .rename_i h
    rw[Uf,or_assoc];refine or_congr_right ⟨?_,λ⟨i,a,b,c⟩=>?_⟩
    .rintro (e|⟨i,a,b,c⟩)
     .exact⟨k,sZ,h,e⟩
     .exact⟨i,tX _ a,b,c⟩
    .rcases uL.1 a with rfl|a
     .exact .inl c
     .exact .inr ⟨i,a,b,c⟩
 exact (d K []).trans siM
theorem CN:{l:LN}->l≠ []->Nj l∈l
 |a::l,_=>by
  have c:(l:LN)->(a:List Nat)->l.foldl (λm x=>if lexB x m then x else m) a=a\/l.foldl (λm x=>if lexB x m then x else m) a∈l:=by
   intro l
   induction l with
   |nil=>exact λa=> .inl rfl
   |cons b l ih=>
    intro a;rw[List.foldl_cons];split
    .exact .inr ((ih b).elim (λe=>by rw[e];exact sZ) (tX _))
    .exact (ih a).imp id (tX _)
  show l.foldl _ a∈_;exact (c l a).elim (λe=>by rw[e];exact sZ) (tX _)
theorem BJ {l:LN}(h:l≠ []):HT l≠ []:=by
 have c:(k:Nat)->(a:List Nat)->a∈l->a.length<=k->HT l≠ []:=by
  intro k
  induction k with
  |zero=>
   intro a d i e
   have:a∈HT l:=Re.2 ⟨d,by
    rw[Bool.not_eq_true'];refine List.any_eq_false.2 λb f=>?_
    simp;omega⟩
   rw[e] at this;cases this
  |succ k ih=>
   intro a d i
   by_cases h:uU l a=true
   .obtain⟨b,f,j⟩:=List.any_eq_true.1 h
    simp only[rG,tU] at j;exact ih b f om
   .intro e
    have:a∈HT l:=Re.2 ⟨d,by simp [h]⟩;rw[e] at this;cases this
 cases l with
 |nil=>exact absurd rfl h
 |cons a l=>exact c _ a sZ (eU _)
theorem QS {W:Nat->Prop}(vc t:V)(n:Nat)(O:LN)(R:iA)(G:List Nat->Prop)(l:LN)(h:H)(c:GC W h vc n O R G)(hl:l.length<=4096)(sl:SP h t l)(hP: ∀g∈l,aY n g):
  Ev T 107 [vc,t] h (λv h'=> ∃vr O2 R2,v= .tup [vr,aC 0]/\GC (λq=>q<h.next) h' vr n O2 R2 (NC n (· ∈l) (· ∈cI R))/\Fr h h'):=by
 obtain⟨z,F,rfl,oO,oR⟩:=c.shape
 refine kV ?_
 have n0:=c.n0
 have s:=c.n7
 have hG:=c.cX
 obtain⟨B,hB⟩:=exI h.next
 obtain⟨h1,e1,n1,g1,o1,f1⟩:=dF hB [aC n,z,F]
 obtain⟨j,e2,n2,g2,o2,f2⟩:=dF n1 [aC 0,.aD,.aD]
 have F2:=f1.trans f2
 have m: ∀d,Fr j d->d.get B=bG [aC n,z,F]:=λd f=>by rw[f.get B om,o2 B om];exact g1
 have gA: ∀d,Fr j d->d.get (B+1)=bG [aC 0,.aD,.aD]:=λd f=>by rw[f.get _ om];exact g2
 simp(disch:=omega)only[go_sem,aI,aU h (v:= aC n) (u:=z) (w:=F) rfl oO oR,hB,e1,n1,e2,aE (m j (Fr.refl _))]
 refine ((c.mono F2).check).mono ?_
 rintro _ h3 ⟨rfl,Y⟩
 refine aM ?_
 refine bI (λN=>(N rfl).elim) (λ_=>?_)
 simp(disch:=omega)only[go_sem,H.cell_of (m h3 Y)]
 refine (Hy t n l h3 n0 s hl (sl.mono (F2.trans Y)) hP).mono ?_
 rintro _ h4 ⟨vm,Om,Rm,rfl,gm,f4⟩
 obtain⟨mO,mR,rfl,L,A⟩:=gm.shape
 obtain⟨M,hM⟩:=exI h4.next
 obtain⟨h5,e5,n5,g5,o5,f5⟩:=dF hM [aC 0,.aD,.aD]
 obtain⟨i,e6,n6,g6,o6⟩:=lU h5 M [aC n,mO,mR]
 refine kA hM e5 (bW h5 M 0 (v:= aC n) (u:=mO) (w:=mR) rfl L A) g5 @bQ e6 ?_
 refine bI (λN=>(N rfl).elim) (λ_=>?_)
 have K:Fr h4 i:=⟨om,λq hq=>by rw[o6 q om,o5 q om]⟩
 have b:=Y.trans (f4.trans K)
 have fb: ∀k,i.next<=k->Fr i (H.mk i.tr k):=λk hk=>(Fr.refl i).bU hk
 simp(disch:=omega)only[go_sem,H.cell_of (m i b),aE (m i b)]
 refine (wE _ n O R G h _ c (F2.trans (b.trans (fb _ om)))).mono ?_
 rintro va x ⟨wA,Z,pA,f7⟩
 have U:=(fb _ om).trans f7
 have a:=b.trans U
 have cB:UH (x.cell B 0) (aC n)=true:=by rw[H.cell_of (m x a)];simp [UH,dM]
 refine aM ?_
 refine⟨cB,?_⟩
 have sA:=qN hG c.isc
 have nn:n*n<=7*7:=Nat.mul_le_mul s s
 have P:SP x va (cI R):=fG.EA (W:=λ_=>False) Z.sv (aJ.mono (λ_ _ p=>⟨p.si.mono (F2.trans a),sJ _⟩) pA)
 refine (Nb t va n l (cI R) x n0 s hP (λg hg=>hG.bM (cH c.isc hg)) om om (sl.mono (F2.trans a)) P).mono ?_
 rintro _ J ⟨D,rfl,hD,bd,f8⟩
 obtain⟨xO,xR,O2,R2,gD,o⟩:=bd.ex
 obtain⟨_,Q,y⟩:=o.one
 have r:=a.trans f8
 obtain⟨h9,e9,n9,g9,o9⟩:=lU J (B+1) [aC n,xO,xR]
 refine kA (aE gD) (bW J (B+1) 0 (v:= aC n) (u:=xO) (w:=xR) rfl Q y) (gA J r) @bQ e9 (aE g9) ?_
 have q2:=a.next
 have q8:=f8.next
 refine⟨_,O2,R2,rfl,?_,⟨om,λq hq=>by rw[o9 q om,r.get q om];exact F2.get q hq⟩⟩
 exact o.go ⟨om,λq h1 j=>o9 q λe=>j (.inl om)⟩ λq _ h=> .inl om
structure Nm (W:Nat->Prop)(n:Nat)(L:LN)(h:H)(p:V×V×V)(r:List Nat):Prop where
 ch: ∃O R,GC W h (.agg [aC n,p.1,p.2.1]) n O R (RG L r)
 si:SI h p.2.2 (zi r)
 off:Gz W p.2.2
 rk:Rk L (RG L r) r
abbrev Vb (n:Nat)(p:V×V×V):V:= .agg [aC n,p.1,p.2.1,p.2.2]
section
variable {W W':Nat->Prop} {n:Nat} {L:LN} {h h':H} {p:V×V×V} {r:List Nat}
theorem Nm.go (m:Nm W n L h p r)(f:Fx W h h')(a: ∀q,q<h.next->W' q->W q):Nm W' n L h' p r:=by
 obtain⟨O,R,g⟩:=m.ch;exact⟨⟨O,R,g.go f a⟩,SV.fx m.si m.off f,Gz.jK m.off m.si a,m.rk⟩
theorem Nm.mono (m:Nm W n L h p r)(f:Fr h h'):Nm W n L h' p r:=m.go (Fx.of f) λ_ _ h=>h
theorem Nm.one (m:Nm W n L h p r):p.1.one=true/\p.2.1.one=true/\p.2.2.one=true:=by
 obtain⟨O,R,g⟩:=m.ch;exact⟨g.one.2.1,g.one.2.2,(SV.cM m.si).2.1⟩
theorem Nm.eq (m:Nm W n L h p r):dM p.1 p.1=true/\dM p.2.1 p.2.1=true/\dM p.2.2 p.2.2=true:=by
 obtain⟨O,R,g⟩:=m.ch;obtain⟨_,_,_,_,e,b,_,_,a,_,_⟩:=g.cw;simp only[V.agg.injEq,List.cons.injEq,and_true,true_and] at e;rw[e.1,e.2];exact⟨SV.dM b,SV.dM a,SV.dM m.si⟩
theorem Zg {h h':H}(f:Fr h h'){id off k:Nat}(a:id<h.next):h'.row id off k=h.row id off k:=by
 unfold H.row;rw[f.get id a]
theorem Rk.short (m:Rk L (RG L r) r):r.length<=L.length:=by
 have:=List.Nodup.length_le_of_subset (l₂:=List.range L.length) (m.asc.imp λh=>Nat.ne_of_lt h) λi hi=>wY.2 ((m.mem i).1 hi).1
 rwa [Ng] at this
end
theorem UD.few {n:Nat}{O:LN}{R:iA}{G:List Nat->Prop}{L:LN}{K:List Nat}{h:H}{p:Nat}(l:UD n O R G L K h p):L.length<=5040/\dR G L/\eM n G/\bA n G O R/\1<=n/\n<=7:=by
 obtain⟨b,f,M,d,g,i,a,sp,c⟩:=l.ex;obtain⟨E,e⟩:=dA a.cX a.isc;rw[l.hL] at E e;exact⟨by rw[e];exact dX a,E,a.cX,a.isc,a.n0,a.n7⟩
theorem gW (h:H){a b c d:V}(i:a.one=true)(k:b.one=true)(j:c.one=true)(f:d.one=true):An h (.agg [a,b,c,d])=some (.ptr h.next 0,h.new (.cells false [a,b,c,d])):=sQ h _ (by simp [i,k,j,f])
theorem VI {W:Nat->Prop}(j:Nat)(p:V×V×V)(t:V)(n:Nat)(O:LN)(R:iA)(G:List Nat->Prop)(L:LN)(K r:List Nat)(i:Nat)(h:H)(Dw:UD n O R G L K h j)(l:Nm W n L h p r)(hi:i<L.length)(A:SI h t (zi (L.getD i []))):
  Ev T 48 [.ptr j 0,Vb n p,t] h (λv h'=>v= .bool (decide (i∈r))/\Fr h h'):=by
 obtain⟨o1,o2,o3⟩:=l.one
 obtain⟨ll,E,hG,a0,n0,n7⟩:=Dw.few
 obtain⟨J,Z,M,Y,gT,gM,gc,_,nM⟩:=Dw.ex
 have nT:=Dw.nx
 have rl:=l.rk.short
 refine kV ?_
 obtain⟨B,hB⟩:=exI h.next
 obtain⟨s,e1,n1,N,q1,m⟩:=dF hB [aC n,p.1,p.2.1,p.2.2]
 have P:=jJ hG E hi
 have Q:(L.getD i []).length<=1000:=by rw[P.len];omega
 have U: ∀x∈L.getD i [],x<256:=λx A=>by have:=P.lt x A;omega
 have o:s.get j=some (.cells false [aC n,J,Z,.mp M,Y]):=by rw[m.get j nT];exact gT
 simp(disch:=omega)only[go_sem,aI,gW h (a:= aC n) (b:=p.1) (c:=p.2.1) (d:=p.2.2) rfl o1 o2 o3,hB,e1,H.cell_of N,H.cell_of o]
 refine (Kx t (L.getD i []) _ Q U (A.mono (m.trans ((Fr.refl s).bU om)))).mono ?_
 rintro _ q ⟨rfl,f2⟩
 have f:=((Fr.refl s).bU (n:=s.next+15) om).trans f2
 have y:q.get B=some (.cells false [aC n,p.1,p.2.1,p.2.2]):=by rw[f.get B om];exact N
 have w:q.get j=some (.cells false [aC n,J,Z,.mp M,Y]):=by rw[f.get j om];exact o
 have u:q.get M=some (.wmap .str (Fg L L.length)):=by rw[(m.trans f).get M nM];exact gM
 have lk:=λz=>Je E.nodup hi (vJ Q U) z
 have F:dM p.2.2 p.2.2=true:=SV.dM l.si
 simp(disch:=omega)only[go_sem,H.cell_of y,H.cell_of w,u,lk,F,show dM (.mp M) (.mp M)=true from by simp [dM]]
 refine (Av p.2.2 r i q om l.rk.asc (l.si.mono (m.trans f))).mono ?_
 rintro _ h3 ⟨k,b,rfl,hb,_,f3⟩
 refine aM ?_
 refine⟨?_,m.trans (f.trans f3)⟩
 congr 1
 exact Lf.2 (hb.trans tU.symm)
theorem VG (t:Nat)(n:Nat)(O:LN)(R:iA)(G:List Nat->Prop)(L:LN)(K:List Nat)(h:H)(Dw:UD n O R G L K h t):
  Ev T 47 [.ptr t 0] h (λv h'=> ∃p,v=Vb n p/\Nm (λq=>q<h.next) n L h' p (Km L λx=>x=bC n)/\Fr h h'):=by
 obtain⟨ll,E,hG,a2,n0,n7⟩:=Dw.few
 obtain⟨lO,lR,M,lr,gT,gM,gc,_,nM⟩:=Dw.ex
 have nT:=Dw.nx
 refine kV ?_
 obtain⟨B,hB⟩:=exI h.next
 obtain⟨l,J,n1,g1,q1,Y⟩:=dF hB [aC 0,.aD,.aD,.aD]
 have a0:l.get t=some (.cells false [aC n,lO,lR,.mp M,lr]):=by rw[Y.get t nT];exact gT
 simp(disch:=omega)only[go_sem,aI,hB,J,H.cell_of a0]
 refine (Hy .aD n [] l n0 n7 (by show 0<=4096;omega) ⟨[],SV.aD l 1,trivial⟩ (λg hg=>by cases hg)).mono ?_
 rintro _ y ⟨vm,Om,Rm,rfl,U,k⟩
 obtain⟨m,j,rfl,s,o⟩:=U.shape
 obtain⟨A,hA⟩:=exI y.next
 obtain⟨h3,e3,n3,g3,o3,f3⟩:=dF hA [aC 0,.aD,.aD]
 obtain⟨Z,e4,n4,g4,o4⟩:=lU h3 A [aC n,m,j]
 have f:Fr y Z:=⟨om,λq hq=>by rw[o4 q om,o3 q om]⟩
 refine uA hA e3 (bW h3 A 0 (v:= aC n) (u:=m) (w:=j) rfl s o) g3 @bQ e4 (aE g4) ?_
 have J: ∀x,bX n (· ∈([]:LN)) x↔x=bC n:=λx=>⟨λh=>by
  have e: ∀g,g∈([]:LN)->g=bC n:=λg hg=>by cases hg
  have r:=bX.le (Ik n) e h
  exact r,λh=>by rw[h];exact .one⟩
 have F:=Y.trans (k.trans f)
 refine (TL t _ n O Om R Rm G _ L K Z (Dw.mono F) (((U.jK (W':=λ_=>False) λ_ _ h=>h.elim).mono f).congr J) (λx hx=>by rw[hx];exact hG.one)).mono ?_
 rintro _ N ⟨vO,vR,vr,r,e5,rfl,sr,rk,P,z⟩
 obtain⟨rfl,rfl⟩:m=vO/\j=vR:=by simpa using e5
 obtain rfl:=rk.uniq (xW _ _)
 have oR:=(SV.cM sr).2.1
 have gB:N.get B=some (.cells false [aC 0,.aD,.aD,.aD]):=by rw[z.get B (by have:=k.next;omega),f.get B (by have:=k.next;omega),k.get B om];exact g1
 obtain⟨h6,e6,n6,g6,o6⟩:=lU N B [aC n,m,j,vr]
 refine iT (mB N B 0 (a:= aC n) (b:=m) (c:=j) (d:=vr) rfl s o oR) gB @kY e6 (gZ g6) ?_
 have a1:=k.next
 have a3:=z.next
 have Fb:Fx (· =B) N h6:=⟨om,λq l y=>o6 q y⟩
 have Q:=((((U.mono f).mono z).go (Fx.wide Fb λq (e:q=B)=>(by omega:q<l.next)) (W':=λq=>q<B) λq _ h=>(by have:q<B:=h;omega:q<l.next)).congr J).congr (rk.iff E λx hx=>by rw[hx];exact hG.one)
 have i:=Gz.jK (W':=λq=>q<B\/q=B) P sr λq _ h=>(by have:q<B\/q=B:=h;omega:q<Z.next)
 refine⟨(m,j,vr),rfl,⟨⟨Om,Rm,Q⟩,SV.fx sr i (Fx.wide Fb λq h=> .inr h),Gz.jK i sr λq _ h=> .inl h,rk.self E⟩,⟨om,λq hq=>by rw[o6 q om,z.get q om,f.get q om,k.get q om];exact Y.get q hq⟩⟩
theorem ON {W:Nat->Prop}(T0:Nat)(p:V×V×V)(vx:V)(n:Nat)(O:LN)(R:iA)(G:List Nat->Prop)(L:LN)(K r:List Nat)(i:Nat)(h:H)(Dw:UD n O R G L K h T0)(nm:Nm W n L h p r)(hi:i<L.length)(A:SI h vx (zi (L.getD i []))):
  Ev T 50 [.ptr T0 0,Vb n p,vx] h (λv h'=> ∃q,v=Vb n q/\Nm (λq=>q<h.next) n L h' q (zX n G L r i)/\Fr h h'):=by
 obtain⟨o1,o2,o3⟩:=nm.one
 obtain⟨ll,E,hG,b3,n0,n7⟩:=Dw.few
 obtain⟨lO,lR,M,lr,gT,gM,gc,_,nM⟩:=Dw.ex
 obtain⟨_,oO,oR⟩:=gc.one
 have nT:=Dw.nx
 obtain⟨Op,Rp,N⟩:=nm.ch
 refine kV ?_
 obtain⟨B,hB⟩:=exI h.next
 obtain⟨h1,e1,n1,g1,q1,f1⟩:=dF hB [aC n,p.1,p.2.1,p.2.2]
 obtain⟨l,e2,n2,g2,q2,f2⟩:=dF n1 [aC 0,.aD,.aD,.aD]
 have F2:=f1.trans f2
 have gB: ∀j,Fr l j->j.get B=some (.cells false [aC n,p.1,p.2.1,p.2.2]):=λj f=>by rw[f.get B om,q2 B om];exact g1
 have gA: ∀j,Fr l j->j.get (B+1)=some (.cells false [aC 0,.aD,.aD,.aD]):=λj f=>by rw[f.get _ om];exact g2
 have a8: ∀j,Fr l j->j.get T0=some (.cells false [aC n,lO,lR,.mp M,lr]):=λj f=>by rw[f.get _ om,F2.get T0 nT];exact gT
 have b6:{j:H}->{id:Nat}->{a b c d:V}->j.get id=some (.cells false [a,b,c,d])->j.row id 0 3=some [a,b,c]:=λhg=>by simp [H.row,hg,sub]
 have a3:{j:H}->{id:Nat}->{a b c d e:V}->j.get id=some (.cells false [a,b,c,d,e])->j.row id 0 3=some [a,b,c]:=λhg=>by simp [H.row,hg,sub]
 simp(disch:=omega)only[go_sem,aI,gW h (a:= aC n) (b:=p.1) (c:=p.2.1) (d:=p.2.2) rfl o1 o2 o3,hB,e1,n1,e2,b6 (gB l (Fr.refl _))]
 refine (Oe _ n Op Rp _ l (N.mono F2)).mono ?_
 rintro _ k ⟨vs,rfl,nl⟩
 have f3:=nl.fr
 obtain⟨ws,W1,ow,pv,bk,lW⟩:=nl.ex
 have lw:=aJ.length pv
 have sl:=qN N.cX N.isc
 have nn:n*n<=7*7:=Nat.mul_le_mul n7 n7
 have wx:=SV.cM A
 obtain⟨C,hC⟩:=exI k.next
 refine cU (a3 (a8 k f3)) (cQ (H.mk k.tr (k.next+6)) (z:= .aD) wx.1 wx.2.1) ?_
 obtain⟨h4,e4,n4,g4,o4⟩:=Ub k (k.next+6) (k.next+15) [vx]
 rw[e4]
 have a6:Fr k h4:=⟨om,λq P=>o4 q om⟩
 obtain⟨F,a5,p5⟩:=((ow.fr a6).le (fE _)).push (bytes:=24) (SV.one om g4 (.kn 1)) (n:=(cI Rp).length) (m:=1) om rfl om om om
 have n5:=p5.next
 have b9:=f3.next
 have vb: ∀id t m c,vs= .sl id t m c->l.next<=id:=λid t m c e=>(ow.in _ _ _ _ e).2.1
 have s:Fr l F:=⟨om,λq P=>by rw[p5.old q om (λid t m c e e2=>by have:=vb _ _ _ _ e;omega),o4 q om,f3.get q P]⟩
 have ec:dM lO lO=true/\dM lR lR=true:=by
  obtain⟨_,_,_,_,e,sO,_,_,sR,_,_⟩:=gc.cw;cases e;exact⟨SV.dM sO,SV.dM sR⟩
 refine gX a5 (a3 (a8 F s)) @ec.1 @ec.2 ?_
 have a0:Fx W1 h4 F:=p5.fx λid t m c e=>bk _ _ _ _ e
 have sw:SP F (.sl h4.next 0 ((cI Rp).length+1) (.un 1)) (cI Rp++ [L.getD i []]):=fG.EA (W:=λ_=>False) (p5.own om rfl (fE _)).sv (aJ.append (aJ.mono (λ_ _ p=>⟨SV.fx (p.si.mono a6) (W:=W1) p.off a0,sJ _⟩) pv) ⟨⟨A.mono (F2.trans s),sJ _⟩,trivial⟩)
 have le: ∀x,RG L r x->G x:=λx A=>by
  obtain⟨i,hi,rfl⟩:=A;exact (E.mem _).1 (aV ((nm.rk.mem i).1 hi).1)
 have o:G (L.getD i []):=(E.mem _).1 (aV hi)
 refine (QS _ _ n O R G (cI Rp++ [L.getD i []]) F (gc.mono (F2.trans s)) (by rw[iB];show _+1<=4096;omega) sw (λg hg=>(jO.1 hg).elim (λh=>N.cX.bM (cH N.isc h)) λh=>by rw[List.mem_singleton.1 h];exact hG.bM o)).mono ?_
 rintro _ h6 ⟨vr,O2,R2,rfl,J,f6⟩
 obtain⟨U,Y,rfl,a2,a7⟩:=J.shape
 have n6:=f6.next
 obtain⟨h7,e7,c1,g7,o7⟩:=Ub h6 (k.next+12) h6.next [aC 0,.aD,.aD]
 obtain⟨h8,e8,n8,g8,o8⟩:=lU h7 (k.next+12) [aC n,U,Y]
 refine kA e7 (bW h7 (k.next+12) 0 (v:= aC n) (u:=U) (w:=Y) rfl a2 a7) g7 @bQ e8 (aE g8) ?_
 have Z:Fr l h8:=⟨om,λq P=>by rw[o8 q om,o7 q om,f6.get q om,s.get q P]⟩
 have y:Fx (· =k.next+12) h6 h8:=⟨om,λq h1 l=>by rw[o8 q l,o7 q l]⟩
 have eN:=XQ hG b3 N.cX N.isc le o
 refine (TL T0 _ n O O2 R R2 G _ L K h8 (Dw.mono (F2.trans Z)) ((J.go (Fx.wide y λq (e:q=k.next+12)=>(by omega:q<F.next)) (W':=λ_=>False) λ_ _ h=>h.elim).congr eN) (λx A=>Gt.le hG le o A)).mono ?_
 rintro _ h9 ⟨vO,vR,vr,r',e9,rfl,sr,rk,b0,f9⟩
 obtain⟨rfl,rfl⟩:U=vO/\Y=vR:=by simpa using e9
 obtain rfl:=rk.uniq (xW _ _)
 have b4:=(SV.cM sr).2.1
 have Q:=Z.trans f9
 obtain⟨a9,b2,b8,b1,a1⟩:=lU h9 (B+1) [aC n,U,Y,vr]
 refine iT (mB h9 (B+1) 0 (a:= aC n) (b:=U) (c:=Y) (d:=vr) rfl a2 a7 b4) (gA h9 Q) @kY b2 (gZ b1) ?_
 have c0:=Q.next
 have b7:=f9.next
 have Fb:Fx (· =B+1) h9 a9:=⟨om,λq h1 l=>a1 q l⟩
 have b5: ∀x,Gt n G (RG L r) (L.getD i []) x->G x:=λx A=>Gt.le hG le o A
 have hw: ∀q,(q<B\/q=B+1)->q<h8.next:=λq P=>om
 have gq:=((((J.go (Fx.wide y λq (e:q=k.next+12)=>(by omega:q<F.next)) (W':=λq=>q<B\/q=B+1) λq _ h=>(by have:q<B\/q=B+1:=h;omega:q<F.next)).mono f9).go (Fx.wide Fb λq h=> .inr h) (W':=λq=>q<B) λq _ h=> .inl h).congr eN).congr (rk.iff E b5)
 have a4:=Gz.jK (W':=λq=>q<B\/q=B+1) b0 sr λq _ h=>hw q h
 refine⟨(U,Y,vr),rfl,⟨⟨O2,R2,gq⟩,SV.fx sr a4 (Fx.wide Fb λq h=> .inr h),Gz.jK a4 sr λq _ h=> .inl h,rk.self E⟩,⟨om,λq P=>by rw[a1 q om,Q.get q om];exact F2.get q P⟩⟩
section
variable {α:Type} {f:α->List V} {k:Nat}
theorem tH (b: ∀x,(f x).length=k): ∀ls:List α,(ls.flatMap f).length=ls.length*k
 | []=>by simp
 |a::l=>by rw[List.flatMap_cons,iB,b,tH b l,List.length_cons,Nat.succ_mul];omega
theorem Yu (b: ∀x,(f x).length=k):(ls:List α)->(i:Nat)->(hi:i<ls.length)->((ls.flatMap f).drop (i*k)).take k=f ls[i]
 |a::l,0,_=>by rw[List.flatMap_cons,Nat.zero_mul,List.drop_zero,<-b a,List.take_left];rfl
 |a::l,i+1,hi=>by
  have:=Yu b l i (by simpa using hi);rw[List.flatMap_cons,show (i+1)*k=(f a).length+i*k from by rw[b,Nat.succ_mul];omega,List.drop_append,List.drop_eq_nil_of_le om,List.nil_append,Nat.add_sub_cancel_left];exact this
theorem SV.rec {h:H}{v:V}(j:0<k)(l: ∀x,(f x).length=k){ls:List α}(s:SV h v k (ls.flatMap f)){i:Nat}(hi:i<ls.length): ∃id off,Sl v k ls.length id off/\h.row id (off+i*k) k=some (f ls[i])/\id<h.next:=by
 have b:=tH l ls;obtain⟨id,off,n,_,_⟩:=s.shape ls.length b j;refine⟨id,off,n,?_⟩;have q:(i+1)*k<=ls.length*k:=Nat.mul_le_mul_right k om;rw[Nat.succ_mul] at q;rcases s with ⟨_,s⟩|⟨d,c,len,u,w,y,rfl,m,p,t,z,r⟩
 .rw[s] at b
  have:0=ls.length*k:=b;omega
 .have e:=n.ixa .i64 0 om om
  obtain⟨rfl,rfl⟩:d=id/\c=off:=by
   have a:len=ls.length:=Nat.eq_of_mul_eq_mul_right j (m.symm.trans b);have o:0<len:=om
   simpa [El,o] using e
  have a:len=ls.length:=Nat.eq_of_mul_eq_mul_right j (m.symm.trans b);subst a;refine⟨?_,p⟩;unfold H.row;rw[t];simp only[sub];rw[bL om,<-Yu l ls i hi,<-r,List.drop_take,List.take_take,Nat.min_eq_left om,List.drop_drop]
end
abbrev Aa (n:Nat)(p:V×V×V):List V:= [aC n,p.1,p.2.1,p.2.2]
def wZ (n:Nat)(ps:List (V×V×V)):List V:=ps.flatMap (Aa n)
theorem pE (n:Nat)(ps:List (V×V×V)):(wZ n ps).length=ps.length*4:=tH (k:=4) (f:=Aa n) (λ_=>rfl) ps
theorem Rz (n:Nat)(a b:List (V×V×V)):wZ n (a++b)=wZ n a++wZ n b:=by unfold wZ;rw[List.flatMap_append]
theorem Qo {h:H}{v:V}{n:Nat}{ps:List (V×V×V)}(s:SV h v 4 (wZ n ps)){i:Nat}(hi:i<ps.length): ∃id off,Sl v 4 ps.length id off/\h.row id (off+i*4) 4=some [aC n,ps[i].1,ps[i].2.1,ps[i].2.2]/\id<h.next:=SV.rec (k:=4) (f:=Aa n) om (λ_=>rfl) s hi
theorem Ww {h:H}{v:V}{n:Nat}{ps:List (V×V×V)}(s:SV h v 4 (wZ n ps)):bH v=some (aC (ps.length:Int)):=by
 unfold bH;rw[SV.len s (n:=ps.length) (pE n ps) om];rfl
theorem EW (d:V)(F:Nat)(o:List V)(n:Nat)(ps:List (V×V×V))(P:Nat->Bool)(h:H)(sv:SV h d 4 (wZ n ps))(x:ps.length<1000000)(s: ∀i (hi:i<ps.length) hh,Fr h hh->Ev T F (Vb n ps[i]::o) hh (λv h'=>v= .bool (P i)/\Fr hh h')):
  Ev T 108 [d,.fn F [] o] h (λv h'=> ∃k:Int,v= aC k/\((k= -1/\ ∀i,i<ps.length->P i=false)\/ ∃i,i<ps.length/\k=(i:Int)/\P i=true/\ ∀j,j<i->P j=false)/\Fr h h'):=by
 have w:=Ww sv
 refine yF w ?_
 refine aH (λr a hh=> ∃(i:Nat),(∃g:Nat->V,a= [d,.fn F [] o,g 2,g 3,aC (ps.length:Int),aC i,g 6,g 7])/\i<=ps.length/\(∀j,j<i->P j=false)/\Fr h hh/\r=ps.length-i) ps.length
  ⟨0,aB rfl,fE _,λj q=>om,Fr.refl h,rfl⟩ ?_
 rintro r a hh ⟨i,⟨g,rfl⟩,hi,l,f,rfl⟩
 by_cases c:(i:Int)<(ps.length:Int)
 case neg=>
  have m:=bT c;refine bE m ?_;exact⟨_,rfl,.inl ⟨rfl,λj q=>l j om⟩,f⟩
 have m:=cJ c
 have b:i<ps.length:=om
 obtain⟨id,t,u,row,_⟩:=Qo (sv.mono f) b
 refine dQ m @u.ixa row ?_
 refine (s i b hh f).mono ?_
 rintro _ y ⟨rfl,p⟩
 cases hP:P i with
 |true=>
  refine aM ?_;exact⟨_,rfl,.inr ⟨i,b,rfl,hP,l⟩,f.trans p⟩
 |false=>
  refine aM ?_;rw[eJ i]
  exact⟨ps.length-(i+1),om,i+1,aB rfl,om,λj q=>by
   by_cases e:j=i
   .rw[e];exact hP
   .exact l j om,f.trans p,rfl⟩
theorem DX (c:V)(F:Nat)(a:List V)(n:Nat)(ps:List (V×V×V))(P:Nat->Bool)(h:H)(sv:SV h c 4 (wZ n ps))(m:ps.length<1000000)(j: ∀i (hi:i<ps.length) hh,Fr h hh->Ev T F (Vb n ps[i]::a) hh (λv h'=>v= .bool (P i)/\Fr hh h')):
  Ev T 54 [c,.fn F [] a] h (λv h'=>(∃b,v= .bool b/\(b=true↔ ∃i,i<ps.length/\P i=true))/\Fr h h'):=by
 refine nL ?_
 refine (EW c F a n ps P h sv m j).mono ?_
 rintro _ p ⟨k,rfl,d,f⟩
 refine aM ?_
 refine⟨⟨_,rfl,?_⟩,f⟩
 rcases d with ⟨rfl,o⟩|⟨i,hi,rfl,l,_⟩
 .refine⟨λh=>by simp at h,λ⟨i,hi,e⟩=>by rw[o i hi] at e;cases e⟩
 .exact⟨λ_=>⟨i,hi,l⟩,λ_=>cJ om⟩
theorem agV {a b:List Nat}:(zi a=zi b)=(a=b):=propext ⟨Qk,λh=>by rw[h]⟩
theorem acW (h:H){a b c d:V}(k:a.one=true)(j:b.one=true)(i:c.one=true)(f:d.one=true):mC h 4 [aC 0,.aD,.aD,.aD] 1 [(0,4,.agg [a,b,c,d])]=some (.sl h.next 0 1 (.kn 1),h.new (.cells false [a,b,c,d])):=by
 have e:dT [aC 0,.aD,.aD,.aD] (1*4)= [aC 0,.aD,.aD,.aD]:=rfl;simp [mC,iH,e,putAt,V.cells,k,j,i,f]
structure NmL (W:Nat->Prop)(n:Nat)(L:LN)(b:Nat)(h:H)(v:V)(rs:LN):Prop where
 ex: ∃ps,cW h v 4 (wZ n ps) b/\aJ (Nm (λq=>W q\/dG v q) n L h) ps rs/\ ∀id off m c,v= .sl id off m c->h.get id=some (.cells false (wZ n ps))
theorem NmL.mono {W:Nat->Prop}{n:Nat}{L:LN}{b:Nat}{h h':H}{v:V}{rs:LN}(m:NmL W n L b h v rs)(f:Fr h h'):NmL W n L b h' v rs:=by
 obtain⟨i,o,a,e⟩:=m.ex;exact⟨i,o.fr f,aJ.mono (λ_ _ x=>Nm.mono x f) a,λid j m c d=>by rw[f.get id (o.in _ _ _ _ d).1];exact e _ _ _ _ d⟩
theorem ZA {W:Nat->Prop}(n:Nat)(L:LN)(b Q:Nat)(k:V)(rs:LN)(p:V×V×V)(r:List Nat)(h:H)(m:NmL W n L b h k rs)(hb:b<=h.next)(P:Nm (λq=>W q\/dG k q) n L h p r)(hQ:h.get Q=some (.cells false [k]))(G:Q<h.next)(a7: ¬dG k Q)(a6:W Q)(hL:L.length<=5040)(hl:rs.length<1000000):
  Ev T 49 [.ptr Q 0,Vb n p] h (λv h'=>v= .tup []/\ ∃vl',h'.get Q=some (.cells false [vl'])/\NmL W n L b h' vl' (uC rs r)/\Fx (λq=>q=Q\/dG k q) h h'/\ ∀q,dG vl' q->dG k q\/h.next<=q):=by
 obtain⟨s,ow,al,_⟩:=m.ex
 obtain⟨o1,o2,o3⟩:=P.one
 have lp:=aJ.length al
 refine kV ?_
 obtain⟨B,hB⟩:=exI h.next
 obtain⟨F,e1,n1,g1,q1,J⟩:=dF hB [aC n,p.1,p.2.1,p.2.2]
 have a8:F.get Q=some (.cells false [k]):=by rw[J.get Q G];exact hQ
 simp(disch:=omega)only[go_sem,aI,gW h (a:= aC n) (b:=p.1) (c:=p.2.1) (d:=p.2.2) rfl o1 o2 o3,hB,e1,H.cell_of a8]
 have rl:=P.rk.short
 refine (DX k 104 [.ptr B 0] n s (λi=>decide (rs.getD i []=r)) F (ow.sv.mono J) om λi hi t f=>?_).mono ?_
 .have mi:=aJ.get al i hi om
  obtain⟨a1,a2,a3⟩:=mi.one
  have ri:=mi.rk.short
  have gB:t.get B=some (.cells false [aC n,p.1,p.2.1,p.2.2]):=by rw[f.get B om];exact g1
  refine kV ?_
  obtain⟨C,hC⟩:=exI t.next
  obtain⟨j,K,n2,g2,q2,z⟩:=dF hC [aC n,s[i].1,s[i].2.1,s[i].2.2]
  have a9:j.get B=some (.cells false [aC n,p.1,p.2.1,p.2.2]):=by rw[z.get B (by have:=f.next;omega)];exact gB
  simp(disch:=omega)only[go_sem,aI,gW t (a:= aC n) (b:=s[i].1) (c:=s[i].2.1) (d:=s[i].2.2) rfl a1 a2 a3,hC,K,H.cell_of g2,H.cell_of a9]
  refine (Wc _ _ (zi rs[i]) (zi r) j (mi.si.mono (J.trans (f.trans z))) (P.si.mono (J.trans (f.trans z))) (by rw[aL];omega) (by rw[aL];omega)).mono ?_
  rintro _ U ⟨rfl,f3⟩
  refine aM ?_
  refine⟨?_,z.trans f3⟩
  congr 1
  rw[decide_eq_decide,agV,List.getD,dC om]
  rfl
 rintro _ j ⟨⟨c,rfl,hc⟩,z⟩
 have F2:=J.trans z
 have O:c=true↔r∈rs:=by
  rw[hc];constructor
  .rintro⟨i,hi,e⟩
   rw[<-of_decide_eq_true e];exact aV om
  .intro hr
   obtain⟨i,hi,rfl⟩:=rV.1 hr;exact⟨i,om,cJ (by rw[List.getD,dC hi];rfl)⟩
 have A:j.get Q=some (.cells false [k]):=by rw[F2.get Q G];exact hQ
 cases c with
 |true=>
  refine aM ?_;refine⟨rfl,k,A,?_,Fx.of F2,λq h=> .inl h⟩;unfold uC;rw[bL (O.1 rfl)];exact m.mono F2
 |false=>
  have hn:r∉rs:=λh=>by have:=O.2 h;cases this
  have r4:j.row B 0 4=some [aC n,p.1,p.2.1,p.2.2]:=gZ (by rw[z.get B om];exact g1);obtain⟨U,e3,n3,g3,q3⟩:=Ub j (j.next+6) (j.next+11) [aC n,p.1,p.2.1,p.2.2]
  have a5:Fr j U:=⟨om,λq hq=>q3 q om⟩
  obtain⟨R,a4,N⟩:=((ow.fr (F2.trans a5)).le (fE _)).push (bytes:=80) (SV.all (sz:=4) (len:=1) (vs:=Aa n p) rfl om g3 (.kn 1)) (n:=s.length) (m:=1) (pE n s) rfl om om om;have n4:=N.next;have b0:=F2.next;have vb: ∀id l m c,k= .sl id l m c->b<=id/\id<h.next:=λid l m c e=>by have:=ow.in _ _ _ _ e;omega
  have a0:dS k Q:=λid l m c e K=>a7 (by rw[e,K];exact⟨_,_,_,rfl⟩)
  have Z:R.get Q=some (.cells false [k]):=by rw[N.old Q om a0,q3 Q om];exact A
  have pt:(t:H)->(u w:V)->eH (some (.cells false [u])) t Q 0 [w]=some (t.set Q (some (.cells false [w]))):=λt u w=>cF siM t _ _
  simp(disch:=omega)only[go_sem,H.cell_of A,r4,acW (H.mk j.tr (j.next+6)) (a:= aC n) (b:=p.1) (c:=p.2.1) (d:=p.2.2) rfl o1 o2 o3,e3,a4,Z,pt];obtain⟨Y,y⟩:=exI (R.set Q (some (Ob.cells false [V.sl U.next 0 (s.length+1) (uF.un 4)])));rw[y];have n5:Y.next=R.next:=by rw[<-y];rfl
  have o5: ∀q,q≠Q->Y.get q=R.get q:=λq hq=>by rw[<-y];exact H.aF _ hq _
  have fx:Fx (λq=>q=Q\/dG k q) h Y:=⟨om,λq F j=>by
   rw[o5 q λe=>j (.inl e),N.old q om (λid l m c e K=>j (.inr (by rw[e,K];exact⟨_,_,_,rfl⟩))),q3 q om,F2.get q F]⟩
  have fw:Fx (λq=>W q\/dG k q) h Y:=Fx.wide fx λq h=>h.imp (λe=>by rw[e];exact a6) id
  have wk: ∀q,q<h.next->(W q\/dG (V.sl U.next 0 (s.length+1) (uF.un 4)) q)->(W q\/dG k q):=λq F j=>j.elim .inl λ⟨l,m,c,e⟩=>by cases e;omega
  refine⟨rfl,_,rfl,?_,fx,λq ⟨l,m,c,e⟩=> .inr (by cases e;omega)⟩;unfold uC;rw[bV hn];refine⟨s++ [p],?_,aJ.append (aJ.mono (λ_ _ x=>Nm.go x fw wk) al) ⟨P.go fw wk,trivial⟩,λid l m c e=>?_⟩
  rotate_left
  .cases e
   rw[o5 _ om,Rz];exact N.get
  rw[Rz];exact (N.own (pE n s) rfl om).mono om λq o m c e _ F=>o5 q (by cases e;omega)
theorem FQ (u:V)(ws:List V)(m:Nat)(h:H)(a:ws.length=m*4)(z:0<m)(t:m<1000000)(c:SV h u 4 ws):
  Ev T 52 [u] h (λv h'=> ∃id cap rest,v= .sl id 0 m cap/\(cap= .un 4\/cap= .kn m/\rest= [])/\h.next<=id/\id<h'.next/\h'.get id=some (.cells false (ws++rest))/\Fr h h'):=by
 have j:uJ false u=some (.bool false):=by
  rcases c with ⟨_,rfl⟩|⟨id,l,len,cap,x,B,rfl,o⟩
  .simp at a;omega
  .rfl
 have d:Fr h (h.new (.cells false [])):=(Fr.refl h).new _
 have s:cW (h.new (.cells false [])) (.sl h.next 0 0 (.kn 0)) 4 [] h.next:=cW.new h 4 0 _ [] rfl (eU _)
 obtain⟨y,o,p,A⟩:=s.app (bytes:=80) (by rw[H.aZ];omega) (c.mono d) (n:=0) (m:=m) rfl a om om
 have i:mC h 4 [aC 0,.aD,.aD,.aD] 0 []=some (.sl h.next 0 0 (.kn 0),h.new (.cells false [])):=rfl
 refine Ku j i p ?_
 have fr:=A.fr _ d (eU _)
 rcases A.own with ⟨_,e⟩|⟨id,k,cap,rest,rfl,f,w,q,r,b⟩
 .rw[List.nil_append] at e
  rw[e] at a
  simp at a;omega
 .rw[List.nil_append] at f b
  obtain rfl:k=m:=Nat.eq_of_mul_eq_mul_right (by omega:0<4) (f.symm.trans a)
  exact⟨id,cap,rest,rfl,w,q,r,b,fr⟩
def oK {α:Type}(P:Nat->Bool)(l:List α):List α:=l.zipIdx.filterMap λx=>if P x.2 then none else some x.1
section
variable {α β:Type} {P:Nat->Bool}
theorem HY (l:List α)(a:α):oK P (l++ [a])=oK P l++if P l.length then [] else [a]:=by
 unfold oK;rw[List.zipIdx_append,List.filterMap_append];congr 1;simp only[List.zipIdx_singleton,Nat.zero_add,List.filterMap_cons,List.filterMap_nil];split
 .rename_i h
  split at h
  .rename_i c;rw[bL c]
  .cases h
 .rename_i b h
  split at h
  .cases h
  .rename_i c
   cases h;rw[bV c]
theorem qE {l:List α}{i:Nat}(hi:i<l.length):oK P (l.take (i+1))=oK P (l.take i)++if P i then [] else [l[i]]:=by
 rw[List.take_succ_eq_append_getElem hi,HY,wH,Nat.min_eq_left om]
theorem Ed {l:List α}:{i:Nat}->i<=l.length->(∀j,j<i->P j=false)->oK P (l.take i)=l.take i
 |0,_,_=>rfl
 |i+1,hi,h=>by
  rw[qE om,Ed om λj a=>h j om,bV (by rw[h i om];exact Bool.false_ne_true),List.take_succ_eq_append_getElem om]
theorem Zz {R:α->β->Prop}{l:List α}{m:List β}(a:aJ R l m):aJ R (oK P l) (oK P m):=by
 have c:=aJ.length a
 have b: ∀i,i<=l.length->aJ R (oK P (l.take i)) (oK P (m.take i)):=by
  intro i
  induction i with
  |zero=>exact λ_=>trivial
  |succ i ih=>
   intro hi;rw[qE om,qE om];refine aJ.append (ih om) ?_;split
   .trivial
   .exact⟨aJ.get a i om om,trivial⟩
 have:=b l.length (eU _);rwa [List.take_length,c,List.take_length] at this
end
section
variable {rest:List V} {k:Nat}
def MT (h:H)(sz:Nat)(zero:List V):V->Option (V×H)
 | .aD=>some (V.undef,h)
 | .emp _=>some (V.undef,h)
 | .sl id off len _=>if len=0 then some (V.undef,h) else
   if zero.length=sz/\zero.all V.one=true then (h.put id off (dT zero (len*sz))).map (λh'=>(V.undef,h')) else none
 |_=>none
theorem ED (ρ:X->V)(h:H)(sz:Nat)(zero:List V)(x:X):fJ ρ h (.clr sz zero x)=MT h sz zero (ρ x):=by
 simp only[fJ,MT]
 rfl
section
variable {α:Type} {f:α->List V} {s:Nat} (hf: ∀x,(f x).length=s)
include hf
theorem DF {ps:List α}{i:Nat}(hi:i<ps.length):sub (ps.flatMap f++rest) (i*s) s=some (f ps[i]):=by
 have e:=Yu hf ps i hi;have l:=tH hf ps;have a:(i+1)*s<=ps.length*s:=Nat.mul_le_mul_right s om;rw[Nat.succ_mul] at a;unfold sub;rw[bL (by rw[iB];omega),List.drop_append,List.take_append_of_le_length (by rw[Nx];omega)];exact congrArg some e
theorem DP {ps:List α}(b:k<ps.length)(p:α):putAt (ps.flatMap f++rest) (k*s) (f p)=some ((ps.set k p).flatMap f++rest):=by
 have l:=tH hf ps;have h:(k+1)*s<=ps.length*s:=Nat.mul_le_mul_right s om;rw[Nat.succ_mul] at h;have e:ps.take k++ [ps[k]]++ps.drop (k+1)=ps:=by rw[<-List.take_succ_eq_append_getElem b,List.take_append_drop]
 have m:ps.set k p=ps.take k++ [p]++ps.drop (k+1):=by rw[List.set_eq_take_append_cons_drop,bL b,pJ];rfl
 have d:=tH hf (ps.take k);rw[wH,Nat.min_eq_left om] at d;have a:=tH hf (ps.take k++ [ps[k]]);rw[iB,wH,Nat.min_eq_left om] at a;have a:((ps.take k++ [ps[k]]).flatMap f).length=(k+1)*s:=a;rw[Nat.succ_mul] at a;have c:ps.flatMap f++rest=(ps.take k++ [ps[k]]).flatMap f++((ps.drop (k+1)).flatMap f++rest):=by rw[<-pJ,<-List.flatMap_append,e]
 unfold putAt;rw[bL (by rw[iB,l,hf];omega)];refine congrArg some ?_
 have i:(ps.flatMap f++rest).take (k*s)=(ps.take k).flatMap f:=by
  rw[c,List.flatMap_append,pJ,<-d,List.take_left]
 have j:(ps.flatMap f++rest).drop (k*s+(f p).length)=(ps.drop (k+1)).flatMap f++rest:=by
  rw[c,hf,<-a,List.drop_left]
 rw[i,j,m,List.flatMap_append,List.flatMap_append,pJ,pJ,pJ];simp
end
section
variable {n:Nat}
theorem ZD {ps:List (V×V×V)}{i:Nat}(hi:i<ps.length):sub (wZ n ps++rest) (i*4) 4=some (Aa n ps[i]):=DF (s:=4) (f:=Aa n) (λ_=>rfl) hi
theorem abE {ps:List (V×V×V)}(a:k<ps.length)(p:V×V×V):putAt (wZ n ps++rest) (k*4) (Aa n p)=some (wZ n (ps.set k p)++rest):=DP (s:=4) (f:=Aa n) (λ_=>rfl) a p
theorem aaB {id m:Nat}{a:uF}(d:a= .un 4\/a= .kn m/\rest= [])(b:k<=m): ∃off cap',pI 4 (.sl id 0 m a) (some (aC k)) none none=some (.sl id off (m-k) cap')/\(k<m->off=k*4):=by
 rcases d with rfl|⟨rfl,_⟩
 .by_cases h:k<m
  .exact⟨k*4,_,by simp [pI,kT,b,h];rfl,λ_=>rfl⟩
  .exact⟨0,.un 4,by simp [pI,kT,b,h];omega,λc=>absurd c h⟩
 .by_cases h:m=k
  .exact⟨0,_,by simp [pI,kT,b,h];rfl,λc=>om⟩
  .exact⟨k*4,_,by simp [pI,kT,b,h];rfl,λ_=>rfl⟩
theorem aaP {id m:Nat}{a:uF}(d:a= .un 4\/a= .kn m/\rest= [])(b:k<=m)(c:0<m): ∃cap',pI 4 (.sl id 0 m a) none (some (aC k)) none=some (.sl id 0 k cap'):=by
 rcases d with rfl|⟨rfl,_⟩
 .exact⟨_,by simp [pI,kT,b,c];rfl⟩
 .exact⟨_,by simp [pI,kT,b,show m≠0 by omega];rfl⟩
end
theorem abK (id m:Nat)(r:uF)(rest:List V)(F:Nat)(cs:List V)(n:Nat)(ps:List (V×V×V))(P:Nat->Bool)(h:H)(Q:id<h.next)(hg:h.get id=some (.cells false (wZ n ps++rest)))(hc:r= .un 4\/r= .kn m/\rest= [])(hm:ps.length=m)(h0:0<m)(y:m<1000000)(one: ∀p∈ps,p.1.one=true/\p.2.1.one=true/\p.2.2.one=true)(hf: ∀i (hi:i<ps.length) hh,Fx (· =id) h hh->Ev T F (Vb n ps[i]::cs) hh (λv h'=>v= .bool (P i)/\Fr hh h')):
  Ev T 51 [.sl id 0 m r,.fn F [] cs] h (λv h'=>SV h' v 4 (wZ n (oK P ps))/\Fx (· =id) h h'):=by
 have sv:SV h (.sl id 0 m r) 4 (wZ n ps):= .inr ⟨id,0,m,r,false,_,rfl,by rw[pE,hm],Q,hg,by rw[iB,pE];omega,by rw[List.drop_zero,List.take_append_of_le_length (by rw[pE];omega),<-hm,<-pE n ps,List.take_length]⟩
 refine nL ?_
 refine (EW _ F cs n ps P h sv om λi hi hh f=>hf i hi hh (Fx.of f)).mono ?_
 rintro _ t ⟨k,rfl,G,L⟩
 rcases G with ⟨rfl,hn⟩|⟨Z,a2,rfl,O,hn⟩
 .simp(disch:=omega)only[go_sem,eq_self,decide_true]
  have e:oK P ps=ps:=by
   have:=Ed (P:=P) (l:=ps) (eU _) hn;rwa [List.take_length] at this
  rw[e]
  exact⟨sv.mono L,Fx.of L⟩
 have d0:decide ((Z:Int)= -1)=false:=bT om
 refine bE d0 ?_
 rw[eJ Z]
 refine aH (λk' w hh=> ∃(i k:Nat) (o:List (V×V×V)),(∃g:Nat->V,w= [.sl id 0 m r,.fn F [] cs,g 2,aC k,aC i,g 5,g 6,g 7,g 8])/\i<=m/\o.length=m/\k<=i/\o.take k=oK P (ps.take i)/\o.drop i=ps.drop i/\hh.get id=some (.cells false (wZ n o++rest))/\Fx (· =id) h hh/\k'=m-i) (m-(Z+1))
  ⟨Z+1,Z,ps,aB rfl,om,hm,om,?_,rfl,by rw[L.get id Q];exact hg,Fx.of L,rfl⟩ ?_
 .rw[qE a2,Ed om hn,bL O,qV]
 clear hn O d0 L
 rintro k' w hh ⟨i,k,o,⟨g,rfl⟩,hi,lc,ki,G,hd,gc,F2,rfl⟩
 by_cases U:(i:Int)<(m:Int)
 case neg=>
  have d1:=bT U;obtain rfl:i=m:=om
  obtain⟨a4,cp,s1,s2⟩:=aaB (id:=id) hc ki;obtain⟨K,s3⟩:=aaP (id:=id) hc ki h0;rw[<-hm,List.take_length] at G;have n2:=F2.next;have l4:=pE n o
  have W: ∀z u,z.next=hh.next->z.get id=some (.cells false u)->u.take (k*4)=wZ n (o.take k)->k*4<=u.length->SV z (.sl id 0 k K) 4 (wZ n (oK P ps)):=λz u e1 e2 e3 e4=>by
   rw[<-G];exact .inr ⟨id,0,k,K,false,u,rfl,by rw[pE,wH];rw[Nat.min_eq_left om],om,e2,om,by rw[List.drop_zero];exact e3⟩
  have t4:(wZ n o++rest).take (k*4)=wZ n (o.take k):=by
   have e:wZ n o=wZ n (o.take k)++wZ n (o.drop k):=by rw[<-Rz,List.take_append_drop]
   have l1:=pE n (o.take k);rw[wH,Nat.min_eq_left om] at l1;rw[e,pJ,List.take_append_of_le_length om,<-l1,List.take_length]
  by_cases e:k=i
  .have cz:MT hh 4 [aC 0,.aD,.aD,.aD] (.sl id a4 (i-k) cp)=some (V.undef,hh):=by simp [MT,e]
   refine iT d1 s1 @ED cz s3 ?_;exact⟨W hh _ rfl gc t4 (by rw[iB];omega),F2⟩
  .obtain rfl:=s2 om
   have zl:(dT [aC 0,.aD,.aD,.aD] ((i-k)*4)).length=(i-k)*4:=by simp [dT]
   obtain⟨u,A⟩:=exI ((wZ n o++rest).take (k*4)++dT [aC 0,.aD,.aD,.aD] ((i-k)*4)++(wZ n o++rest).drop (k*4+(i-k)*4));have ik:k*4+(i-k)*4=i*4:=by rw[<-Nat.add_mul];congr 1;omega
   have pa:putAt (wZ n o++rest) (k*4) (dT [aC 0,.aD,.aD,.aD] ((i-k)*4))=some u:=by
    unfold putAt;rw[zl,bL (by rw[iB];omega),A]
   have a1:((wZ n o++rest).take (k*4)).length=k*4:=by rw[wH,Nat.min_eq_left (by rw[iB];omega)]
   have tv:u.take (k*4)=wZ n (o.take k):=by rw[<-A,pJ,List.take_append_of_le_length om,Bo om,t4]
   have cz:MT hh 4 [aC 0,.aD,.aD,.aD] (.sl id (k*4) (i-k) cp)=some (V.undef,hh.set id (some (.cells false u))):=by
    show (if i-k=0 then _ else if _ then _ else none)=_;rw[bV om,bL ⟨rfl,rfl⟩];unfold H.put;rw[gc];simp only[pa,Option.map_some]
   refine iT d1 s1 @ED cz s3 ?_;exact⟨W _ u rfl (H.aW _ _ _) tv (by rw[<-A,iB,iB,a1];omega),⟨n2,λq y t=>by rw[H.aF _ t];exact F2.get q y t⟩⟩
 have d1:=cJ U
 have a0:i<m:=om
 have ix: ∀j:Nat,j<m->El 4 (.sl id 0 m r) (aC j)=some (.ptr id (j*4)):=λj hj=>by simp [El,hj]
 have lP:i<ps.length:=om
 have ci:o[i]'om=ps[i]:=by
  have:=congrArg (λl=>l[0]?) hd;simp only[List.getElem?_drop,Nat.add_zero] at this;rw[dC om,dC lP] at this;exact Option.some.inj this
 have R:hh.row id (i*4) 4=some (Aa n ps[i]):=by
  rw[<-ci];unfold H.row;rw[gc];exact ZD om
 obtain⟨o1,o2,o3⟩:=one _ (pN lP)
 have fi:=hf i lP
 have Y:oK P (ps.take (i+1))=oK P (ps.take i)++if P i then [] else [ps[i]]:=qE lP
 generalize ps[i]=p at R o1 o2 o3 fi Y ci
 obtain⟨B,hB⟩:=exI hh.next
 obtain⟨z,e3,n3,g3,q3,f3⟩:=dF hB [aC 0,.aD,.aD,.aD]
 obtain⟨h4,e4,n4,g4,q4⟩:=lU z B (Aa n p)
 have n2:=F2.next
 have N:Fr hh h4:=⟨om,λq hq=>by rw[q4 q om,q3 q om]⟩
 have F4:Fx (· =id) h h4:=⟨om,λq y t=>by rw[N.get q om];exact F2.get q y t⟩
 simp(disch:=omega)only[go_sem,d1,ix i a0,R,hB,e3,mB z B 0 (a:= aC n) (b:=p.1) (c:=p.2.1) (d:=p.2.2) rfl o1 o2 o3,g3,kY,e4,gZ g4]
 refine (fi h4 F4).mono ?_
 rintro _ J ⟨rfl,f5⟩
 have F5:Fx (· =id) h J:=⟨by have:=f5.next;omega,λq y t=>by rw[f5.get q om];exact F4.get q y t⟩
 have g5:J.get id=some (.cells false (wZ n o++rest)):=by rw[f5.get id om,N.get id om];exact gc
 have a3:J.get B=some (.cells false (Aa n p)):=by rw[f5.get B om];exact g4
 cases O:P i with
 |true=>
  rw[O,bL rfl,qV] at Y;refine aM ?_;rw[eJ i];exact⟨m-(i+1),om,i+1,k,o,aB rfl,om,lc,om,by rw[G,Y],by rw[<-List.drop_drop,hd,List.drop_drop],g5,F5,rfl⟩
 |false=>
  rw[O,bV siM] at Y
  have pt:eH (some (.cells false (wZ n o++rest))) J id (k*4) (Aa n p)=some (J.set id (some (.cells false (wZ n (o.set k p)++rest)))):=by
   have:=abE (n:=n) (ps:=o) (rest:=rest) (k:=k) om p;simp only[eH,this,Option.map_some]
  simp(disch:=omega)only[go_sem,gZ a3,ix k om,mB J id (k*4) (a:= aC n) (b:=p.1) (c:=p.2.1) (d:=p.2.2) rfl o1 o2 o3,g5,pt];rw[show (i:Int)+1=((i+1:Nat):Int) from om,show (k:Int)+1=((k+1:Nat):Int) from om];have lk:k<o.length:=om
  refine⟨m-(i+1),om,i+1,k+1,o.set k p,aB rfl,om,by rw[List.length_set];exact lc,om,?_,?_,rfl,⟨by have:=F5.next;simp only[H.dE];omega,λq y t=>by rw[H.aF _ t];exact F5.get q y t⟩,rfl⟩
  .rw[List.take_succ_eq_append_getElem (by rw[List.length_set];exact lk),List.getElem_set_self,List.take_set_of_le (eU _),G,Y]
  .rw[List.drop_set_of_lt om,<-List.drop_drop,hd,List.drop_drop]
end
def Bw:List Nat->List Nat->Int
 | [], []=>0
 | [],_::_=> -1
 |_::_, []=>1
 |a::l,b::m=>if a=b then Bw l m else Cls.qY a b
theorem Rl:(a b:List Nat)->Bw a b<0↔lexB a b=true
 | [], []=>by simp [Bw,lexB]
 | [],_::_=>by simp [Bw,lexB]
 |_::_, []=>by simp [Bw,lexB]
 |a::l,b::m=>by
  unfold Bw lexB;split
  .exact Rl l m
  .unfold Cls.qY
   rw[tU];split
   .omega
   .split<;>omega
theorem ZS (w A:V)(a b:List Nat)(h:H)(N:SI h w (zi a))(J:SI h A (zi b))(U:a.length<1000000)(Y:b.length<1000000):
  Ev T 109 [w,A] h (λv h'=>v= aC (Bw a b)/\Fr h h'):=by
 have x:=N.lens
 have lb:=J.lens
 rw[aL] at x lb
 obtain⟨id,G,z,u,P⟩:=N.open
 obtain⟨F,q,t,k,s⟩:=J.open
 rw[aL] at z u P t k s
 refine Px x lb ?_
 refine aH (λK l r=> ∃(i:Nat),(∃g:Nat->V,l= [w,A,g 2,g 3,g 4,g 5,g 6,w,aC (a.length:Int),aC i,g 10,g 11,g 12,g 13])/\i<=a.length/\i<=b.length/\Bw a b=Bw (a.drop i) (b.drop i)/\Fr h r/\K=a.length-i) a.length
  ⟨0,aB rfl,fE _,fE _,rfl,Fr.refl h,rfl⟩ ?_
 rintro K l r ⟨i,⟨g,rfl⟩,hi,Q,d,f,rfl⟩
 by_cases n:(i:Int)<(a.length:Int)
 case neg=>
  have p:=bT n;rw[List.drop_eq_nil_of_le om] at d
  by_cases o:(a.length:Int)<(b.length:Int)
  .have m:=cJ o
   rw[Ij (show i<b.length by omega)] at d;refine gX p x lb m ?_;exact⟨by rw[d];rfl,f⟩
  .have m:=bT o
   rw[List.drop_eq_nil_of_le om] at d;refine gX p x lb m ?_;exact⟨by rw[d];rfl,f⟩
 have p:=cJ n
 have j:i<a.length:=om
 have B:r.cell id (G+i)=some (aC (a.getD i 0:Nat)):=by rw[f.cell (u om),P i j];congr 2;simp [zi,j]
 rw[Ij j] at d
 have W:a.getD i 0=a[i]:=by rw[List.getD,dC j];rfl
 by_cases o:(b.length:Int)<=(i:Int)
 .have m:=cJ o
  rw[show b.drop i= [] from List.drop_eq_nil_of_le om] at d
  refine iT p @z.ixa B lb m ?_
  exact⟨by rw[d];rfl,f⟩
 have m:=bT o
 have c:i<b.length:=om
 have L:r.cell F (q+i)=some (aC (b.getD i 0:Nat)):=by rw[f.cell (k om),s i c];congr 2;simp [zi,c]
 rw[Ij c] at d
 have R:b.getD i 0=b[i]:=by rw[List.getD,dC c];rfl
 rw[W] at B
 rw[R] at L
 refine uA p @z.ixa B lb m @t.ixa L ?_
 refine (Cls.vY _ _ r).mono ?_
 rintro _ Z ⟨rfl,O⟩
 rw[show Bw (a[i]::a.drop (i+1)) (b[i]::b.drop (i+1))=if a[i]=b[i] then Bw (a.drop (i+1)) (b.drop (i+1)) else Cls.qY a[i] b[i] from rfl] at d
 by_cases e:a[i]=b[i]
 .rw[bL e] at d
  have y:decide (Cls.qY (a[i]:Int) (b[i]:Int)≠0)=false:=bT (by rw[e];unfold Cls.qY;rw[bV om,bV om];omega)
  refine bE y ?_
  rw[eJ i]
  exact⟨a.length-(i+1),om,i+1,aB rfl,om,om,d,f.trans O,rfl⟩
 .rw[bV e] at d
  have y:decide (Cls.qY (a[i]:Int) (b[i]:Int)≠0)=true:=cJ (by unfold Cls.qY;split;omega;split<;>omega)
  refine bE y ?_
  exact⟨by rw[d],f.trans O⟩
section
variable {W W':Nat->Prop} {L:LN} {h:H} {p q:V×V×V} {a b:List Nat}
theorem CV (n:Nat)(Q:L.length<=5040)(l:Nm W n L h p a)(k:Nm W' n L h q b):
  Ev T 58 [Vb n p,Vb n q] h (λv h'=>v= aC (Bw a b)/\Fr h h'):=by
 obtain⟨N,F,u⟩:=l.one
 obtain⟨s,z,J⟩:=k.one
 have O:=l.rk.short
 have lb:=k.rk.short
 refine kV ?_
 obtain⟨B,r⟩:=exI h.next
 obtain⟨A,x,o,t,R,j⟩:=dF r [aC n,p.1,p.2.1,p.2.2]
 obtain⟨m,G,U,w,K,f⟩:=dF o [aC n,q.1,q.2.1,q.2.2]
 have i:m.get B=some (.cells false (Aa n p)):=by rw[K B om];exact t
 simp(disch:=omega)only[go_sem,aI,gW h (a:= aC n) (b:=p.1) (c:=p.2.1) (d:=p.2.2) rfl N F u,r,x,gW A (a:= aC n) (b:=q.1) (c:=q.2.1) (d:=q.2.2) rfl s z J,o,G,H.cell_of i,H.cell_of w]
 refine (ZS _ _ a b m (l.si.mono (j.trans f)) (k.si.mono (j.trans f)) om om).mono ?_
 rintro _ P ⟨rfl,y⟩
 refine aM ?_
 exact j.trans (f.trans y)
theorem XG (n:Nat)(hL:L.length<=5040)(w:Nm W n L h p a)(u:Nm W' n L h q b):
  Ev T 56 [Vb n p,Vb n q] h (λv h'=>v= .bool (a.all λi=>decide (i∈b))/\Fr h h'):=by
 obtain⟨o1,o2,o3⟩:=w.one
 obtain⟨u1,u2,u3⟩:=u.one
 have la:=w.rk.short
 have lb:=u.rk.short
 refine kV ?_
 obtain⟨B,Y⟩:=exI h.next
 obtain⟨h1,e1,R,g1,q1,f1⟩:=dF Y [aC n,p.1,p.2.1,p.2.2]
 obtain⟨z,e2,n2,Z,q2,f2⟩:=dF R [aC n,q.1,q.2.1,q.2.2]
 have G:z.get B=some (.cells false (Aa n p)):=by rw[q2 B om];exact g1
 have F2:=f1.trans f2
 have U:=w.si.lens
 rw[aL] at U
 obtain⟨id,F,J,t,K⟩:=w.si.open
 rw[aL] at J t K
 simp(disch:=omega)only[go_sem,aI,gW h (a:= aC n) (b:=p.1) (c:=p.2.1) (d:=p.2.2) rfl o1 o2 o3,Y,e1,gW h1 (a:= aC n) (b:=q.1) (c:=q.2.1) (d:=q.2.2) rfl u1 u2 u3,R,e2,H.cell_of G,U]
 refine aH (λN l s=> ∃(i:Nat),(∃g:Nat->V,l= [g 0,g 1,g 2,.ptr (B+1) 0,.bool false,g 5,g 6,p.2.2,aC (a.length:Int),aC i,g 10,g 11])/\i<=a.length/\(∀j (y:j<i) (O:j<a.length),a[j]∈b)/\Fr z s/\N=a.length-i) a.length
  ⟨0,aB rfl,fE _,λj y=>om,Fr.refl z,rfl⟩ ?_
 rintro N l s ⟨i,⟨g,rfl⟩,hi,P,f,rfl⟩
 by_cases o:(i:Int)<(a.length:Int)
 case neg=>
  have A:=bT o;refine bE A ?_;refine⟨?_,F2.trans f⟩;congr 1;refine (vE.2 λx hx=>?_).symm;obtain⟨j,y,rfl⟩:=rV.1 hx;exact cJ (P j om y)
 have A:=cJ o
 have r:i<a.length:=om
 have c1:s.cell id (F+i)=some (aC (a[i]:Nat)):=by rw[(F2.trans f).cell (t om),K i r];congr 2;simp [zi,r]
 have gq:s.get (B+1)=some (.cells false (Aa n q)):=by rw[f.get _ om];exact Z
 simp(disch:=omega)only[go_sem,A,J.ixa,c1,H.cell_of gq]
 refine (Av q.2.2 b a[i] s om u.rk.asc (u.si.mono (F2.trans f))).mono ?_
 rintro _ h3 ⟨k,c,rfl,m,_,Q⟩
 cases c with
 |true=>
  simp(disch:=omega)only[go_sem,Bool.not_true];rw[eJ i]
  exact⟨a.length-(i+1),om,i+1,aB rfl,om,λj y O=>by
   by_cases e:j=i
   .subst e;exact m.1 rfl
   .exact P j om O,f.trans Q,rfl⟩
 |false=>
  simp(disch:=omega)only[go_sem,Bool.not_false];refine⟨?_,F2.trans (f.trans Q)⟩;congr 1;refine (List.all_eq_false.2 ⟨a[i],pN _,?_⟩).symm;rw[tU];exact λh=>by have:=m.2 h;cases this
theorem ZR (n B:Nat)(O:L.length<=5040)(m:Nm W n L h p a)(l:Nm W' n L h q b)(N:h.get B=some (.cells false (Aa n q)))(Z:B<h.next):
  Ev T 55 [Vb n p,.ptr B 0] h (λv h'=>v= .bool (decide (a.length<b.length)&&a.all λi=>decide (i∈b))/\Fr h h'):=by
 obtain⟨F,A,y⟩:=m.one
 obtain⟨P,U,u3⟩:=l.one
 have Q:=m.rk.short
 have lb:=l.rk.short
 refine kV ?_
 obtain⟨C,r⟩:=exI h.next
 obtain⟨K,z,Y,s,J,k⟩:=dF r [aC n,p.1,p.2.1,p.2.2]
 have t:B≠C:=om
 have f:K.get B=some (.cells false (Aa n q)):=by rw[J B t];exact N
 have x:=m.si.lens
 rw[aL] at x
 have u:=l.si.lens
 rw[aL] at u
 by_cases j:(a.length:Int)<(b.length:Int)
 case neg=>
  have w:=bT j;have o:decide (a.length<b.length)=false:=bT om;simp(disch:=omega)only[go_sem,aI,gW h (a:= aC n) (b:=p.1) (c:=p.2.1) (d:=p.2.2) rfl F A y,r,z,H.cell_of f,H.cell_of s,x,u,w,o,Bool.false_and];exact k
 .have w:=cJ j
  have o:decide (a.length<b.length)=true:=cJ om
  simp(disch:=omega)only[go_sem,aI,gW h (a:= aC n) (b:=p.1) (c:=p.2.1) (d:=p.2.2) rfl F A y,r,z,H.cell_of f,H.cell_of s,x,u,w,gZ f,gZ s]
  refine (XG n O (m.mono k) (l.mono k)).mono ?_
  rintro _ R ⟨rfl,G⟩
  simp(disch:=omega)only[go_sem,o,Bool.true_and]
  exact k.trans G
end
theorem RQ (l:List Nat):lexB l []=false:=by cases l<;>rfl
theorem KF {a b:List Nat}{i:Nat}(c:i<a.length)(d:i<b.length):lexB (a.drop i) (b.drop i)=if a[i]=b[i] then lexB (a.drop (i+1)) (b.drop (i+1)) else decide (a[i]<b[i]):=by
 rw[Ij c,Ij d,lexB]
theorem VM (F z:V)(a b:List Nat)(h:H)(N:SI h F (zi a))(O:SI h z (zi b))(Y:a.length<=5040)(lb:b.length<=5040):
  Ev T 64 [F,z] h (λv h'=>v= .bool (lexB a b)/\Fr h h'):=by
 have c:=N.lens
 have d:=O.lens
 rw[aL] at c d
 obtain⟨U,W,J,p,l⟩:=N.open
 obtain⟨R,Q,w,m,k⟩:=O.open
 rw[aL] at J p l w m k
 refine nL ?_
 refine aH (λL j s=> ∃(i:Nat),(∃g:Nat->V,j= [F,z,g 2,.int .i64 (i:Int),g 4,g 5])/\i<=a.length/\i<=b.length/\lexB a b=lexB (a.drop i) (b.drop i)/\Fr h s/\L=a.length-i) a.length
  ⟨0,aB rfl,fE _,fE _,by rw[List.drop_zero,List.drop_zero],Fr.refl h,rfl⟩ ?_
 rintro L j s ⟨i,⟨g,rfl⟩,hi,P,e,f,rfl⟩
 by_cases K:(i:Int)<(a.length:Int)
 case neg=>
  have n:decide ((i:Int)<(a.length:Int))=false:=decide_eq_false K;obtain rfl:i=a.length:=om
  refine dQ c d n ?_;refine⟨?_,f⟩;rw[e,List.drop_length];congr 1
  by_cases r:a.length<b.length
  .rw[Ij r];exact decide_eq_true om
  .rw[List.drop_eq_nil_of_le om];exact decide_eq_false om
 have n:decide ((i:Int)<(a.length:Int))=true:=decide_eq_true K
 have G:i<a.length:=om
 by_cases r:(i:Int)<(b.length:Int)
 case neg=>
  have q:decide ((i:Int)<(b.length:Int))=false:=decide_eq_false r;refine gX c d n q ?_;refine⟨?_,f⟩;rw[e,List.drop_eq_nil_of_le (by omega:b.length<=i),RQ];congr 1;exact decide_eq_false om
 have q:decide ((i:Int)<(b.length:Int))=true:=decide_eq_true r
 have u:i<b.length:=om
 have A:s.cell U (W+i)=some (.int .i64 ((a[i]:Nat):Int)):=by rw[f.cell (p om),l i G];congr 2;simp [zi,G]
 have B:s.cell R (Q+i)=some (.int .i64 ((b[i]:Nat):Int)):=by rw[f.cell (m om),k i u];congr 2;simp [zi,u]
 rw[KF G u] at e
 generalize a[i]=x at A e
 generalize b[i]=y at B e
 by_cases o:x=y
 .have t:decide ((x:Int)≠(y:Int))=false:=decide_eq_false om
  rw[bL o] at e
  refine uG c d n q @J.ixa @w.ixa A B t ?_
  rw[show (i:Int)+1=((i+1:Nat):Int) from om]
  exact⟨a.length-(i+1),om,i+1,aB rfl,om,om,e,f.bU om,rfl⟩
 .have t:decide ((x:Int)≠(y:Int))=true:=decide_eq_true om
  rw[bV o] at e
  refine uG c d n q @J.ixa @w.ixa A B t ?_
  refine⟨?_,?_⟩
  .rw[e];congr 1;simp only[Int.ofNat_lt]
  .exact f.bU om
theorem ES {α:Type}{f:Nat->List α}{s im k:Nat}{x:α}(j:(f im)[k]? =some x):{l:List Nat}->l.Pairwise (· < ·)->(∀a∈l,(f a).length=s)->im∈l->
  (l.flatMap f)[(l.filter λa=>decide (a<im)).length*s+k]? =some x
 | [],_,_,hm=>by cases hm
 |a::l,pw,hs,hm=>by
  obtain⟨m,q⟩:=List.pairwise_cons.1 pw;rw[List.flatMap_cons]
  by_cases e:a=im
  .subst e
   have n:(a::l).filter (λb=>decide (b<a))= []:=by
    refine List.filter_eq_nil_iff.2 λb d=>?_
    rw[tU];rcases uL.1 d with e|d
    .omega
    .have:=m b d;omega
   rw[n,List.length_nil,Nat.zero_mul,Nat.zero_add,wU (rW.1 j).1];exact j
  .have c:im∈l:=(uL.1 hm).resolve_left λh=>e h.symm
   have i:=m im c;have o:=ES j q (λb d=>hs b (tX _ d)) c;rw[List.filter_cons_of_pos (p:=λb=>decide (b<im)) (decide_eq_true i),List.length_cons,zT (by rw[hs a sZ,Nat.add_mul];omega),hs a sZ];rw[<-o];congr 1;rw[Nat.add_mul];omega
section
variable {n:Nat} {G:List Nat->Prop} {O:List (List Nat)} {R:List (List (List Nat))} {u x:List Nat} {i d:Nat}
theorem IG (l:eM n G)(c:bA n G O R)(h:i+(d+1)=n)(U:aY n u)(v:x∈bZ O R (d+1) i u):
  x.getD i 0∈eY O u i/\x∈bZ O R d (i+1) (gO O R u i (x.getD i 0))/\ ∀k,(bZ O R d (i+1) (gO O R u i (x.getD i 0)))[k]? =some x->
   (bZ O R (d+1) i u)[((eY O u i).filter λa=>decide (a<x.getD i 0)).length*iC O d (i+1)+k]? =some x:=by
 have t: ∀a,a∈iR (eY O u i)↔a∈eY O u i:=λa=>(fX _).mem_iff
 have hi:i<n:=om
 unfold bZ at v
 obtain⟨o,m,w⟩:=List.mem_flatMap.1 v
 have j:=(t o).1 m
 obtain⟨q,K,_,_,_,_,p,A,_⟩:=lY l c U hi j
 obtain⟨g,z,y,e⟩:=((uI l c d (i+1) _ om p).1 x).1 w
 have J:x.getD i 0=o:=by
  rw[e,dI (by rw[(l.bM z).len];exact hi),y i om,A]
 rw[J]
 refine⟨j,w,λk B=>?_⟩
 have r:(iR (eY O u i)).Pairwise (· < ·):=by
  have nd:(iR (eY O u i)).Nodup:=(fX _).nodup_iff.2 (Aq l c U hi);rw[Xz] at nd;exact ((zB _).and nd).imp λ⟨a,b⟩=>om
 have:=ES (f:=λo=>bZ O R d (i+1) (gO O R u i o)) (s:=iC O d (i+1)) B r (λa F=>by
  obtain⟨_,_,_,_,_,_,p,_⟩:=lY l c U hi ((t a).1 F)
  exact (uI l c d (i+1) _ om p).2.2) m
 rw[((fX (eY O u i)).filter _).length_eq] at this
 exact this
end
theorem Xq (vc vx:V)(n:Nat)(O:LN)(R:iA)(G:List Nat->Prop)(x:List Nat)(h:H)(e9:1<=n)(hn:n<=64)(hG:eM n G)(o:bA n G O R)(hc:Hd h vc (n:Int) (O.map zi) (R.map (List.map zi)))(hx:SI h vx (zi x))(X:aY n x):
  Ev T 114 [vc,vx] h (λv h'=> ∃vr lv,v= .tup [vr,aC lv]/\(lv=(n:Int)↔G x)/\lv<=(n:Int)/\Fr h h'):=by
 obtain⟨vO,vR,rfl,sO,sR⟩:=hc
 obtain⟨f0,eO,cO,b2,d6,b1,wO,a2,P⟩:=mI sO
 obtain⟨f7,eR,cR,c7,d0,c0,wR,b9,Q⟩:=sU sR
 rw[fL,o.lo] at a2 P
 rw[fL,o.lr] at b9 Q
 obtain⟨B,hB⟩:=exI h.next
 obtain⟨h1,e1,n1,g1,o1,f1⟩:=dF hB [aC n,vO,vR]
 have bx:=aU h (v:= aC n) (u:=vO) (w:=vR) rfl b2 c7
 refine Ku bx hB e1 ?_
 refine aH (λk' r hh=> ∃(i:Nat) (vy:V) (y:List Nat),(∃g:Nat->V,r= [g 0,vy,.ptr B 0,g 3,g 4,aC i,g 6,g 7,g 8,g 9])/\i<=n/\SI hh vy (zi y)/\aY n y/\Fix i y/\(G y↔G x)/\Fr h1 hh/\k'=n-i) n
  ⟨0,vx,x,aB rfl,fE _,hx.mono f1,X,λk hk=>om,Iff.rfl,Fr.refl _,rfl⟩ ?_
 rintro k' r h2 ⟨i,vy,y,⟨g,rfl⟩,hi,sy,Y,U,a5,F2,rfl⟩
 have g2:h2.get B=some (.cells false [aC n,vO,vR]):=by rw[F2.get B om];exact g1
 have d9:(zi y).length=n:=by rw[aL,Y.len]
 by_cases b5:(i:Int)<(n:Int)
 case neg=>
  have d1:=bT b5;obtain rfl:i=n:=om
  have ey:=sy.dM;simp(disch:=omega)only[go_sem,H.cell_of g2,d1,ey];refine (Rq vy (zi y) _ (sy.mono ((Fr.refl h2).bU om)) om).mono ?_;rintro v K ⟨ow,f3,_⟩;have g3:K.get B=some (.cells false [aC i,vO,vR]):=by rw[f3.get B (by have:=F2.next;show B<h2.next+_;omega)];exact g2
  simp(disch:=omega)only[go_sem,H.cell_of g3];exact⟨v,i,rfl,⟨λ_=>a5.1 (by rw[U.all Y];exact hG.one),λ_=>rfl⟩,Int.le_refl _,(f1.trans F2).trans (((Fr.refl h2).bU om).trans f3)⟩
 have d1:=cJ b5
 have f:i<n:=om
 have F:=f1.trans F2
 obtain⟨bO,c1,a0⟩:=P i f
 obtain⟨bR,c3,a4⟩:=Q i f
 rw[fO zi (d:= []) (by rw[o.lo];exact f)] at a0
 rw[fO (List.map zi) (d:= []) (by rw[o.lr];exact f)] at a4
 generalize wO.getD i V.undef=vo at c1 a0
 generalize wR.getD i V.undef=vr at c3 a4
 obtain⟨a1,eo,e8,e6,N,J,a6,L⟩:bH vo=some (aC ((O.getD i []).length:Int))/\True/\True/\True/\ ∃N J,Sl vo 1 (O.getD i []).length N J/\ ∀k,k<(O.getD i []).length->N<h.next/\h.cell N (J+k)=some (aC ((O.getD i []).getD k 0:Nat)):=by
  have l:=a0.lens;obtain⟨a,b,s,c,d⟩:=a0.open;rw[aL] at l s c d;refine⟨l,trivial,trivial,trivial,a,b,s,λk hk=>⟨c om,?_⟩⟩;rw[d k hk];congr 2;exact fO (λk:Nat=>(k:Int)) (d:=0) om
 obtain⟨f9,er,f6,e7,d7,b7,wr,a7,t⟩:=mI a4
 rw[fL,o.rl i f] at a7 t
 have e0:(O.getD i []).length<=n:=kP (kC (λx hx=>hG.bM hx) f (o.asc i f) (o.mem i f)) om
 obtain⟨m,hm⟩:=exI ((O.getD i []).length)
 rw[hm] at a1 a6 L a7 t e0
 obtain⟨p,hp⟩:=exI (y.getD i 0)
 simp(disch:=omega)only[go_sem,H.cell_of g2,d1]
 refine aH (λk' r hh=> ∃(k:Nat),(∃g:Nat->V,r= [g 0,vy,.ptr B 0,g 3,g 4,aC i,aC k,g 7,g 8,g 9])/\k<=m/\(∀j,j<k->(O.getD i []).getD j 0≠p)/\Fr h2 hh/\k'=m-k) m
  ⟨0,aB rfl,fE _,λj hj=>om,Fr.refl _,rfl⟩ ?_
 rintro k' r K ⟨k,⟨g',rfl⟩,hk,hj,f3,rfl⟩
 have g3:K.get B=some (.cells false [aC n,vO,vR]):=by rw[f3.get B (by have:=F2.next;omega)];exact g2
 have F3:=F.trans f3
 have W:K.cell d6 (b1+i)=some vo:=by rw[F3.cell bO];exact c1
 have e2:K.cell d0 (c0+i)=some vr:=by rw[F3.cell bR];exact c3
 have b0:=sy.mono f3
 obtain⟨c9,c6,a8,c8,b8⟩:=b0.open
 rw[d9] at a8 c8 b8
 have cy:K.cell c9 (c6+i)=some (aC p):=by rw[b8 i f];congr 2;simp [zi,Y.len,f,<-hp]
 by_cases b6:(k:Int)<(m:Int)
 case neg=>
  have d2:=bT b6;obtain rfl:k=m:=om
  have d5: ¬G x:=λhx=>by
   have hy:=a5.2 hx;obtain⟨j,d8,e5⟩:=rV.1 ((o.mem i f p).2 ⟨y,hy,U,hp⟩);exact hj j om (by rw[Zo,dC d8];exact e5)
  simp(disch:=omega)only[go_sem,H.cell_of g3,a2.ixa,W,a1,d2];refine bI (λ_=>?_) (λhc=>(hc trivial).elim);refine aM ?_;have fb:=(Fr.refl K).bU (n:=K.next+23) om;refine (Rq vy (zi y) _ (b0.mono fb) om).mono ?_;rintro v h4 ⟨ow,f4,_⟩;refine aM ?_;exact⟨v,i,rfl,⟨λe=>om,λhx=>absurd hx d5⟩,om,F3.trans (fb.trans f4)⟩
 have d2:=cJ b6
 have a3:k<m:=om
 obtain⟨b4,c4⟩:=L k a3
 have c5:K.cell N (J+k)=some (aC ((O.getD i []).getD k 0:Nat)):=by rw[F3.cell b4];exact c4
 obtain⟨q,hq⟩:=exI ((O.getD i []).getD k 0)
 rw[hq] at c5
 by_cases c2:q=p
 case neg=>
  have d3:decide ((q:Int)≠(p:Int))=true:=cJ om;simp(disch:=omega)only[go_sem,H.cell_of g3,a2.ixa,W,a1,d2,a6.ixa,c5,a8.ixa,cy,d3];rw[eJ k];refine⟨m-(k+1),om,k+1,aB rfl,om,λj f8=>?_,f3.bU om,rfl⟩
  by_cases e:j=k
  .rw[e,hq];exact c2
  .exact hj j om
 have d3:decide ((q:Int)≠(p:Int))=false:=bT om
 have d4:decide ((k:Int)=(m:Int))=false:=bT om
 have A:=o.rep i f k om
 rw[hq,c2] at A
 obtain⟨z,hz⟩:=exI ((R.getD i []).getD k [])
 rw[hz] at A
 have Z:=hG.bM A.mem
 obtain⟨br,b3,a9⟩:=t k a3
 rw[fO zi (l:=R.getD i []) (i:=k) (d:= []) (by rw[o.rl i f];omega),hz] at a9
 generalize wr.getD k V.undef=vz at b3 a9
 have e4:K.cell d7 (b7+k)=some vz:=by rw[F3.cell br];exact b3
 have fb:=(Fr.refl K).bU (n:=K.next+23) om
 have f2:=W
 simp(disch:=omega)only[go_sem,H.cell_of g3,a2.ixa,W,a1,d2,a6.ixa,c5,a8.ixa,cy,d3,d4,b9.ixa,e2,a7.ixa,e4]
 refine (Cd vz n z _ om Z (a9.mono (F3.trans fb))).mono ?_
 rintro vi h4 ni
 have f4:=fb.trans ni.fr
 have e3:SI h4 vi (zi (cK z)):=(uS ni).si
 refine aM ?_
 refine (nV vy vi y (cK z) h4 (by rw[Y.len];omega) (b0.mono f4) e3 (λj hj=>by rw[iI,Z.len];exact Y.fZ (by rw[<-Y.len];exact hj))).mono ?_
 rintro vm h5 ⟨sm,f5,_⟩
 refine aM ?_
 rw[eJ i]
 refine⟨n-(i+1),om,i+1,_,_,aB rfl,om,sm,Y.mul Z.inv,?_,?_,F2.trans (f3.trans (f4.trans f5)),rfl⟩
 .refine (Fix.mul Y om U (Fix.inv Z om A.fix)).succ ?_
  rw[dI (by rw[Y.len];exact f),hp]
  have:=rE Z f
  rwa [A.maps] at this
 .rw[<-a5]
  constructor
  .intro h1
   have:=hG.mul h1 A.mem
   rwa [aG Y Z.inv Z,dU Z,bD Y] at this
  .exact λh1=>hG.mul h1 (hG.inv A.mem)
theorem TQ {W:Nat->Prop}(J q:V)(n:Nat)(O:LN)(R:iA)(G:List Nat->Prop)(x:List Nat)(h:H)(g:GC W h J n O R G)(t:SI h q (zi x))(X:aY n x):
  Ev T 112 [J,q] h (λv h'=> ∃b,v= .tup [.bool b,aC 0]/\(b=true↔G x)/\Fr h h'):=by
 obtain⟨c,d,e,P,Y⟩:=g.ch
 have IB:=g.IB
 subst e
 have f:c.one=true:=EB P
 have i:d.one=true:=Yb Y
 have A:=g.n0
 have n7:=g.n7
 obtain⟨B,N⟩:=exI h.next
 obtain⟨z,e1,L,F,o1,m⟩:=dF N [aC n,c,d]
 have r:=aU h (v:= aC n) (u:=c) (w:=d) rfl f i
 have o:=aE F
 refine pY r N e1 o ?_
 refine Ev.mono (Q:=λv h'=>v= aC 0/\Fr z h') ?_ ?_
 .refine kV ?_
  have r:=aU z (v:= aC n) (u:=c) (w:=d) rfl f i
  obtain⟨p,Z,n2,l,o2,a⟩:=dF L [aC n,c,d]
  have o:=aE l
  refine iT @aI r L Z o ?_
  refine (Gk _ (n:Int) _ _ p (g.ch.mono (m.trans a)) (.inl om) g.small.1 g.small.2.out).mono ?_
  rw[IB]
  rintro _ s ⟨rfl,j⟩
  refine aM ?_
  refine bI (λk=>(k rfl).elim) (λ_=>?_)
  refine aM ?_
  refine (mM q (zi x) s (by rw[aL,X.len];omega) (t.mono ((m.trans a).trans j))).mono ?_
  rw[Am X A om]
  rintro _ U ⟨rfl,K⟩
  have g4:U.get (B+1)=some (.cells false [aC n,c,d]):=by rw[K.get _ (by have:=j.next;omega),j.get _ om];exact l
  have y:=t.lens
  rw[aL,X.len] at y
  refine aM ?_
  refine bI (λk=>(k rfl).elim) (λ_=>?_)
  simp(disch:=omega)only[go_sem,H.cell_of g4,y]
  refine bI (λk=>(k rfl).elim) (λ_=>?_)
  refine aM ?_
  exact (a.trans j).trans K
 rintro _ p ⟨rfl,a⟩
 have l:p.get B=some (.cells false [aC n,c,d]):=by rw[a.get _ om];exact F
 have o:=aE l
 refine aM ?_
 refine bI (λk=>(k rfl).elim) (λ_=>?_)
 refine bE o ?_
 refine (Xq _ q n O R G x p A om g.cX g.isc (g.ch.mono (m.trans a)) (t.mono (m.trans a)) X).mono ?_
 rintro _ s ⟨vr,lv,rfl,hl,_,j⟩
 have g3:s.get B=some (.cells false [aC n,c,d]):=by rw[j.get _ (by have:=a.next;omega)];exact l
 simp(disch:=omega)only[go_sem,H.cell_of g3]
 exact⟨_,rfl,by rw[decide_eq_true_eq];exact hl,(m.trans a).trans j⟩
theorem Hc {W:Nat->Prop}(vc:V)(n:Nat)(O:LN)(R:iA)(G:List Nat->Prop)(o h:H)(b:GC W o vc n O R G)(f0:Fr o h):
  Ev T 96 [vc] h (λv h'=> ∃acc,cW h' v 1 acc h.next/\aJ (SI o) acc (R.flatten.map zi)/\Fr h h'):=by
 obtain⟨J,j,e,sO,sR⟩:=b.ch
 subst e
 have k:J.one=true:=EB sO
 have y:j.one=true:=Yb sR
 have⟨z,s,aR,_⟩:=sR
 have n7:=b.n7
 have lR:=b.isc.lr
 have lw:=aJ.length aR
 rw[fL,lR] at lw
 obtain⟨A,hA⟩:=exI h.next
 obtain⟨r,e1,n1,g1,o1,K⟩:=dF hA [aC n,J,j]
 have bx:=aU h (v:= aC n) (u:=J) (w:=j) rfl k y
 have p:bH j=some (aC n):=by unfold bH;rw[SV.len s (n:=n) om om];rfl
 obtain⟨id,t,sh,Q,hc⟩:=SV.shape (s.mono f0) n om om
 have a2: ∀a,Fr r a->a.cell A 2=some j:=λa f=>by rw[f.cell om,H.cell_of g1];rfl
 have rl: ∀i,i<n->(R.getD i []).length<=n/\0<(R.getD i []).length:=λi hi=>by
  refine⟨?_,(Gf b.cX b.isc hi).1⟩;rw[b.isc.rl i hi];have:=kC (λx hx=>b.cX.bM hx) hi (b.isc.asc i hi) (b.isc.mem i hi);omega
 have fl: ∀i,i<=n->((R.take i).flatten).length<=i*n:=λi hi=>by
  induction i with
  |zero=>simp
  |succ i ih=>
   have r:=(rl i om).1;rw[dJ [] om,List.flatten_append,iB,Nat.succ_mul];have:=ih om;simp only[List.flatten_cons,List.flatten_nil,qV];omega
 refine Ku bx hA e1 ?_
 refine aH (λk' d a=> ∃(i:Nat) (Y:V) (acc:List V),(∃g:Nat->V,d= [g 0,.ptr A 0,g 2,Y,aC i,g 5])/\i<=n/\cW a Y 1 acc r.next/\aJ (SI o) acc (((R.take i).flatten).map zi)/\Fr r a/\k'=n-i) n
  ⟨0,.aD, [],aB rfl,fE _,cW.aD _ _ _,trivial,Fr.refl r,rfl⟩ ?_
 rintro k' d a ⟨i,Y,acc,⟨g,rfl⟩,hi,ow,B,F,rfl⟩
 by_cases l:(i:Int)<(n:Int)
 case neg=>
  have Z:=bT l;obtain rfl:i=n:=om
  refine dQ (a2 a F) p Z ?_;rw[Bo om] at B;exact⟨acc,ow.le om,B,K.trans F⟩
 have Z:=cJ l
 have L:i<n:=om
 have cc:a.cell id (t+i)=some (z.getD i .undef):=by
  rw[(K.trans F).cell (Q om),hc i om];simp [List.getD,show i<z.length by omega]
 have sr:SR o (z.getD i .undef) ((R.getD i []).map zi):=by
  have h2:=aJ.get aR i om (by rw[fL];omega);rw[List.getElem_map] at h2;rw[List.getD,List.getD,dC om,dC om];exact h2
 generalize z.getD i .undef=va at cc sr
 have⟨wi,si,ai⟩:=sr
 have P:=aJ.length ai
 rw[fL] at P
 have hr:=rl i L
 have U:=aJ.length B
 rw[fL] at U
 have a0:=fl i om
 have a1:i*n<=7*7:=Nat.mul_le_mul om n7
 have Fh:=K.trans F
 obtain⟨hd,ad,N⟩:=ow.push (bytes:=24) (si.mono (f0.trans Fh)) (n:=acc.length) (m:=(R.getD i []).length) om om om hr.2 om
 refine kA (a2 a F) p Z @sh.ixa cc ad ?_
 rw[eJ i]
 have nF:=F.next
 have nd:=N.next
 refine⟨n-(i+1),om,i+1,_,acc++wi,aB rfl,om,N.own om om om,?_,⟨om,λq hq=>?_⟩,rfl⟩
 .rw[dJ [] om,List.flatten_append,List.map_append]
  simp only[List.flatten_cons,List.flatten_nil,qV]
  exact aJ.append B ai
 .rw[N.old q om (λid t n' c e e2=>by have:=(ow.in _ _ _ _ e).2.1;omega)]
  exact F.get q hq
theorem aaJ {h:H}{v:V}{x:List Nat}{b:Nat}(s:SI h v (zi x))(f: ∀id off len cap,v= .sl id off len cap->b<=id):PV (λq=>q<b) h v x:=by
 refine⟨s,?_⟩
 cases v with
 |sl id off len cap=>exact λ(e:id<b)=>by have:=f id off len cap rfl;omega
 |_=>trivial
theorem Ka {n:Nat}{G:List Nat->Prop}{O:LN}{R:iA}(b:eM n G)(c:bA n G O R)(x:List Nat):bX n (· ∈R.flatten) x↔G x:=by
 constructor
 .exact λh=>bX.le b (λg a=>iD c g a) h
 .intro h
  refine bX.mono (λg a=>?_) (lX b c h);unfold cI at a;obtain⟨r,f,d⟩:=List.mem_flatMap.1 a;exact List.mem_flatten.2 ⟨r,f,List.mem_of_mem_drop d⟩
theorem Qe {W:Nat->Prop}{h:H}{c:V}{n:Nat}{O:LN}{R:iA}{G:List Nat->Prop}(a:GC W h c n O R G):R.flatten.length<=49:=by
 have l:=a.isc.lr;have b:=a.n7
 have d: ∀i,i<n->(R.getD i []).length<=n:=λi hi=>by
  rw[a.isc.rl i hi];have:=kC (λx j=>a.cX.bM j) hi (a.isc.asc i hi) (a.isc.mem i hi);omega
 have f: ∀i,i<=n->((R.take i).flatten).length<=i*n:=λi hi=>by
  induction i with
  |zero=>simp
  |succ i ih=>
   have k:=d i om;rw[dJ [] om,List.flatten_append,iB,Nat.succ_mul];have:=ih om;simp only[List.flatten_cons,List.flatten_nil,qV];omega
 have:=f n (eU _);rw[Bo om] at this;exact kP this (Nat.mul_le_mul b b)
theorem Ag {α β γ:Type}{R:α->γ->Prop}{f:β->γ}:{l1:List α}->{bs:List β}->aJ R l1 (bs.map f)->aJ (λa b=>R a (f b)) l1 bs
 | [], [],_=>trivial
 |_::_,_::_,⟨h,k⟩=>⟨h,Ag k⟩
set_option maxHeartbeats 32000000
theorem IV {W W':Nat->Prop}(vc vd:V)(n:Nat)(O O':List (List Nat))(R R':List (List (List Nat)))(G K:List Nat->Prop)(h:H)(d:GC W h vc n O R G)(l:GC W' h vd n O' R' K):
  Ev T 62 [vc,vd] h (λv h'=> ∃b,v= .tup [.bool b,.int .i64 0]/\(b=true↔ ∀x,G x->K x)/\Fr h h'):=by
 obtain⟨vO,vR,rfl,A,Z⟩:=d.shape
 obtain⟨a,c,rfl,p,q⟩:=l.shape
 refine kV ?_
 obtain⟨B,hB⟩: ∃B,h.next=B:=⟨_,rfl⟩
 obtain⟨h1,e1,n1,g1,o1,f1⟩:=dF hB [.int .i64 (n:Int),vO,vR]
 obtain⟨h2,e2,n2,g2,o2,f2⟩:=dF n1 [.int .i64 (n:Int),a,c]
 have bx:=aU h (v:= .int .i64 (n:Int)) (u:=vO) (w:=vR) rfl A Z
 have a2:=aU h1 (v:= .int .i64 (n:Int)) (u:=a) (w:=c) rfl p q
 have F2:=f1.trans f2
 have Y:h2.get B=some (.cells false [.int .i64 (n:Int),vO,vR]):=by rw[f2.get _ om];exact g1
 have d0:decide ((0:Int)≠0)=false:=rfl
 refine qL @aI bx hB e1 a2 n1 e2 (aE Y) ?_
 refine ((d.mono F2).Ba).mono ?_
 rintro _ h3 ⟨rfl,f3⟩
 have g3:h3.get (B+1)=some (.cells false [.int .i64 (n:Int),a,c]):=by rw[f3.get _ om];exact g2
 refine cU d0 (aE g3) ?_
 refine ((l.mono (F2.trans f3)).Ba).mono ?_
 rintro _ h4 ⟨rfl,f4⟩
 have F4:=F2.trans (f3.trans f4)
 have l3:=f3.next
 have l4:=f4.next
 have s:h4.get B=some (.cells false [.int .i64 (n:Int),vO,vR]):=by rw[f4.get _ om,f3.get _ om];exact Y
 have Q:h4.get (B+1)=some (.cells false [.int .i64 (n:Int),a,c]):=by rw[f4.get _ om];exact g3
 have dn:decide ((n:Int)≠(n:Int))=false:=decide_eq_false (λh=>h rfl)
 simp(disch:=omega)only[go_sem,d0,H.cell_of s,H.cell_of Q,dn,aE s]
 refine (Ao _ n O R G h4 (d.mono F4)).mono ?_
 rintro vs h5 ⟨sp,f5⟩
 have F5:=F4.trans f5
 have a1:h5.get (B+1)=some (.cells false [.int .i64 (n:Int),a,c]):=by rw[f5.get _ om];exact Q
 obtain⟨ls,es,a3,U,wS,a4,cS⟩:=Hs sp
 have gen:(∀x,G x->K x)↔ ∀j,j<R.flatten.length->K (R.flatten.getD j []):=by
  constructor
  .intro z j i
   refine z _ ((mT d.cX d.isc _).1 ?_);rw[Zo,dC i];exact bX.of (λg N=>d.cX.bM (iD d.isc g N)) (pN i)
  .intro hk x z
   refine bX.le l.cX (λg N=>?_) ((mT d.cX d.isc x).2 z);obtain⟨j,i,e⟩:=rV.1 N;have:=hk j i;rw[Zo,dC i] at this;rw[<-e];exact this
 have a5: ∀g∈R.flatten,aY n g:=λg N=>d.cX.bM (iD d.isc g N)
 have a7:=Qe d
 generalize R.flatten=L at*
 refine aM ?_
 refine aH (λk' m hh=> ∃(k:Nat),(∃g:Nat->V,m= [g 0,g 1,.ptr B 0,.ptr (B+1) 0,g 4,g 5,g 6,g 7,vs,.int .i64 (k:Int),g 10,g 11,g 12,g 13,g 14,g 15])/\k<=L.length/\(∀j,j<k->K (L.getD j []))/\Fr h5 hh/\k'=L.length-k) L.length
  ⟨0,aB rfl,fE _,λj i=>om,Fr.refl _,rfl⟩ ?_
 rintro k' m h6 ⟨k,⟨g,rfl⟩,hk,i,o,rfl⟩
 have l5:=f5.next
 have P:h6.get (B+1)=some (.cells false [.int .i64 (n:Int),a,c]):=by rw[o.get _ om];exact a1
 by_cases F:(k:Int)<(L.length:Int)
 case neg=>
  have d1:decide ((k:Int)<(L.length:Int))=false:=decide_eq_false F;obtain rfl:k=L.length:=om
  refine cU ls d1 ?_;exact⟨true,rfl,⟨λ_=>gen.2 i,λ_=>rfl⟩,F5.trans o⟩
 have d1:decide ((k:Int)<(L.length:Int))=true:=decide_eq_true F
 have f:k<L.length:=om
 obtain⟨bS,J,t⟩:=cS k f
 generalize wS.getD k V.undef=vx at J t
 have a6:h6.cell a3 (U+k)=some vx:=by rw[o.cell bS];exact J
 have X:aY n (L.getD k []):=a5 _ (by rw[Zo,dC f];exact pN f)
 refine iT ls d1 @a4.ixa a6 (aE P) ?_
 have y:=(Fr.refl h6).bU (n:=h6.next+11) om
 refine (Xq _ vx n O' R' K _ _ l.n0 (by have:=l.n7;omega) l.cX l.isc (l.ch.mono (F5.trans (o.trans y))) (t.mono (o.trans y)) X).mono ?_
 rintro _ h7 ⟨vr,lv,rfl,hl,a9,f7⟩
 have r:h7.get (B+1)=some (.cells false [.int .i64 (n:Int),a,c]):=by rw[(y.trans f7).get _ (by have:=o.next;omega)];exact P
 by_cases a0:lv<(n:Int)
 .have d2:decide (lv<(n:Int))=true:=decide_eq_true a0
  simp(disch:=omega)only[go_sem,H.cell_of r,d2]
  exact⟨false,rfl,⟨(λe=>by cases e),λz=>absurd (hl.2 ((gen.1 z) k f)) om⟩,F5.trans (o.trans (y.trans f7))⟩
 .have d2:decide (lv<(n:Int))=false:=decide_eq_false a0
  simp(disch:=omega)only[go_sem,H.cell_of r,d2]
  rw[show (k:Int)+1=((k+1:Nat):Int) from om]
  refine⟨L.length-(k+1),om,k+1,aB rfl,om,λj a8=>?_,o.trans (y.trans f7),rfl⟩
  by_cases e:j=k
  .rw[e];exact hl.1 om
  .exact i j om
end Go.Proofs.YtcdbmkidaecdiaaGreat
