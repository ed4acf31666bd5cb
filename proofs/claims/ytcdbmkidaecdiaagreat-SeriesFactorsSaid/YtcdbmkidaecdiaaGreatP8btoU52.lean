/- Texts of the claim. -/
import Derived.Test.YtcdbmkidaecdiaaGreatP6btoP8a
import Derived.Test.YtcdbmkidaecdiaaGreatDp2toP6a
set_option maxHeartbeats 64000000
namespace Go.Proofs.YtcdbmkidaecdiaaGreat
open Go Go.Ay Go.Pm
set_option maxRecDepth 100000
section
variable {h:H} {ws:List V} {l:LN} {k:Nat}
theorem uL.frb {b h':H}{x:V}{n m sz:Nat}{us:List V}(p:uL h x n m sz ws us h')(f:Fr b h){d:Nat}{a:List V}(o:cY h x d a b.next):Fr b h':=by
 have r:=f.next;refine⟨by rw[p.next];omega,λid i=>?_⟩;rw[p.old id om (λj q n c e s=>by have:=(o.in _ _ _ _ e).2.1;omega)];exact f.get id i
theorem Hi {a:H}{d v:V}(o:cY h d 1 ws a.next)(f:Fr a h)(z:ws.length<1000000){bytes:Nat}(w:bytes<=24):
  ∃h2,xQ (h.new (.cells false [v])) 1 bytes d (.sl h.next 0 1 (.kn 1))=some (.sl (h.next+1) 0 (ws.length+1) (.un 1),h2)/\cY h2 (.sl (h.next+1) 0 (ws.length+1) (.un 1)) 1 (ws++ [v]) a.next/\Fr a h2/\h2.next=h.next+2/\ ∀id,id<h.next->dL d id->h2.get id=h.get id:=by
 obtain⟨x,u,r,s,t,q⟩:=dF (h:=h) rfl [v]
 rw[u]
 have j:=o.fr q
 obtain⟨h2,i,c⟩:=j.push (bytes:=bytes) (SV.one om s (.kn 1)) (n:=ws.length) (m:=1) om rfl om om ⟨by
  have:(2*(ws.length+1)+1000)*bytes<=(2*(ws.length+1)+1000)*24:=Nat.mul_le_mul_left _ w
  omega,om⟩
 rw[r] at i
 have y:=f.next
 have p:=c.own om rfl (b:=a.next) om
 rw[r] at p
 have nx:=c.next
 exact⟨h2,i,p,uL.frb c (f.trans q) j,om,λid x h2=>by rw[c.old id om h2,t id om]⟩
theorem UO (t:rL)(i p:Nat):(eR t i p).length<=p:=by
 unfold eR;have:=List.length_filterMap_le (t i) (List.range p);rwa [NM] at this
theorem Uj (n:Nat)(t:rL): ∀i,(eB n t i).length<=i*n
 |0=>by simp [eB]
 |i+1=>by
  rw[FL,jZ,Nat.succ_mul];have:=Uj n t i;have:=UO t i n;omega
theorem yF (b:Nat)(W:Nat->Prop)(h:H)(n:Nat)(w:V)(ρ:Nat->Nat)(F:Nat->Nat->V)(t:rL)(hn:n<=64)(h0:0<n)(R:Ia b W h n w ρ F t)(TI:oK n t):
  Ev T 130 [w] h (λv h'=> ∃ws,cY h' v 1 ws h.next/\fW W h ws (fR n t 0)/\Fr h h'):=by
 refine cV pU rfl ?_
 have r:=R.open.1
 simp(disch:=omega)only[go_sem,pU,aD]
 refine aH (λA c p=> ∃(i:Nat) (d:V) (ws:List V),(∃g:Nat->V,c= [w,g 1,d,aC i,g 4,g 5,g 6,g 7])/\i<=n/\cY p d 1 ws h.next/\fW W h ws (eB n t i)/\Fr h p/\A=n-i) n
  ⟨0,.aE, [],aB rfl,iJ _,cY.aE _ _ _,trivial,Fr.refl h,rfl⟩ ?_
 rintro A c h2 ⟨i,d,ws,⟨g,rfl⟩,hi,m,a,f,rfl⟩
 by_cases x:(i:Int)<(n:Int)
 case neg=>
  have N:=bH x;obtain rfl:i=n:=om
  simp(disch:=omega)only[go_sem,r,N];rw[Vw] at a;exact⟨ws,m,a,f⟩
 have N:=oQ x
 have q:i<n:=om
 simp(disch:=omega)only[go_sem,r,N]
 refine xE (λvs p=> ∃(d:V) (ws:List V),(∃g:Nat->V,vs= [w,g 1,d,aC i,g 4,g 5,g 6,g 7])/\cY p d 1 ws h.next/\fW W h ws (eB n t (i+1))/\Fr h p) ?_ ?_
 ·refine aH (λA c p=> ∃(j:Nat) (d:V) (ws:List V),(∃g:Nat->V,c= [w,g 1,d,aC i,aC j,g 5,g 6,g 7])/\j<=n/\cY p d 1 ws h.next/\fW W h ws (eB n t i++eR t i j)/\Fr h p/\A=n-j) n
   ⟨0,d,ws,aB rfl,iJ _,m,by unfold eR;rw[List.range_zero,List.filterMap_nil,vF];exact a,f,rfl⟩ ?_
  clear m a f hi g
  rintro A c L ⟨j,d,ws,⟨g,rfl⟩,hj,m,a,f,rfl⟩
  by_cases o:(j:Int)<(n:Int)
  case neg=>
   have K:=bH o;obtain rfl:j=n:=om
   simp(disch:=omega)only[go_sem,r,K];exact⟨d,ws,aB rfl,m,by rw[FL];exact a,f⟩
  have K:=oQ o
  have u:j<n:=om
  have Q:=R.mono f
  obtain⟨_,a0,U,B,O⟩:=Q.open
  have Z:=O i q
  have G:=Q.cell q u
  have J:=R.ent i j q u
  have lw:=aM.length a
  have l1:=Uj n t i
  have l2:=UO t i j
  have l3:i*n<=64*64:=Nat.mul_le_mul om hn
  rw[jZ] at lw
  cases hto:t i j with
  |none=>
   rw[hto] at J;rw[J.nil] at G;simp(disch:=omega)only[go_sem,r,K,B.ixa,Z,G];rw[eJ j];refine⟨n-(j+1),om,j+1,d,ws,aB rfl,om,m.fr ((Fr.refl L).bA om),?_,f.bA om,rfl⟩;rw[HB,hto];simpa using a
  |some y=>
   rw[hto] at J;have s:PV W h (F i j) y:=J;have Y:=Hv s (bE.ne h0 (TI.cU _ _ _ hto)) true;generalize F i j=vz at G s Y;obtain⟨S,a1⟩:=exI L.next;simp(disch:=omega)only[go_sem,r,K,B.ixa,Z,G,Y,cT _ (z:= .aE) s.fG.1 s.fG.2];obtain⟨h4,a4,P,f4,n4,_⟩:=Hi (v:=vz) m f om (bytes:=24) om;simp(disch:=omega)only[go_sem,a4];rw[eJ j];refine⟨n-(j+1),om,j+1,_,_,aB rfl,om,P,?_,f4,rfl⟩;rw[HB,hto,←Ll];exact a.append (fW.one s)
 rintro c L ⟨d,ws,⟨g,rfl⟩,m,a,f⟩
 simp(disch:=omega)only[go_sem]
 rw[eJ i]
 exact⟨n-(i+1),om,i+1,d,ws,aB rfl,om,m,a,f,rfl⟩
theorem fW.open {W:Nat->Prop}{v:V}(sv:SV h v 1 ws)(p:fW W h ws l):bT v=some (aC (l.length:Int))/\ ∃id off,Sl v 1 l.length id off/\ ∀i,i<l.length->id<h.next/\h.cell id (off+i)=some (ws.getD i .undef)/\PV W h (ws.getD i .undef) (l.getD i []):=by
 have j:=aM.length p;refine⟨by unfold bT;rw[SV.len sv (n:=l.length) om om];rfl,?_⟩;obtain⟨id,off,d,a,f⟩:=SV.shape sv l.length om om;refine⟨id,off,d,λi hi=>⟨a om,?_,?_⟩⟩
 ·rw[f i om];simp [List.getD,show i<ws.length by omega]
 ·obtain⟨w,c,b⟩:=fW.at p hi
  rw[List.getD,c];exact b
theorem Ox {α:Type}{l:List α}{x d:α}:x∈l.take k↔ ∃q,q<k/\q<l.length/\l.getD q d=x:=by
 constructor
 ·intro h
  obtain⟨q,a,e⟩:=zF.1 h;rw[Fj] at a;refine⟨q,om,om,?_⟩;rw[List.getElem_take] at e;rw[List.getD,dD om,←e];rfl
 ·rintro⟨q,h1,h2,e⟩
  rw[List.getD,dD h2] at e;refine zF.2 ⟨q,by rw[Fj];omega,?_⟩;rw[List.getElem_take];exact e
theorem Ds {x:List Nat}(b:k<l.length):x∈l.take (k+1)↔x∈l.take k∨l.getD k []=x:=by
 rw[Ox (d:= []),Ox (d:= [])];constructor
 ·rintro⟨q,c,a,e⟩
  by_cases h:q=k
  ·subst h;exact .inr e
  ·exact .inl ⟨q,om,a,e⟩
 ·rintro (⟨q,c,a,e⟩|e)
  ·exact⟨q,om,a,e⟩
  ·exact⟨k,om,b,e⟩
theorem NR {L:LN}(a:k<L.length):(L.take (k+1)).filter (λy=>decide (y∉l))=(L.take k).filter (λy=>decide (y∉l))++if L.getD k []∈l then [] else [L.getD k []]:=by
 rw[cE [] a,List.filter_append];generalize L.getD k []=z
 by_cases e:z∈l<;>simp [e,List.filter]
theorem UP (b:Nat)(W:Nat->Prop)(h:H)(n:Nat)(U vl:V)(wl:List V)(l:LN)(ρ:Nat->Nat)(F:Nat->Nat->V)(t:rL)(hn:n<=64)(h0:0<n)(R:Ia b W h n U ρ F t)(TI:oK n t)(sl:SV h vl 1 wl)(pl:fW W h wl l)(hl: ∀x∈l,bE n x)(ll:l.length<1000000):
  Ev T 131 [U,vl] h (λv h'=> ∃ws,cY h' v 1 ws h.next/\fW W h ws (frF n t l)/\Fr h h'):=by
 refine cV sC rfl ?_
 simp(disch:=omega)only[go_sem,sC,aD]
 refine (yF b W h n U ρ F t hn h0 R TI).mono ?_
 rintro ve h1 ⟨we,oe,pe,f1⟩
 obtain⟨L,hL⟩:=exI (fR n t 0)
 have EP: ∀y∈L,bE n y:=λy hy=>TI.MK y (by rw[hL];exact hy)
 have lL:L.length<=4096:=by
  rw[←hL,←Vw];have:=Uj n t n;have:=Nat.mul_le_mul hn hn;omega
 unfold frF
 rw[hL] at pe ⊢
 have b2:fW W h1 we L:=fW.fx pe (Fx.of f1)
 have b6:=aM.length pe
 obtain⟨a5,B,j,a1,b0⟩:=fW.open oe.sv b2
 obtain⟨a6,a3,u,b3,a9⟩:=fW.open sl pl
 simp(disch:=omega)only[go_sem]
 refine aH (λk' a hh=> ∃(i:Nat) (vo:V) (ws:List V),(∃g:Nat->V,a= [U,vl,g 2,vo,ve,aC i,g 6,g 7,g 8,g 9,g 10])/\i<=L.length/\cY hh vo 1 ws h1.next/\fW W h ws ((L.take i).filter λy=>decide (y∉l))/\Fr h1 hh/\k'=L.length-i) L.length
  ⟨0,.aE, [],aB rfl,iJ _,cY.aE _ _ _,trivial,Fr.refl h1,rfl⟩ ?_
 rintro k' a h2 ⟨i,vo,ws,⟨g,rfl⟩,hi,ow,m,f,rfl⟩
 by_cases a0:(i:Int)<(L.length:Int)
 case neg=>
  have e1:=bH a0;obtain rfl:i=L.length:=om
  simp(disch:=omega)only[go_sem,a5,e1];rw[List.take_length] at m;exact⟨ws,ow.le f1.next,m,f1.trans f⟩
 have e1:=oQ a0
 have p:i<L.length:=om
 obtain⟨i1,c1,Q⟩:=b0 i p
 have Y:=EP _ (bD (d:= []) p)
 obtain⟨y,hy⟩:=exI (L.getD i [])
 have K:PV W h (we.getD i .undef) (L.getD i []):=by
  obtain⟨w,o,h4⟩:=fW.at pe p;rw[List.getD,o];exact h4
 rw[hy] at Q Y K
 generalize we.getD i .undef=vy at c1 Q K
 simp(disch:=omega)only[go_sem,a5,e1]
 refine bJ (λvs hh=>(∃g:Nat->V,vs= [U,vl,g 2,vo,ve,aC i,.bool (decide (y∈l)),g 7,g 8,g 9,g 10])/\Fr h2 hh) ?_ ?_
 ·refine aH (λk' a hh=> ∃(k:Nat) (s:Bool),(∃g:Nat->V,a= [U,vl,g 2,vo,ve,aC i,.bool s,aC k,g 8,g 9,g 10])/\k<=l.length/\(s=true↔y∈l.take k)/\Fr h2 hh/\k'=l.length-k) l.length
   ⟨0,false,aB rfl,iJ _,by simp,Fr.refl h2,rfl⟩ ?_
  clear g
  rintro k' a o ⟨k,s,⟨g,rfl⟩,hk,hs,N,rfl⟩
  cases s with
  |true=>
   have q:decide (y∈l)=true:=oQ (List.mem_of_mem_take (hs.1 rfl));simp(disch:=omega)only[go_sem];exact⟨by rw[q];exact aB rfl,N⟩
  |false=>
  have P:y∉l.take k:=λh=>by have:=hs.2 h;cases this
  by_cases r:(k:Int)<(l.length:Int)
  case neg=>
   have q:=bH r;obtain rfl:k=l.length:=om
   rw[List.take_length] at P;have e4:decide (y∈l)=false:=bH P;simp(disch:=omega)only[go_sem,a6,q];exact⟨by rw[e4];exact aB rfl,N⟩
  have q:=oQ r
  have G:k<l.length:=om
  obtain⟨i2,c2,p2⟩:=a9 k G
  have Z:=hl _ (bD (d:= []) G)
  obtain⟨z,hz⟩:=exI (l.getD k [])
  rw[hz] at p2 Z
  generalize wl.getD k .undef=vz at c2 p2
  have c:=f.trans N
  have O:=f1.trans c
  have J:o.cell B (j+i)=some vy:=by rw[c.cell i1];exact c1
  have a7:o.cell a3 (u+k)=some vz:=by rw[O.cell i2];exact c2
  have v1:=SV.dE Q.si
  have v2:=SV.dE p2.si
  simp(disch:=omega)only[go_sem,a6,q,a1.ixa,J,b3.ixa,a7]
  have fb:Fr o (H.mk o.tr (o.next+10)):=(Fr.refl o).bA om
  refine (GV vy vz _ _ _ (Q.si.mono (c.trans fb)) (p2.si.mono (O.trans fb)) (by rw[aQ,Y.len];omega) (by rw[aQ,Z.len];omega)).mono ?_
  rintro _ h4 ⟨rfl,f4⟩
  have A:=fb.trans f4
  have a8:h4.cell B (j+i)=some vy:=by rw[(c.trans A).cell i1];exact c1
  have b4:h4.cell a3 (u+k)=some vz:=by rw[(O.trans A).cell i2];exact c2
  simp(disch:=omega)only[go_sem,a8,b4,v1,v2]
  rw[eJ k]
  refine⟨l.length-(k+1),om,k+1,_,aB rfl,om,?_,N.trans A,rfl⟩
  rw[Qf,Ds G,hz]
  exact⟨λe=> .inr (Vl e).symm,λh=>h.elim (λh=>(P h).elim) λe=>by rw[e]⟩
 rintro a o ⟨⟨g,rfl⟩,N⟩
 have c:=f.trans N
 have J:o.cell B (j+i)=some vy:=by rw[c.cell i1];exact c1
 have a2:=ow.fr N
 have b7:=aM.length m
 have b5:((L.take i).filter λy=>decide (y∉l)).length<=i:=mT (List.length_filter_le _ _) (by rw[Fj];omega)
 have ft:=NR (L:=L) (l:=l) p
 rw[hy] at ft
 by_cases hm:y∈l
 ·have q:=oQ hm
  simp(disch:=omega)only[go_sem,q]
  rw[eJ i]
  rw[bF hm,vF] at ft
  exact⟨L.length-(i+1),om,i+1,vo,ws,aB rfl,om,a2,by rw[ft];exact m,c,rfl⟩
 ·have q:=bH hm
  obtain⟨h4,a4,b1,f4,n4,_⟩:=Hi (v:=vy) a2 c om (bytes:=24) om
  simp(disch:=omega)only[go_sem,q,a1.ixa,J,cT _ (z:= .aE) Q.fG.1 Q.fG.2,a4]
  rw[eJ i]
  rw[bI hm] at ft
  exact⟨L.length-(i+1),om,i+1,_,_,aB rfl,om,b1,by rw[ft];exact m.append (fW.one K),f4,rfl⟩
end
structure CJ (b:Nat)(W:Nat->Prop)(h hh:H)(n:Nat)(tv:V)(ρ:Nat->Nat)(L:List Nat->Prop)(t0:rL)(vl:V)(l:LN)(t:rL):Prop where
 ex: ∃W' F wl,Ia b W' hh n tv ρ F t/\cY hh vl 1 wl h.next/\fW W' hh wl l/\Hq W' vl/\ ∀id,id<h.next->W' id->W id
 fx:Fx W h hh
 cls:Cx n L t l
 sub:Sub t0 t
theorem abJ {n:Nat}{t:rL}{x:List Nat}{L:List Nat->Prop}{l:LN}(c:Cx n L t l)(b:oK n (jJ t n x))(h:(fR n t 0).length<(fR n (jJ t n x) 0).length):0<(frF n (jJ t n x) l).length:=by
 refine List.length_pos_iff.2 λe=>?_
 unfold frF at e;rw[List.filter_eq_nil_iff] at e
 have:(fR n (jJ t n x) 0).length<=(fR n t 0).length:=List.Nodup.length_le_of_subset (yE b) λy a=>by
  have:=e y a;simp at this;exact (c.mem y).1 this
 omega
theorem HA (n:Nat)(t:rL)(a:n<=64):(fR n t 0).length<=4096:=by
 rw[←Vw];have:=Uj n t n;have:=Nat.mul_le_mul a a;omega
theorem OX {n:Nat}{t:rL}{l m:LN}{a c:Nat}(b:a<l.length)(f:c<l.length):Pr n t (l++m) a c↔Pr n t l a c:=by
 have e: ∀k,k<l.length->(l++m).getD k []=l.getD k []:=λk d=>by rw[List.getD,List.getD,Dv d]
 unfold Pr;rw[e a b,e c f]
theorem RJ (b:Nat)(W:Nat->Prop)(h:H)(n:Nat)(w:V)(ρ:Nat->Nat)(F:Nat->Nat->V)(t:rL)(L:List Nat->Prop)(hn:n<=7)(h0:0<n)(hb:b<=h.next)(R:Ia b W h n w ρ F t)(hL: ∀g,L g->bE n g)(tl:Oo n L t):
  Ev T 88 [w] h (λ_ h'=> ∃W' F' t',Ia b W' h' n w ρ F' t'/\Oo n L t'/\Sub t t'/\Jh n t'/\Fx W h h'/\ ∀id,id<h.next->W' id->W id):=by
 have d5:n^n<=823543:=by
  have: ∀n,n<=7->n^n<=823543:=by decide
  exact this n hn
 refine cV rS rfl ?_
 simp(disch:=omega)only[go_sem,rS,aD]
 refine (yF b W h n w ρ F t om h0 R tl.tab).mono ?_
 rintro p h1 ⟨wl,U,O,f1⟩
 simp(disch:=omega)only[go_sem]
 refine aH (λk' r Z=> ∃(i:Nat) (p:V) (l:LN) (t':rL),(∃g:Nat->V,r= [w,p,aC i,g 3,g 4,g 5,g 6,g 7,g 8,g 9,g 10,g 11])/\CJ b W h Z n w ρ L t p l t'/\i<=l.length/\(∀a c,a<i->c<i->Pr n t' l a c)/\k'=1000000-i) 1000000
  ⟨0,p,fR n t 0,t,aB rfl,⟨⟨λid=>W id∨ ∃z m c,p= .sl id z m c,F,wl,?_,U,?_,λid z m c e=> .inr ⟨_,_,_,e⟩,λid B f=>?_⟩,Fx.of f1,Cx.start tl,Sub.refl t⟩,iJ _,λa c ha=>om,rfl⟩ ?_
 ·refine R.go (Fx.of f1) (λi hi=>f1.get _ (R.Nw _ (R.wb i hi))) (λid B f=>?_) (λid f=> .inl f) (λid f=>?_) (λid f=>?_)
  ·rcases f with f|⟨z,m,c,e⟩
   ·exact f
   ·have:=(U.in _ _ _ _ e).2.1;omega
  ·rcases f with f|⟨z,m,c,e⟩
   ·exact iW (R.Nw id f) f1.next
   ·exact (U.in _ _ _ _ e).1
  ·rcases f with f|⟨z,m,c,e⟩
   ·exact R.low id f
   ·have:=(U.in _ _ _ _ e).2.1;omega
 ·refine fW.go O (Fx.of f1) λid B f=>?_
  rcases f with f|⟨z,m,c,e⟩
  ·exact f
  ·have:=(U.in _ _ _ _ e).2.1;omega
 ·rcases f with f|⟨z,m,c,e⟩
  ·exact f
  ·have:=(U.in _ _ _ _ e).2.1;omega
 clear U O f1 p wl h1
 rintro k' r h1 ⟨i,p,l,s,⟨g,rfl⟩,J,hi,N,rfl⟩
 have lb:=J.cls.bound
 have a2:bT p=some (aC (l.length:Int)):=by
  obtain⟨⟨W',F',wl,_,U,O,_⟩,_⟩:=J;exact (fW.open U.sv O).1
 by_cases v:(i:Int)<(l.length:Int)
 case neg=>
  have P:=bH v;obtain rfl:i=l.length:=om
  simp(disch:=omega)only[go_sem,a2,P];obtain⟨⟨W',F',wl,R',_,_,_,hW⟩,fx,y,sub⟩:=J;exact⟨W',F',s,R',y.tl,sub,y.closed N,fx,hW⟩
 have P:=oQ v
 have o:i<l.length:=om
 simp(disch:=omega)only[go_sem,a2,P]
 refine xE (λvs Z=> ∃(p:V) (l:LN) (t':rL),(∃g:Nat->V,vs= [w,p,aC i,g 3,g 4,g 5,g 6,g 7,g 8,g 9,g 10,g 11])/\CJ b W h Z n w ρ L t p l t'/\i<l.length/\ ∀a c,a<i+1->c<i+1->Pr n t' l a c) ?_ ?_
 ·refine aH (λk' r Z=> ∃(k:Nat) (p:V) (l:LN) (t':rL),(∃g:Nat->V,r= [w,p,aC i,aC k,g 4,g 5,g 6,g 7,g 8,g 9,g 10,g 11])/\k<=i+1/\CJ b W h Z n w ρ L t p l t'/\i<l.length/\(∀a c,a<i->c<i->Pr n t' l a c)/\(∀c,c<k->Pr n t' l i c/\Pr n t' l c i)/\k'=i+1-k) (i+1)
   ⟨0,p,l,s,aB rfl,iJ _,J,o,N,λc hc=>om,rfl⟩ ?_
  clear J hi N lb a2 v P o p l s g
  rintro k' r h2 ⟨k,p,l,s,⟨g,rfl⟩,hk,J,o,N,hQ,rfl⟩
  by_cases v:(k:Int)<=(i:Int)
  case neg=>
   have P:=bH v;obtain rfl:k=i+1:=om
   simp(disch:=omega)only[go_sem,P];refine⟨p,l,s,aB rfl,J,o,λa c ha hc=>?_⟩
   by_cases ea:a=i
   ·subst ea;exact (hQ c hc).1
   ·by_cases ec:c=i
    ·subst ec;exact (hQ a ha).2
    ·exact N a c om om
  have P:=oQ v
  have d4:k<=i:=om
  simp(disch:=omega)only[go_sem,P]
  refine xE (λvs Z=> ∃(p:V) (l:LN) (t':rL),(∃g:Nat->V,vs= [w,p,aC i,aC k,g 4,g 5,g 6,g 7,g 8,g 9,g 10,g 11])/\CJ b W h Z n w ρ L t p l t'/\i<l.length/\(∀a c,a<i->c<i->Pr n t' l a c)/\ ∀c,c<k+1->Pr n t' l i c/\Pr n t' l c i) ?_ ?_
  ·refine aH (λk' r Z=> ∃(q:Nat) (p:V) (l:LN) (t':rL),(∃g:Nat->V,r= [w,p,aC i,aC k,aC q,g 5,g 6,g 7,g 8,g 9,g 10,g 11])/\q<=2/\CJ b W h Z n w ρ L t p l t'/\i<l.length/\(∀a c,a<i->c<i->Pr n t' l a c)/\(∀c,c<k->Pr n t' l i c/\Pr n t' l c i)/\(0<q->Pr n t' l i k)/\(1<q->Pr n t' l k i)/\k'=2-q) 2
    ⟨0,p,l,s,aB rfl,om,J,o,N,hQ,λh=>om,λh=>om,rfl⟩ ?_
   clear J N hQ v P o p l s g
   rintro k' r h3 ⟨q,p,l,s,⟨g,rfl⟩,hq,J,o,N,hQ,hA,hB,rfl⟩
   by_cases v:(q:Int)<2
   case neg=>
    have P:=bH v;have d3:q=2:=om
    simp(disch:=omega)only[go_sem,P];refine⟨p,l,s,aB rfl,J,o,N,λc hc=>?_⟩
    by_cases ec:c=k
    ·subst ec;exact⟨hA om,hB om⟩
    ·exact hQ c om
   have P:=oQ v
   obtain⟨⟨W',F',wl,R',U,O,bl,hW⟩,fx,y,sub⟩:=J
   obtain⟨a2,a5,Y,b7,b9⟩:=fW.open U.sv O
   have lb:=y.bound
   obtain⟨i1,c1,p1⟩:=b9 i o
   obtain⟨_,c2,p2⟩:=b9 k om
   have ga:=y.gen _ (bD (d:= []) o)
   have gc:=y.gen _ (bD (d:= []) (show k<l.length by omega))
   obtain⟨a,ea⟩:=exI (l.getD i [])
   obtain⟨c,ec⟩:=exI (l.getD k [])
   rw[ea] at p1 ga
   rw[ec] at p2 gc
   have A:=ga.cU hL
   have C:=gc.cU hL
   generalize wl.getD i .undef=va at c1 p1
   generalize wl.getD k .undef=vc at c2 p2
   have v1:=SV.dE p1.si
   have v2:=SV.dE p2.si
   have vv:=SV.dE U.sv
   simp(disch:=omega)only[go_sem,P,b7.ixa,c1,c2]
   have fb:Fr h3 (H.mk h3.tr (h3.next+10)):=(Fr.refl h3).bA om
   refine (Lj va vc a c _ (by rw[A.len];omega) (p1.si.mono fb) (p2.si.mono fb) (λj hj=>by rw[C.len];exact A.iN (by rw[←A.len];exact hj))).mono ?_
   rintro vx h4 ⟨s4,f4,l4⟩
   have G:=fb.trans f4
   have a8:h4.cell a5 (Y+i)=some va:=by rw[G.cell i1];exact c1
   have b6:h4.cell a5 (Y+k)=some vc:=by rw[G.cell i1];exact c2
   simp(disch:=omega)only[go_sem,a8,b6,v1,v2]
   have px:PV W' h4 vx (aX a c):=PV.fresh s4 l4 (λid B=>iW (R'.Nw id B) fb.next)
   refine jT (λvs Z=> ∃(vx:V) (x:List Nat),(∃g:Nat->V,vs= [w,p,aC i,aC k,aC q,vx,g 6,g 7,g 8,g 9,g 10,g 11])/\PV W' Z vx x/\(q=0->x=aX a c)/\(q=1->x=aX c a)/\bX n L x/\Fr h3 Z) ?_ ?_
   ·refine aW (λc9=>?_) (λc9=>?_)
    ·have w1:(1:Int)=(q:Int):=om
     simp(disch:=omega)only[go_sem,b7.ixa,a8,b6]
     have a4:Fr h4 (H.mk h4.tr (h4.next+10)):=(Fr.refl h4).bA om
     refine (Lj vc va c a _ (by rw[C.len];omega) (p2.si.mono (G.trans a4)) (p1.si.mono (G.trans a4)) (λj hj=>by rw[A.len];exact C.iN (by rw[←C.len];exact hj))).mono ?_
     rintro vy h5 ⟨s5,f5,l5⟩
     have b3:=a4.trans f5
     have c6:h5.cell a5 (Y+i)=some va:=by rw[(G.trans b3).cell i1];exact c1
     have c4:h5.cell a5 (Y+k)=some vc:=by rw[(G.trans b3).cell i1];exact c2
     simp(disch:=omega)only[go_sem,c6,c4,v1,v2]
     refine .inl ⟨vy,aX c a,aB rfl,PV.fresh s5 l5 (λid B=>iW (R'.Nw id B) (G.trans a4).next),λe=>om,λ_=>rfl,gc.app hL ga,G.trans b3⟩
    ·simp(disch:=omega)only[go_sem]
     exact .inl ⟨vx,aX a c,aB rfl,px,λ_=>rfl,λe=>om,ga.app hL gc,G⟩
   clear px s4 l4 G a8 b6 f4 fb vx h4
   rintro r h4 ⟨vx,x,⟨g,rfl⟩,px,c5,c8,gx,f4⟩
   have R4:=R'.mono f4
   simp(disch:=omega)only[go_sem]
   refine (yF b W' h4 n w ρ F' s om h0 R4 y.tl.tab).mono ?_
   rintro v5 h5 ⟨w5,o5,d0,f5⟩
   have l5:bT v5=some (aC ((fR n s 0).length:Int)):=(fW.open o5.sv (fW.fx d0 (Fx.of f5))).1
   have m5:=HA n s om
   simp(disch:=omega)only[go_sem,l5]
   refine (Rw b W' h5 n w ρ F' s vx x om h0 (R4.mono f5) (PV.mono px f5) (gx.cU hL) y.tl.tab).mono ?_
   rintro _ h6 ⟨F6,rfl,R6,f6⟩
   obtain⟨u,K,a1,m,hm⟩:=y.step hL gx
   simp(disch:=omega)only[go_sem]
   refine (yF b W' h6 n w ρ F6 _ om h0 R6 u.tl.tab).mono ?_
   rintro v7 h7 ⟨w7,o7,c3,f7⟩
   have l7:bT v7=some (aC ((fR n (jJ s n x) 0).length:Int)):=(fW.open o7.sv (fW.fx c3 (Fx.of f7))).1
   have m7:=HA n (jJ s n x) om
   have R7:=R6.mono f7
   have b8:=f4.trans f5
   have a6:Fx W' h3 h7:=((Fx.of b8).trans (R4.wbx f6) (λ_ _ h=>h)).trans (Fx.of f7:Fx W' h6 h7) (λ_ _ h=>h)
   have a0: ∀j,j<n->ρ j<h.next:=λj hj=>R.Nw _ (R.wb j hj)
   have b5:cY h7 p 1 wl h.next:=by
    refine (((U.fr b8).zA f6.next λid z m c e B=>f6.get id B λf=>?_).fr f7);obtain⟨j,hj,rfl⟩:=f;have:=(U.in _ _ _ _ e).2.1;have:=a0 j hj;omega
   have Q:fW W' h7 wl l:=fW.fx O a6
   simp(disch:=omega)only[go_sem,l7]
   have a7: ∀b2 h',CJ b W h h' n w ρ L t b2 (l++m) (jJ s n x)->CJ b W h h' n w ρ L t b2 (l++m) (jJ s n x)/\i<(l++m).length/\(∀a c,a<i->c<i->Pr n (jJ s n x) (l++m) a c)/\(∀c,c<k->Pr n (jJ s n x) (l++m) i c/\Pr n (jJ s n x) (l++m) c i)/\(0<q+1->Pr n (jJ s n x) (l++m) i k)/\(1<q+1->Pr n (jJ s n x) (l++m) k i):=λb2 h' J=>by
    have b0:k<l.length:=om
    refine⟨J,by rw[jZ];omega,λa c h1 h2=>(N a c h1 h2).mono K om om,λc hc=>⟨(hQ c hc).1.mono K o om,(hQ c hc).2.mono K om o⟩,λ_=>?_,λ_=>?_⟩
    ·by_cases e0:q=0
     ·rw[OX o b0]
      unfold Pr;rw[ea,ec,←c5 e0];exact a1
     ·exact (hA om).mono K o b0
    ·have e0:q=1:=om
     rw[OX b0 o];unfold Pr;rw[ea,ec,←c8 e0];exact a1
   refine aW (λb4=>?_) (λb4=>?_)
   ·have hg:(fR n s 0).length<(fR n (jJ s n x) 0).length:=om
    have em:m=frF n (jJ s n x) l:=by
     unfold clF at hm;rw[bF hg] at hm;exact (List.append_cancel_left hm).symm
    have m0:=abJ y u.tl.tab hg
    rw[←em] at m0
    rw[hm] at u
    have c7:=u.bound
    rw[jZ] at c7
    simp(disch:=omega)only[go_sem]
    refine (UP b W' h7 n w p wl l ρ F6 _ om h0 R7 u.tl.tab b5.sv Q y.cU om).mono ?_
    rintro v8 h8 ⟨w8,o8,p8,f8⟩
    rw[←em] at p8
    have lw:=aM.length Q
    have d2:=aM.length p8
    have c0:=b5.fr f8
    have R8:=R7.mono f8
    obtain⟨h9,a9,p9⟩:=c0.push (bytes:=24) o8.sv (n:=l.length) (m:=m.length) om om om m0 ⟨om,om⟩
    have n9:=p9.next
    have a3:=p9.fx bl
    have d6:=a6.next
    have d7:=f8.next
    have d1:=fx.next
    simp(disch:=omega)only[go_sem,a9]
    rw[eJ q]
    have b1: ∀id,id<h8.next->(W' id∨id=h8.next)->W' id:=λid h1 h2=>by
     rcases h2 with h2|h2
     ·exact h2
     ·omega
    have J':CJ b W h h9 n w ρ L t (.sl h8.next 0 (l.length+m.length) (.un 1)) (l++m) (jJ s n x):=by
     refine⟨⟨λid=>W' id∨id=h8.next,F6,wl++w8,?_,p9.own om om om,?_,λid z m c e=>by cases e;exact .inr rfl,λid B f=>?_⟩,?_,u,sub.trans K⟩
     ·refine R8.go a3 (λj hj=>p9.old _ (by have:=a0 j hj;omega) λid z m c e e2=>by have:=(c0.in _ _ _ _ e).2.1;have:=a0 j hj;omega) b1 (λid f=> .inl f) (λid f=>?_) (λid f=>?_)
      ·rcases f with f|f
       ·have:=R8.Nw id f;omega
       ·omega
      ·rcases f with f|f
       ·exact R8.low id f
       ·omega
     ·exact (fW.go (fW.fx Q (Fx.of f8)) a3 b1).append (fW.go (fW.fx p8 (Fx.of f8)) a3 b1)
     ·rcases f with f|f
      ·exact hW id B f
      ·omega
     ·exact fx.trans ((a6.trans (Fx.of f8:Fx W' h7 h8) (λ_ _ h=>h)).trans a3 (λ_ _ h=>h)) hW
    obtain⟨j1,j2,j3,j4,j5,j6⟩:=a7 _ _ J'
    exact⟨2-(q+1),om,q+1,_,_,_,aB rfl,om,j1,j2,j3,j4,j5,j6,rfl⟩
   ·have hg: ¬(fR n s 0).length<(fR n (jJ s n x) 0).length:=om
    have em:m= []:=by
     unfold clF at hm;rw[bI hg] at hm;exact List.append_right_eq_self.1 hm.symm
    simp(disch:=omega)only[go_sem]
    rw[eJ q]
    have J':CJ b W h h7 n w ρ L t p (l++m) (jJ s n x):=by
     rw[hm] at u;exact⟨⟨W',F6,wl,R7,b5,by rw[em,vF];exact Q,bl,hW⟩,fx.trans a6 hW,u,sub.trans K⟩
    obtain⟨j1,j2,j3,j4,j5,j6⟩:=a7 _ _ J'
    exact⟨2-(q+1),om,q+1,_,_,_,aB rfl,om,j1,j2,j3,j4,j5,j6,rfl⟩
  rintro r h3 ⟨p,l,s,⟨g,rfl⟩,J,o,N,hQ⟩
  have lb:=J.cls.bound
  simp(disch:=omega)only[go_sem]
  rw[eJ k]
  exact⟨i+1-(k+1),om,k+1,p,l,s,aB rfl,om,J,o,N,hQ,rfl⟩
 clear J hi N lb a2 v P o p l s g
 rintro r h2 ⟨p,l,s,⟨g,rfl⟩,J,o,N⟩
 have lb:=J.cls.bound
 simp(disch:=omega)only[go_sem]
 rw[eJ i]
 exact⟨1000000-(i+1),om,i+1,p,l,s,aB rfl,J,om,N,rfl⟩
theorem Mk (t:rL)(i k:Nat):(BH t i k).length<=k:=by
 unfold BH;have:=List.length_filter_le (λp=>p==i||(t i p).isSome) (List.range k);rwa [NM] at this
theorem Xk (b:Nat)(W:Nat->Prop)(h:H)(n:Nat)(B:V)(ρ:Nat->Nat)(F:Nat->Nat->V)(t:rL)(i:Nat)(hn:n<=64)(h0:0<n)(hi:i<n)(R:Ia b W h n B ρ F t)(U:oK n t):
  Ev T 132 [B,aC i] h (λv h'=>cY h' v 1 (ints (zi (BH t i n))) h.next/\Fr h h'):=by
 refine cV rV rfl ?_
 have w:=R.open.1
 simp(disch:=omega)only[go_sem,rV,aD]
 refine aH (λY c P=> ∃(p:Nat) (q:V),(∃g:Nat->V,c= [B,aC i,g 2,q,aC p,g 5,g 6])/\i<=p/\p<=n/\cY P q 1 (ints (zi (BH t i p))) h.next/\Fr h P/\Y=n-p) (n-i)
  ⟨i,.aE,aB rfl,fM _,om,by rw[BC U];exact cY.aE _ _ _,Fr.refl h,rfl⟩ ?_
 rintro Y c k ⟨p,q,⟨g,rfl⟩,a1,a2,J,f,rfl⟩
 by_cases m:(p:Int)<(n:Int)
 case neg=>
  have o:=bH m;obtain rfl:p=n:=om
  simp(disch:=omega)only[go_sem,w,o];exact⟨J,f⟩
 have o:=oQ m
 have u:p<n:=om
 have L:=R.mono f
 obtain⟨_,a0,N,s,G⟩:=L.open
 have Z:=G i hi
 have x:=L.cell hi u
 have z:=R.ent i p hi u
 have ll:=Mk t i p
 have Q:=JM (t:=t) i p
 have step:(p=i∨(t i p).isSome)-> ∃d,xQ (k.new (.cells false (ints [(p:Int)]))) 1 8 q (.sl k.next 0 1 (.kn 1))=some (.sl (k.next+1) 0 ((BH t i p).length+1) (.un 1),d)/\cY d (.sl (k.next+1) 0 ((BH t i p).length+1) (.un 1)) 1 (ints (zi (BH t i (p+1)))) h.next/\Fr h d:=λhc=>by
  obtain⟨d,j,a,l,n4,_⟩:=Hi (v:= aC p) J f (by rw[fT,aQ];omega) (bytes:=8) om;rw[fT,aQ] at j a;refine⟨d,j,?_,l⟩;rw[Q,bF hc,We,uT];exact a
 by_cases r:p=i
 ·have A:decide ((p:Int)=(i:Int))=true:=oQ om
  obtain⟨d,j,a,l⟩:=step (.inl r)
  simp(disch:=omega)only[go_sem,w,o,A,Us,j]
  rw[eJ p]
  exact⟨n-(p+1),om,p+1,_,aB rfl,om,om,a,l,rfl⟩
 have A:decide ((p:Int)=(i:Int))=false:=bH om
 cases hto:t i p with
 |none=>
  rw[hto] at z;rw[z.nil] at x;simp(disch:=omega)only[go_sem,w,o,A,s.ixa,Z,x];rw[eJ p];refine⟨n-(p+1),om,p+1,q,aB rfl,om,om,?_,f.bA om,rfl⟩;rw[Q,bI (by rw[hto];simp [r]),vF];exact J.fr ((Fr.refl k).bA om)
 |some y=>
  rw[hto] at z;have K:PV W h (F i p) y:=z;have O:=Hv K (bE.ne h0 (U.cU _ _ _ hto)) true;generalize F i p=vz at x K O;obtain⟨d,j,a,l⟩:=step (.inr (by rw[hto];rfl));simp(disch:=omega)only[go_sem,w,o,A,s.ixa,Z,x,O,Us,j];rw[eJ p];exact⟨n-(p+1),om,p+1,_,aB rfl,om,om,a,l,rfl⟩
theorem SL.aiF {h h':H}{v:V}{l:List Int}(c:SL h l v h')(d:0<l.length):zD h h' v l:=by
 obtain⟨_,f,e⟩:=c;obtain⟨id,rfl,i,a,b⟩:=e d;exact⟨⟨id,_,rfl,i,a,b,.inl rfl⟩,f⟩
theorem JJ (b:Nat)(W:Nat->Prop)(h:H)(n:Nat)(tv:V)(ρ:Nat->Nat)(F:Nat->Nat->V)(t:rL)(d p:Nat)(x:List Nat)(hn:n<=64)(h0:0<n)(Q:d<n)(hp:p<n)(R:Ia b W h n tv ρ F t)(TI:oK n t)(tw:pI n 0 (kX n t))(a7:(kX n t d).to p=some x):
  Ev T 133 [tv,aC d,aC p] h (λv h'=>zD h h' v (zi (Kb (kX n t) (n-(d+1)) (d+1) x))):=by
 have X:=(uN TI Q a7).1
 refine cV rU rfl ?_
 obtain⟨lv,c7,c0,c5,c8⟩:=R.open
 simp(disch:=omega)only[go_sem,rU,aD,lv]
 refine (aaW n h om).mono ?_
 rintro v1 h1 ⟨s1,f1,l1⟩
 simp(disch:=omega)only[go_sem]
 have a8: ∀id,W id->id<h.next:=R.Nw
 refine jT (λvs z=> ∃vx,(∃g:Nat->V,vs= [tv,aC d,aC p,g 3,vx,g 5,g 6,g 7,g 8,g 9,g 10,g 11,g 12,g 13])/\PV W z vx x/\Fr h z) ?_ ?_
 ·have r:(if p=d then some (bL n) else t d p)=some x:=a7
  refine aW (λb5=>?_) (λb5=>?_)
  ·have J:p≠d:=om
   rw[bI J] at r
   have R1:=R.mono f1
   obtain⟨_,a3,A,Z,G⟩:=R1.open
   have cr:=G d Q
   have ce:=R1.cell Q hp
   have hS:=R1.ent d p Q hp
   rw[r] at hS
   have pz:PV W h1 (F d p) x:=hS
   generalize F d p=vz at ce pz
   simp(disch:=omega)only[go_sem,Z.ixa,cr,ce]
   exact .inl ⟨vz,aB rfl,pz,f1⟩
  ·have J:p=d:=om
   rw[bF J] at r
   obtain rfl:bL n=x:=Option.some.inj r
   simp(disch:=omega)only[go_sem]
   exact .inl ⟨v1,aB rfl,PV.fresh s1 l1 a8,f1⟩
 clear s1 f1 l1 v1 h1
 rintro i h1 ⟨vx,⟨g,rfl⟩,px,f1⟩
 simp(disch:=omega)only[go_sem]
 rw[eJ d]
 refine bJ (λvs z=> ∃s,(∃g:Nat->V,vs= [tv,g 1,g 2,g 3,s,g 5,g 6,g 7,g 8,g 9,g 10,g 11,g 12,g 13])/\PV W z s (Kb (kX n t) (n-(d+1)) (d+1) x)/\bE n (Kb (kX n t) (n-(d+1)) (d+1) x)/\Fr h z) ?_ ?_
 ·refine aH (λk' i z=> ∃(k:Nat) (y:List Nat) (s:V),(∃g:Nat->V,i= [tv,g 1,g 2,g 3,s,aC k,g 6,g 7,g 8,g 9,g 10,g 11,g 12,g 13])/\d<k/\k<=n/\Kb (kX n t) (n-k) k y=Kb (kX n t) (n-(d+1)) (d+1) x/\
    PV W z s y/\bE n y/\Fr h z/\k'=n-k) (n-(d+1))
   ⟨d+1,x,vx,aB rfl,om,om,rfl,px,X,f1,rfl⟩ ?_
  clear px f1 vx h1 g
  rintro k' i h2 ⟨k,y,s,⟨g,rfl⟩,d0,c9,w,hy,Y,f,rfl⟩
  by_cases a4:(k:Int)<(n:Int)
  case neg=>
   have e1:=bH a4;obtain rfl:k=n:=om
   rw[Nat.sub_self] at w;simp(disch:=omega)only[go_sem,lv,e1];have b0:y=Kb (kX k t) (k-(d+1)) (d+1) x:=w;exact⟨s,aB rfl,by rw[←b0];exact hy,by rw[←b0];exact Y,f⟩
  have l:k<n:=om
  have e1:=oQ a4
  have R2:=R.mono f
  simp(disch:=omega)only[go_sem,lv,e1]
  refine (Xk b W h2 n tv ρ F t k hn h0 l R2 TI).mono ?_
  rintro vo h3 ⟨oo,f3⟩
  obtain⟨o,ho⟩:=exI ((kX n t k).orb)
  rw[show BH t k n=o from ho] at oo
  have so:SI h3 vo (zi o):=oo.sv
  have lo:=so.lens
  rw[aQ] at lo
  have jX:=(tw k (iJ _) l).1
  have c6:o.length<=n:=by rw[←ho];exact Mk t k n
  obtain⟨id,b6,sh,a9,hc⟩:=so.open
  rw[aQ] at sh a9 hc
  have a5:=PV.mono hy f3
  obtain⟨a3,A,Z,L,G⟩:=a5.si.open
  rw[aQ,Y.len] at Z L G
  simp(disch:=omega)only[go_sem]
  refine bJ (λvs z=>(∃g:Nat->V,vs= [tv,g 1,g 2,g 3,s,aC k,g 6,aC (oI y k o:Int),g 8,g 9,g 10,g 11,g 12,g 13])/\oI y k o<n/\oI y k o∈k::o/\Fr h3 z) ?_ ?_
  ·refine aH (λm' i z=> ∃(m b:Nat),(∃g:Nat->V,i= [tv,g 1,g 2,g 3,s,aC k,vo,aC b,aC m,g 9,g 10,g 11,g 12,g 13])/\m<=o.length/\b<n/\b∈k::o/\
     oI y b (o.drop m)=oI y k o/\Fr h3 z/\m'=o.length-m) o.length
    ⟨0,k,aB rfl,iJ _,l,Ab ..,rfl,Fr.refl h3,rfl⟩ ?_
   rintro m' i h4 ⟨m,b1,⟨g3,rfl⟩,hm,hb,K,a,N,rfl⟩
   by_cases a0:(m:Int)<(o.length:Int)
   case neg=>
    have e2:=bH a0;have em:m=o.length:=om
    rw[em,List.drop_length] at a;have a:b1=oI y k o:=a;simp(disch:=omega)only[go_sem,lo,e2];exact⟨by rw[←a];exact aB rfl,by rw[←a];exact hb,by rw[←a];exact K,N⟩
   have e2:=oQ a0
   have B:m<o.length:=om
   rw[ajU _ _ B] at a
   have cq:h4.cell id (b6+m)=some (aC (o.getD m 0:Nat)):=by rw[N.cell (a9 om),hc m B];congr 2;simp [zi,B]
   have a1:o.getD m 0∈o:=by rw[cJ B];exact zG B
   have P:=jX.lt l (by rw[ho];exact a1)
   generalize o.getD m 0=q at cq a1 P a
   have c1:h4.cell a3 (A+q)=some (aC (y.getD q 0:Nat)):=by rw[N.cell (L om),G q P];congr 2;simp [zi,Y.len,P]
   have c2:h4.cell a3 (A+b1)=some (aC (y.getD b1 0:Nat)):=by rw[N.cell (L om),G b1 hb];congr 2;simp [zi,Y.len,hb]
   simp(disch:=omega)only[go_sem,lo,e2,sh.ixa,cq,Z.ixa,c1,c2]
   have fb:Fr h3 (H.mk h4.tr (h4.next+12)):=N.bA om
   refine aW (λb3=>?_) (λb3=>?_)
   ·rw[bF om] at a
    simp(disch:=omega)only[go_sem,sh.ixa,cq]
    rw[eJ m]
    exact⟨o.length-(m+1),om,m+1,q,aB rfl,om,P,Cu _ a1,a,fb,rfl⟩
   ·rw[bI om] at a
    simp(disch:=omega)only[go_sem]
    rw[eJ m]
    exact⟨o.length-(m+1),om,m+1,b1,aB rfl,om,hb,K,a,fb,rfl⟩
  rintro i h4 ⟨⟨g4,rfl⟩,hb,K,N⟩
  have a2:n-k=(n-(k+1))+1:=om
  rw[a2] at w
  have w:Kb (kX n t) (n-(k+1)) (k+1) (if oI y k (kX n t k).orb=k then y else aX (((kX n t k).to (oI y k (kX n t k).orb)).getD []) y)=Kb (kX n t) (n-(d+1)) (d+1) x:=w
  rw[ho] at w
  have R4:=R2.mono (f3.trans N)
  have a6:=PV.mono a5 N
  generalize oI y k o=q at w hb K
  by_cases O:q=k
  ·rw[bF O] at w
   have e0:decide ((q:Int)≠(k:Int))=false:=bH om
   simp(disch:=omega)only[go_sem,e0]
   rw[eJ k]
   exact⟨n-(k+1),om,k+1,y,s,aB rfl,om,om,w,a6,Y,(f.trans f3).trans N,rfl⟩
  rw[bI O] at w
  have e0:decide ((q:Int)≠(k:Int))=true:=oQ om
  have b8:q∈(kX n t k).orb:=by
   rcases zH.1 K with e|e
   ·exact absurd e O
   ·rw[ho];exact e
  obtain⟨u,hu⟩:=jX.to b8
  have U:=jX.cU _ _ hu
  have b2:(if q=k then some (bL n) else t k q)=some u:=hu
  rw[bI O] at b2
  obtain⟨_,c4,c3,b9,b7⟩:=R4.open
  have cr:=b7 k l
  have ce:=R4.cell l hb
  have hS:=R4.ent k q l hb
  rw[b2] at hS
  have pu:PV W h4 (F k q) u:=hS
  generalize F k q=vu at ce pu
  rw[hu] at w
  simp(disch:=omega)only[go_sem,e0,b9.ixa,cr,ce]
  refine (Lj vu s u y h4 (by rw[U.len];omega) pu.si a6.si (λj hj=>by rw[Y.len];exact U.iN (by rw[←U.len];exact hj))).mono ?_
  rintro v h5 ⟨s5,f5,l5⟩
  simp(disch:=omega)only[go_sem]
  rw[eJ k]
  exact⟨n-(k+1),om,k+1,_,v,aB rfl,om,om,w,PV.fresh s5 l5 R4.Nw,U.mul Y,((f.trans f3).trans N).trans f5,rfl⟩
 rintro i h2 ⟨s,⟨g2,rfl⟩,py,Y,f2⟩
 simp(disch:=omega)only[go_sem]
 refine (afK s _ h2 py.si (by rw[aQ,Y.len];omega)).mono ?_
 rintro v h3 c
 have fr:=SL.aiF c (by rw[aQ,Y.len];exact h0)
 simp(disch:=omega)only[go_sem]
 obtain⟨⟨id,b4,e1,e2,e3,e4,e5⟩,f3⟩:=fr
 exact⟨⟨id,b4,e1,by have:=f2.next;omega,e3,e4,e5⟩,f2.trans f3⟩
theorem MD (b:Nat)(W0:Nat->Prop)(h:H)(n:Nat)(tv:V)(ρ:Nat->Nat)(F:Nat->Nat->V)(t:rL)(hn:n<=64)(h0:0<n)(R:Ia b W0 h n tv ρ F t)(TI:oK n t)(tw:pI n 0 (kX n t)):
  Ev T 89 [tv] h (λv h'=> ∃O R',NL (λid=>id<h.next) h' v n O R'/\bC n (S n (kX n t) 0) O R'/\Fr h h'):=by
 refine cV sF rfl ?_
 have lv:=R.open.1
 obtain⟨τ,a6⟩:=exI (kX n t)
 obtain⟨B,hB⟩:=exI h.next
 have bl:rO [aC 0,.aE,.aE] [(0,1,aC n)]=some (.agg [aC n,.aE,.aE]):=by
  have e1:putAt [aC 0,.aE,.aE] 0 [aC n]=some [aC n,.aE,.aE]:=by simp [putAt]
  simp [rO,iS,e1,V.cells,V.one]
 obtain⟨U,a2⟩: ∃U,U=(h.new (.cells false [aC 0,.aE,.aE])).new (.cells false [aC 0,.aE,.aE]):=⟨_,rfl⟩
 have n1:U.next=B+2:=by rw[a2,H.aU,H.aU,hB]
 have g1:U.get (B+1)=aZ [aC 0,.aE,.aE]:=by
  rw[a2];have:=H.aL (h.new (.cells false [aC 0,.aE,.aE])) (.cells false [aC 0,.aE,.aE]);rwa [H.aU,hB] at this
 have g0:U.get B=aZ [aC 0,.aE,.aE]:=by rw[a2,H.bG _ (by rw[H.aU,hB];omega),←hB,H.aL]
 have f1:Fr h U:=by rw[a2];exact ((Fr.refl h).new _).new _
 simp(disch:=omega)only[go_sem,sF,aD,hB,lv,bl]
 rw[←a2]
 simp(disch:=omega)only[go_sem,bW U (B+1) 0 (v:= aC n) (u:= .aE) (w:= .aE) rfl rfl rfl,g1,cF]
 obtain⟨l,a1⟩: ∃l,l=U.set (B+1) (aZ [aC n,.aE,.aE]):=⟨_,rfl⟩
 have n2:l.next=B+2:=by rw[a1];exact n1
 have f2:Fr h l:=by rw[a1];exact f1.set om _
 have g2:l.get (B+1)=aZ [aC n,.aE,.aE]:=by rw[a1,H.aS]
 have c3:l.get B=aZ [aC 0,.aE,.aE]:=by rw[a1,H.aG _ om];exact g0
 rw[←a1]
 clear a2 a1 f1 g0 g1 n1 U
 refine aH (λk' Z G=> ∃(i:Nat) (W:Nat->Prop) (O:LN) (R':jI) (vO K:V) (d2 b7:List V),(∃g:Nat->V,Z= [tv,.ptr B 0,.ptr (B+1) 0,aC i,g 4,g 5,g 6,g 7,g 8])/\i<=n/\Ae h G (B+1) B W n O R' vO K d2 b7/\
   G.get B=aZ [aC 0,.aE,.aE]/\O.length=i/\R'.length=i/\(∀j,j<i->ChL τ n j (O.getD j []) (R'.getD j []))/\k'=n-i) n
  ⟨0,_, [], [],_,_,_,_,aB rfl,iJ _,Ae.start om om om om om f2 g2,c3,rfl,rfl,λj hj=>om,rfl⟩ ?_
 clear f2 g2 c3 n2 l
 rintro k' Z l ⟨i,W,O,R',vO,K,d2,b7,⟨g,rfl⟩,hi,A,gB,lO,lR,hC,rfl⟩
 by_cases c2:(i:Int)<(n:Int)
 case neg=>
  have e1:=bH c2;obtain rfl:i=n:=om
  have hr:=aI A.get;have nB:=A.fr.next;simp(disch:=omega)only[go_sem,lv,e1,hr,bW l B 0 (v:= aC i) (u:=vO) (w:=K) rfl (SV.cK A.oO.sv).2.1 (SV.cK A.oR.sv).2.1,gB,cF];have f3:=aI (h:=l.set B (aZ [aC i,vO,K])) (H.aS ..);have fB:Fx (· =B) l (l.set B (aZ [aC i,vO,K])):=Fx.set l (W:=(· =B)) rfl _;simp(disch:=omega)only[go_sem,f3]
  obtain⟨h3,c4⟩: ∃h3,h3=l.set B (aZ [aC i,vO,K]):=⟨_,rfl⟩
  rw[←c4] at fB ⊢;have A3:=A.box c4;refine⟨O,R',by rw[←hB];exact A3.chw,?_,A3.fr⟩;rw[a6] at tw ⊢;have X:=tw.chain (O:=O) (R:=R') lO lR (λj hj=>(hC j hj).1) (λj hj=>(hC j hj).2.1) (λj hj=>(hC j hj).2.2.1) (λj hj=>(hC j hj).2.2.2);exact X
 have e1:=oQ c2
 have b1:i<n:=om
 have R2:=R.mono A.fr
 have jX:=(tw i (iJ _) b1).1
 rw[a6] at jX
 simp(disch:=omega)only[go_sem,lv,e1]
 refine (Xk b W0 l n tv ρ F t i hn h0 b1 R2 TI).mono ?_
 rintro vo h4 ⟨oo,f4⟩
 obtain⟨q,hq⟩:=exI (BH t i n)
 have d0:q.Pairwise (· < ·):=by rw[←hq];exact QG i n
 have a3: ∀p,p∈q↔p∈(τ i).orb:=λp=>by rw[←hq,OM,a6]
 have i7:q.length<=n:=by rw[←hq];exact Mk t i n
 have i6:0<q.length:=HJ ((a3 i).2 jX.base)
 rw[hq] at oo
 obtain⟨P,cp,rfl,j2,e0,cP⟩: ∃P cp,vo= .sl P 0 q.length cp/\l.next<=P/\P<h4.next/\ ∀k,k<q.length->h4.cell P k=some (aC (q.getD k 0:Nat)):=by
  rcases oo with ⟨_,e⟩|⟨id,m,d3,i5,e1,e2,e3,e4,e5,e6⟩
  ·have:=congrArg List.length e
   rw[fT,aQ,List.length_nil] at this;omega
  ·rw[fT,aQ,uW] at e2
   subst e2;exact⟨id,d3,e1,e4,e5,λk hk=>by rw[H.aF e6,Dv (by rw[fT,aQ];exact hk),Ip hk]⟩
 have A4:=A.mono f4
 have pq:PV W h4 (.sl P 0 q.length cp) q:=⟨oo.sv,λhw=>by have:=A.wb P hw;omega⟩
 have d4:h4.get B=aZ [aC 0,.aE,.aE]:=by rw[f4.get B (A.wb B A.d)];exact gB
 clear A gB R2 oo
 simp(disch:=omega)only[go_sem]
 refine bJ (λvs G=> ∃(L:V) (r:LN),(∃g:Nat->V,vs= [tv,.ptr B 0,.ptr (B+1) 0,aC i,.sl P 0 q.length cp,L,g 6,g 7,g 8])/\PL W G L r/\ChL τ n i q r/\Fr h4 G) ?_ ?_
 ·refine aH (λk' vs G=> ∃(k:Nat) (L:V) (ws:List V) (r:LN) (W':Nat->Prop),(∃g:Nat->V,vs= [tv,.ptr B 0,.ptr (B+1) 0,aC i,.sl P 0 q.length cp,L,aC k,g 7,g 8])/\k<=q.length/\cY G L 1 ws h4.next/\fW W' G ws r/\Hq W' L/\(∀id,W id->W' id)/\(∀id,W' id->id<G.next/\(W id∨h4.next<=id))/\r.length=k/\
    (∀j,j<k-> ∀y,(τ i).to (q.getD j 0)=some y->r.getD j []=Kb τ (n-(i+1)) (i+1) y)/\Fr h4 G/\k'=q.length-k) q.length
   ⟨0,.aE, [], [],W,aB rfl,iJ _,cY.aE _ _ _,trivial,λ_ _ _ _ e=>(by cases e),λ_ h=>h,λid h=>⟨A4.wb id h,.inl h⟩,rfl,λj hj=>om,Fr.refl _,rfl⟩ ?_
  rintro k' Z f ⟨k,L,ws,r,W',⟨g,rfl⟩,hk,ow,b6,e7,c1,d1,lr,hr,f5,rfl⟩
  by_cases b5:(k:Int)<(q.length:Int)
  case neg=>
   have e2:=bH b5;obtain rfl:k=q.length:=om
   simp(disch:=omega)only[go_sem,e2];refine⟨L,r,aB rfl,⟨ws,ow.sv,?_,b6.Fo (λid _ h=>c1 id h),cY.NN ow⟩,⟨d0,a3,lr,hr⟩,f5⟩
   cases L with
   |sl id b0 m c=>exact λh=>by have:=(ow.in _ _ _ _ rfl).2.1;have:=A4.wb id h;omega
   |_=>trivial
  have e2:=oQ b5
  have c0:k<q.length:=om
  obtain⟨p,hp⟩:=exI (q.getD k 0)
  have ck:f.cell P k=some (aC p):=by
   rw[f5.cell e0,cP k c0,hp]
  have c7:p∈(τ i).orb:=(a3 p).1 (by rw[←hp,cJ c0];exact zG c0)
  have i2:=jX.lt b1 c7
  obtain⟨y,hy⟩:=jX.to c7
  have Y:=jX.cU _ _ hy
  have R5:=R.mono (A4.fr.trans f5)
  simp(disch:=omega)only[go_sem,e2,ck]
  refine (JJ b W0 f n tv ρ F t i p y hn h0 b1 i2 R5 TI tw (by rw[a6];exact hy)).mono ?_
  rw[a6]
  rintro v7 Q c8
  have f7:=c8.fr
  have p7:PV W' Q v7 (Kb τ (n-(i+1)) (i+1) y):=c8.pv λid h=>(d1 id h).1
  simp(disch:=omega)only[go_sem,cT Q (z:= .aE) p7.fG.1 p7.fG.2]
  obtain⟨N,J⟩: ∃N,N=Q.new (.cells false [v7]):=⟨_,rfl⟩
  have g8:N.get Q.next=aZ [v7]:=by rw[J,H.aL]
  have n8:N.next=Q.next+1:=by rw[J,H.aU]
  have f8:Fr Q N:=by rw[J];exact (Fr.refl Q).new _
  rw[←J]
  have b3:=f7.trans f8
  have f0:=ow.fr b3
  have i8:=aM.length b6
  obtain⟨h9,a9,p9⟩:=f0.push (bytes:=24) (SV.one om g8 (.kn 1)) (n:=k) (m:=1) om rfl om om om
  simp(disch:=omega)only[go_sem,a9]
  rw[eJ k]
  have n9:=p9.next
  have f9:Fx W' N h9:=p9.fx e7
  have d7:=b3.next
  have c5: ∀id,id<N.next->(W' id∨id=N.next)->W' id:=λid U l=>by
   rcases l with l|l
   ·exact l
   ·omega
  refine⟨q.length-(k+1),om,k+1,_,_,r++ [Kb τ (n-(i+1)) (i+1) y],λid=>W' id∨id=N.next,aB rfl,om,p9.own om rfl (by have:=f5.next;omega),?_,λid b0 m c e=>by cases e;exact .inr rfl,λid h=> .inl (c1 id h),λid h=>?_,by rw[jZ,lr];rfl,λj hj z hz=>?_,?_,rfl⟩
  ·exact (fW.go (fW.go b6 (Fx.of b3) (λ_ _ h=>h)) f9 c5).append (fW.one (PV.go (p7.mono f8) f9 c5))
  ·rcases h with h|h
   ·have:=d1 id h;exact⟨om,this.2⟩
   ·have:=f5.next;exact⟨om,.inr om⟩
  ·by_cases e:j=k
   ·subst e
    rw[hp,hy] at hz
    cases hz
    rw[←lr,kG]
   ·rw[mI om]
    exact hr j om z hz
  ·refine⟨by have:=f5.next;omega,λid b2=>?_⟩
   rw[p9.old id (by have:=f5.next;omega) (λg9 b0 m c e e2=>by have:=(ow.in _ _ _ _ e).2.1;omega),b3.get id (by have:=f5.next;omega)]
   exact f5.get id b2
 rintro Z f ⟨L,r,⟨g,rfl⟩,pl,e8,f5⟩
 have s:=A4.mono f5
 have g5:=pq.mono f5
 have d6:f.get B=aZ [aC 0,.aE,.aE]:=by rw[f5.get B (A4.wb B A4.d)];exact d4
 have cO:f.cell (B+1) 1=some vO:=by rw[H.aF s.get];rfl
 have cR:f.cell (B+1) 2=some K:=by rw[H.aF s.get];rfl
 obtain⟨ws,b9,d8,e9,d5⟩:=pl
 have pl:PL W f L r:=⟨ws,b9,d8,e9,d5⟩
 have i9:=s.fr.next
 have c6:=s.wb _ s.c
 simp(disch:=omega)only[go_sem,cO,cR,cT _ (z:= .aE) (v:= .sl P 0 q.length cp) rfl rfl]
 obtain⟨h6,b4⟩: ∃h6:H,h6=H.mk ((H.mk f.tr (f.next+3)).new (Ob.cells false [.sl P 0 q.length cp])).tr (f.next+14):=⟨_,rfl⟩
 rw[←b4]
 have g6:h6.get (f.next+3)=aZ [.sl P 0 q.length cp]:=by rw[b4];exact H.aL (H.mk f.tr (f.next+3)) _
 have n6:h6.next=f.next+14:=by rw[b4]
 have o6: ∀k,k≠f.next+3->h6.get k=f.get k:=λk hk=>by rw[b4];exact H.bG (H.mk f.tr (f.next+3)) (by simpa using hk) _
 have f6:Fr f h6:=⟨om,λid b2=>o6 id om⟩
 have j0:=aM.length s.aO
 have j1:=aM.length s.aR
 obtain⟨Q,a7,p7⟩:=(s.oO.fr f6).push (bytes:=24) (SV.one om g6 (.kn 1)) (n:=i) (m:=1) om rfl om om om
 have n7:=p7.next
 have a5: ∀k,k<f.next->dL vO k->Q.get k=f.get k:=λk U l=>by rw[p7.old k om l,o6 k om]
 have i3:Q.cell (B+1) 2=some K:=by unfold H.cell;rw[a5 (B+1) c6 s.pO,s.get];rfl
 have eR:dE K K=true:=s.oR.sv.dE
 have c9:L.cells= [L]/\L.one=true:=⟨(SV.cK b9).1,(SV.cK b9).2.1⟩
 simp(disch:=omega)only[go_sem,a7,i3,eR,cT _ (z:= .aE) c9.1 c9.2]
 obtain⟨N,J⟩: ∃N:H,N=H.mk ((H.mk Q.tr (f.next+8)).new (Ob.cells false [L])).tr Q.next:=⟨_,rfl⟩
 rw[←J]
 have g8:N.get (f.next+8)=aZ [L]:=by rw[J];exact H.aL (H.mk Q.tr (f.next+8)) _
 have n8:N.next=Q.next:=by rw[J]
 have o8: ∀k,k≠f.next+8->N.get k=Q.get k:=λk hk=>by rw[J];exact H.bG (H.mk Q.tr (f.next+8)) (by simpa using hk) _
 have d9:cY N K 1 b7 h.next:=s.oR.mono om λid b0 m c e _ b2=>by
  rw[o8 id om,a5 id b2 (λg9 i4 n' c' e' e2=>s.IQ _ _ _ _ e' _ _ _ _ e e2.symm)]
 obtain⟨h9,a9,p9⟩:=d9.push (bytes:=24) (SV.one om g8 (.kn 1)) (n:=i) (m:=1) om rfl om om om
 have n9:=p9.next
 have g3: ∀k,f.next<=k->dL K k:=λk hk id b0 m c e e2=>by have:=(s.oR.in _ _ _ _ e).1;omega
 have a8: ∀k,k<f.next->dL vO k->dL K k->h9.get k=f.get k:=λk U l h3=>by rw[p9.old k om h3,o8 k om,a5 k U l]
 have g7:h9.get (B+1)=aZ [aC n,vO,K]:=by rw[a8 _ c6 s.pO s.pR];exact s.get
 have i0: ∀(G:H) (x:V),dX (aZ [aC n,vO,K]) G (B+1) 1 [x]=some (G.set (B+1) (aZ [aC n,x,K])):=λG x=>bN (by simp) G _ x
 have i1: ∀(G:H) (x y:V),dX (aZ [aC n,x,K]) G (B+1) 2 [y]=some (G.set (B+1) (aZ [aC n,x,y])):=λG x y=>bN (by simp) G _ y
 simp(disch:=omega)only[go_sem,a9,g7,i0,i1]
 rw[eJ i]
 obtain⟨ha,hb⟩:h6.next=f.next+14/\N.next=f.next+15:=⟨n6,om⟩
 rw[ha,hb]
 obtain⟨a4,a0⟩: ∃a4,a4=(h9.set (B+1) (aZ [aC n,.sl (f.next+14) 0 (i+1) (.un 1),K])).set (B+1) (aZ [aC n,.sl (f.next+14) 0 (i+1) (.un 1),.sl (f.next+15) 0 (i+1) (.un 1)]):=⟨_,rfl⟩
 rw[←a0]
 have b8: ∀k,k≠B+1->a4.get k=h9.get k:=λk hk=>by rw[a0,H.aG _ hk,H.aG _ hk]
 have j3:a4.next=f.next+16:=by rw[a0];show h9.next=_;omega
 have g4:=s.step (v4:= .sl P 0 q.length cp) (v5:=L) (o:=q) (r:=r) (h6:=a4) (a:=f.next+14) (b:=f.next+15) (k1:=i+1) (k2:=i+1) g5 pl om om om om om om om (by rw[a0,H.aS])
  (by rw[b8 _ om,p9.old _ om (g3 _ om),o8 _ om,←ha];exact p7.get) (by rw[b8 _ om,←hb];exact p9.get) (λk U l h3 h4=>by rw[b8 k l];exact a8 k U h3 h4)
 refine⟨n-(i+1),om,i+1,_,_,_,_,_,_,_,aB rfl,om,g4,?_,by rw[jZ,lO];rfl,by rw[jZ,lR];rfl,λj hj=>?_,rfl⟩
 ·rw[a8 B (s.wb B s.d) s.qO s.qR];exact d6
 ·by_cases e:j=i
  ·subst e
   have e1:(O++ [q]).getD j []=q:=by rw[←lO];exact kG
   have e2:(R'++ [r]).getD j []=r:=by rw[←lR];exact kG
   rw[e1,e2]
   exact e8
  ·rw[mI om,mI om]
   exact hC j om
theorem VA (h:H)(n:Nat)(a:n<=100000):Jo h 1 24 [.aE] (aC n) (aC n)=some (.sl h.next 0 n (.kn n),h.new (.cells false (rc n λ_=> .aE))):=by
 have e:cX [V.aE] n=rc n λ_=> .aE:=(Kq (by simp [cX]) λi hi=>by simp [cX,hi,Nat.mod_one]).symm
 rw[tU om (Int.le_refl _) om om,NK,uW,e]
theorem SW (n:Nat)(h:H)(hn:n<=64):Ev T 86 [aC n] h (λv h'=> ∃ρ F,Ia h.next (WB n ρ) h' n v ρ F (λ_ _=>none)/\Fr h h'):=by
 refine cV Dw rfl ?_;simp(disch:=omega)only[go_sem,Dw,aD]
 refine aH (λU k x=> ∃(i:Nat) (s:V) (b:List Nat),(∃g:Nat->V,k= [aC n,g 1,s,aC i,g 4])/\i<=n/\b.length=i/\cY x s 1 (b.map λr=> .sl r 0 n (.kn n)) h.next/\b.Nodup/\
   (∀r∈b,h.next<=r/\r<x.next/\x.get r=some (.cells false (rc n λ_=> .aE))/\dL s r)/\Fr h x/\U=n-i) n
  ⟨0,.aE, [],aB rfl,iJ _,rfl,cY.aE _ _ _,List.nodup_nil,λr l=>absurd l List.not_mem_nil,Fr.refl h,rfl⟩ ?_
 rintro U k G ⟨i,s,b,⟨g,rfl⟩,hi,y,B,nd,l,f,rfl⟩
 by_cases q:(i:Int)<(n:Int)
 case neg=>
  have A:=bH q;obtain rfl:i=n:=om
  simp(disch:=omega)only[go_sem,A];have w: ∀j,j<i->b.getD j 0∈b:=λj d=>bD om
  refine⟨λj=>b.getD j 0,λ_ _=> .aE,⟨?_,?_,λj d=>(l _ (w j d)).2.2.1,λj d=>⟨j,d,rfl⟩,?_,?_,λa c N O e=>?_,λ_ _ _ _=>rfl⟩,f⟩
  ·have R:(rc i λj=>V.sl (b.getD j 0) 0 i (.kn i))=b.map λr=> .sl r 0 i (.kn i):=Kq (by rw[jV];exact y) λj d=>by
    rw[Ol,dD om,List.getD,dD om];rfl
   rw[R];exact B.sv
  ·cases s with
   |sl id o m c=>
    rintro⟨j,d,e⟩;exact (l _ (w j d)).2.2.2 _ _ _ _ rfl e
   |_=>trivial
  ·rintro id ⟨j,d,rfl⟩;exact (l _ (w j d)).2.1
  ·rintro id ⟨j,d,rfl⟩;exact (l _ (w j d)).1
  ·have W:=dD (show a<b.length by omega)
   have ec:=dD (show c<b.length by omega);simp only[List.getD,W,ec,Option.getD_some] at e;rcases Nat.lt_trichotomy a c with t|t|t
   ·exact absurd e (JX.1 nd a c om om t)
   ·exact t
   ·exact absurd e.symm (JX.1 nd c a om om t)
 have A:=oQ q;obtain⟨S,Q⟩:=exI G.next;obtain⟨h3,e3,L,g3,o3,P⟩:=dF Q (rc n λ_=> .aE);have fn:=f.next;obtain⟨h4,K,u,Z,n4,J⟩:=Hi (v:= .sl S 0 n (.kn n)) (B.fr P) (f.trans P) (by rw[jV];omega) (bytes:=24) om;rw[jV,y,L] at K u;simp(disch:=omega)only[go_sem,A,VA G n om,Q,e3,cT _ (z:= .aE) (v:= .sl S 0 n (.kn n)) rfl rfl,L,K];rw[eJ i];have p: ∀r∈b,r<S:=λr h=>by have:=(l r h).2.1;omega
 refine⟨n-(i+1),om,i+1,_,b++ [S],aB rfl,om,by rw[jZ,y];rfl,by rw[List.map_append];exact u,List.nodup_append.2 ⟨nd,by simp,λa N c O e=>?_⟩,λr h=>?_,Z,rfl⟩
 ·have:=p a N
  simp at O;omega
 ·rcases pH.1 h with h|h
  ·obtain⟨Y,b2,b3,b4⟩:=l r h
   refine⟨Y,om,by rw[J r om b4,o3 r om];exact b3,λid o m c e=>by cases e;omega⟩
  ·simp at h
   subst h;refine⟨om,om,by rw[J _ om (λid o m c e R=>by have:=(B.in _ _ _ _ e).1;omega)];exact g3,λid o m c e=>by cases e;omega⟩
theorem afJ (U:V)(n:Nat)(l:LN)(h:H)(n0:1<=n)(n7:n<=7)(hl:l.length<=4096)(hv:SP h U l)(hP: ∀g∈l,bE n g):
  Ev T 30 [aC n,U] h (λv h'=> ∃vc O R,v= .tup [vc,aC 0]/\GC (λid=>id<h.next) h' vc n O R (bX n (· ∈l))/\Fr h h'):=by
 refine cV Gq rfl ?_
 obtain⟨B,hB⟩:=exI h.next
 obtain⟨h1,e1,n1,g1,o1,f1⟩:=dF hB [aC 0,.aE,.aE]
 have d1:decide ((n:Int)<1)=false:=bH om
 have d2:decide ((64:Int)<(n:Int))=false:=bH om
 have Q:=hv.lens
 rw[jV] at Q
 have d3:decide ((4096:Int)<(l.length:Int))=false:=bH om
 obtain⟨id,J,ws,sh,d,a6,N,z⟩:=hv.open
 rw[jV] at sh d a6 N
 simp(disch:=omega)only[go_sem,Gq,aD,hB,e1,d1,d2,Q,d3]
 refine bJ (λL s=>(∃g:Nat->V,L= [aC n,U,.ptr B 0,g 3,g 4,g 5,g 6,g 7,g 8,g 9,g 10,g 11,g 12,g 13])/\Fr h1 s) ?_ ?_
 ·refine aH (λk' L s=> ∃(i:Nat),(∃g:Nat->V,L= [aC n,U,.ptr B 0,g 3,aC i,g 5,g 6,g 7,g 8,g 9,g 10,g 11,g 12,g 13])/\i<=l.length/\Fr h1 s/\k'=l.length-i) l.length
   ⟨0,aB rfl,iJ _,Fr.refl h1,rfl⟩ ?_
  rintro k' m j ⟨i,⟨g,rfl⟩,hi,f,rfl⟩
  by_cases k:(i:Int)<(l.length:Int)
  ·have P:=oQ k
   have a:i<l.length:=om
   have F2:=f1.trans f
   have ci:j.cell id (J+i)=some (ws.getD i .undef):=by rw[F2.cell (d om),N i a]
   have G:=Ml z a
   have X:bE n (l.getD i []):=hP _ (bD a)
   generalize ws.getD i .undef=vx at ci G
   have lx:=G.lens
   rw[aQ,X.len] at lx
   simp(disch:=omega)only[go_sem,Q,P,sh.ixa,ci]
   refine (Vs vx _ j (by rw[aQ,X.len];omega) (G.mono F2)).mono ?_
   rw[EE X n0 om]
   rintro _ h3 ⟨rfl,r⟩
   have a8:h3.cell id (J+i)=some vx:=by rw[r.cell (by have:=d om;have:=F2.next;omega)];exact ci
   simp(disch:=omega)only[go_sem]
   refine aW (λN=>(N rfl).elim) (λ_=>?_)
   simp(disch:=omega)only[go_sem,sh.ixa,a8,lx]
   refine aW (λN=>(N rfl).elim) (λ_=>?_)
   simp(disch:=omega)only[go_sem]
   rw[eJ i]
   exact⟨l.length-(i+1),om,i+1,aB rfl,om,f.trans r,rfl⟩
  have P:=bH k
  simp(disch:=omega)only[go_sem,Q,P]
  exact⟨aB rfl,f⟩
 rintro m j ⟨⟨g,rfl⟩,f⟩
 have F2:=f1.trans f
 have nf:=f.next
 simp(disch:=omega)only[go_sem]
 refine (SW n j om).mono ?_
 rintro A h3 ⟨ρ,F,R,r⟩
 have F3:=F2.trans r
 simp(disch:=omega)only[go_sem]
 have hL: ∀g,g∈l->bE n g:=hP
 refine bJ (λL s=> ∃(y:Nat->Nat->V) (t:rL),(∃g:Nat->V,L= [aC n,U,.ptr B 0,g 3,g 4,g 5,A,g 7,g 8,g 9,g 10,g 11,g 12,g 13])/\Ia j.next (WB n ρ) s n A ρ y t/\Oo n (· ∈l) t/\(∀g∈l,ins t n 0 g=none)/\Fx (WB n ρ) h3 s) ?_ ?_
 ·refine aH (λk' L s=> ∃(i:Nat) (y:Nat->Nat->V) (t:rL),(∃g:Nat->V,L= [aC n,U,.ptr B 0,g 3,g 4,g 5,A,aC i,g 8,g 9,g 10,g 11,g 12,g 13])/\i<=l.length/\Ia j.next (WB n ρ) s n A ρ y t/\Oo n (· ∈l) t/\(∀g∈l.take i,ins t n 0 g=none)/\Fx (WB n ρ) h3 s/\k'=l.length-i) l.length
   ⟨0,F,_,aB rfl,iJ _,R,⟨oK.empty n,λg hg=>by
    obtain⟨_,_,_,_,_,e⟩:=fV.1 hg
    cases e⟩,λg hg=>absurd hg List.not_mem_nil,Fx.refl _ _,rfl⟩ ?_
  rintro k' m W ⟨i,y,t,⟨g,rfl⟩,hi,R4,Z,Y,x,rfl⟩
  by_cases k:(i:Int)<(l.length:Int)
  case neg=>
   have P:=bH k;obtain rfl:i=l.length:=om
   simp(disch:=omega)only[go_sem,Q,P];rw[List.take_length] at Y;exact⟨y,t,aB rfl,R4,Z,Y,x⟩
  have P:=oQ k
  have a:i<l.length:=om
  have c: ∀q,WB n ρ q->j.next<=q:=R.low
  have X4:Fr h W:=F2.trans ⟨by have:=r.next;have:=x.next;omega,λq hq=>by rw[x.get q (by have:=r.next;omega) (λhw=>by have:=c q hw;omega)];exact r.get q hq⟩
  have ci:W.cell id (J+i)=some (ws.getD i .undef):=by rw[X4.cell (d om),N i a]
  have G:=Ml z a
  have X:bE n (l.getD i []):=hP _ (bD a)
  generalize ws.getD i .undef=vx at ci G
  simp(disch:=omega)only[go_sem,Q,P,sh.ixa,ci]
  have px:PV (WB n ρ) W vx (l.getD i []):=by
   refine⟨G.mono X4,GL (b:=j.next) G om c⟩
  refine (Rw j.next (WB n ρ) W n A ρ y t vx _ om om R4 px X Z.tab).mono ?_
  rintro _ h5 ⟨F5,rfl,R5,f5⟩
  simp(disch:=omega)only[go_sem]
  rw[eJ i]
  obtain⟨o,p,K⟩:=Z.ins hL (x:=l.getD i []) (bX.of hL (bD a))
  refine⟨l.length-(i+1),om,i+1,F5,_,aB rfl,om,R5,o,λu hu=>?_,x.trans f5 (λ_ _ h=>h),rfl⟩
  rcases (Ds a).1 hu with hu|rfl
  ·exact Fg p _ _ _ (Y u hu)
  ·exact K
 clear g
 rintro m W ⟨y,t,⟨g,rfl⟩,R4,Z,Y,x⟩
 have x3:=x.next
 have n3:=r.next
 simp(disch:=omega)only[go_sem]
 refine (RJ j.next (WB n ρ) W n A ρ y t (· ∈l) n7 n0 om R4 hL Z).mono ?_
 rintro _ h5 ⟨W5,F5,t5,R5,o,p,a3,x5,b1⟩
 have n5:=x5.next
 have tw:=alW o.tab a3
 simp(disch:=omega)only[go_sem]
 refine (MD j.next W5 h5 n A ρ F5 t5 om n0 R5 o.tab tw).mono ?_
 rintro vc h6 ⟨O,R',ch,a5,f6⟩
 have n6:=f6.next
 have c: ∀q,WB n ρ q->j.next<=q:=R.low
 have a2:Fr j h5:=⟨om,λq hq=>by
  rw[x5.get q om (λhw=>by have:=c q hw;omega),x.get q om (λhw=>by have:=c q hw;omega)]
  exact r.get q hq⟩
 have F6:=(F2.trans a2).trans f6
 have a7:=a2.trans f6
 have g6:h6.get B=some (.cells false [aC 0,.aE,.aE]):=by rw[a7.get B om,f.get B om];exact g1
 have a4:=ch
 obtain⟨vO,vR,b2,b0,e,t1,_,_,t2,_,_⟩:=ch
 subst e
 have a1:=t1.cK.2.1
 have a0:=t2.cK.2.1
 obtain⟨h7,e7,a9,g7,o7⟩:=pJ h6 B [aC n,vO,vR]
 have r7:=aI g7
 simp(disch:=omega)only[go_sem,bW h6 B 0 (v:= aC n) (u:=vO) (w:=vR) rfl a1 a0,g6,cF,e7,r7]
 have f7:Fx (λid=>id<h5.next) h6 h7:=⟨om,λid _ d=>o7 id om⟩
 refine⟨_,O,R',rfl,⟨a4.go f7 (λid _ h=>om),a5.congr (o.group hL n0 a3 λg hg=>Fg p _ _ _ (Y g hg)),bX.dN hP,n0,n7⟩,⟨by have:=F6.next;omega,λid d=>by rw[o7 id om];exact F6.get id d⟩⟩
section
variable {h:H} {v:V} {n:Nat} {l:List Nat}
theorem lN (x:Nat)(l:List Int)(n:Int)(h:H)(ht:Tk h x l)(hl:l.length<9223372036854775808)(hn:1<=n)(A:n<1000000000):
  Ev T 43 [.ptr x 0,aC n] h (λv h'=> ∃z,v= aC z/\0<=z/\z<n/\Tk h' x l/\AU x h h'):=by
 obtain⟨d,a,q,o,b,Y,hx⟩:=ht
 refine cV Ot rfl ?_
 have F:h.cell x 0=some d:=by rw[H.aF q];rfl
 have s:h.cell x 1=some (aC a):=by rw[H.aF q];rfl
 have B:dE d d=true:=SV.dE o
 obtain⟨id,y,k,t,hc⟩:=o.open
 simp (disch:=first|omega|(simp only[Qn];(try omega);done)|fail) only[go_sem,Ot,aD,F,s,o.lens,B]
 by_cases p:(l.length:Int)<=(a:Int)
 ·rw[oQ p]
  simp (disch:=first|omega|(simp only[Qn];(try omega);done)|fail) only[go_sem]
  exact⟨0,rfl,om,om,⟨d,a,q,o.mono ((Fr.refl h).bA om),b,Y,by show x<h.next+14;omega⟩,AU.of ((Fr.refl h).bA om)⟩
 ·rw[bH p]
  simp (disch:=first|omega|(simp only[Qn];(try omega);done)|fail) only[go_sem]
  rw[bH (show ¬n<1 by omega)]
  simp (disch:=first|omega|(simp only[Qn];(try omega);done)|fail) only[go_sem,s,q]
  have J:id≠x:=by
   intro e;have:=k.ixa .i64 0 om om;rcases o with ⟨_,w⟩|⟨i,K,c,f,_,_,rfl,_⟩
   ·have:(ints l).length=0:=by rw[w];rfl
    rw[fT] at this;omega
   ·have Z:c=l.length:=Option.some.inj k.len
    rw[Lg om om] at this;simp only[Option.some.injEq,V.ptr.injEq] at this;have:=b _ _ _ _ rfl;omega
  have c0:h.cell id (y+a)=some (aC (l.getD a 0)):=hc a om
  have R:((a:Int)+1- 1).toNat=a:=om
  simp (disch:=first|omega|(simp only[Qn];(try omega);done)|fail) only[go_sem,F,s,q,k.ixa,c0,B,R]
  have u: ∀m,(H.mk ((H.mk h.tr (h.next+14)).set x (some (.cells false [d,aC ((a:Int)+1)]))).tr m).get x=some (.cells false [d,aC ((a:Int)+1)]):=λm=>H.aS ..
  have r:AU x h (H.mk ((H.mk h.tr (h.next+14)).set x (some (.cells false [d,aC ((a:Int)+1)]))).tr (h.next+14+14)):=⟨by show h.next<=h.next+14+14;omega,λid t b=>H.aG _ b _⟩
  have O:(H.mk ((H.mk h.tr (h.next+14)).set x (some (.cells false [d,aC ((a:Int)+1)]))).tr (h.next+14+14)).next=h.next+14+14:=rfl
  have j:=u (h.next+14+14)
  generalize H.mk ((H.mk h.tr (h.next+14)).set x (some (.cells false [d,aC ((a:Int)+1)]))).tr (h.next+14+14)=N at*
  refine (akK (l.getD a 0) n N om A).mono ?_
  rintro v G ⟨rfl,rfl⟩
  have k0:G.cell x 0=some d:=by rw[H.aF j];rfl
  have k1:G.cell x 1=some (aC ((a:Int)+1)):=by rw[H.aF j];rfl
  simp (disch:=first|omega|(simp only[Qn];(try omega);done)|fail) only[go_sem,k0,k1,B]
  have L:=akU (l.getD a 0) (show 0<n by omega)
  refine⟨_,rfl,L.1,L.2,⟨d,a+1,?_,?_,b,om,om⟩,r⟩
  ·rw[j];simp
  ·rcases o with w|⟨i,K,c,f,U,vs,rfl,q2,q3,W,Q,P⟩
   ·exact .inl w
   ·exact .inr ⟨i,K,c,f,U,vs,rfl,q2,om,(r.get i q3 (λe=>by have:=b _ _ _ _ rfl;omega)).trans W,Q,P⟩
theorem ajK (n:Nat)(h:H)(L:n<=1000):
  Ev T 91 [aC n] h (λv h'=>cY h' v 1 (ints (zi (bL n))) h.next/\Fr h h'):=by
 refine cV Qz rfl ?_
 simp (disch:=first|omega|(simp only[Qn];(try omega);done)|fail) only[go_sem,Qz,aD]
 refine aH (λu c x=> ∃(i:Nat) (o:V),(∃j:Nat->V,c= [aC n,j 1,o,aC i,j 4])/\i<=n/\cY x o 1 (ints (zi ((bL n).take i))) h.next/\Fr h x/\u=n-i) n
  ⟨0,.aE,aB rfl,iJ _,cY.aE _ _ _,Fr.refl h,rfl⟩ ?_
 rintro u c a ⟨i,o,⟨K,rfl⟩,hi,s,F,rfl⟩
 simp (disch:=first|omega|(simp only[Qn];(try omega);done)|fail) only[go_sem]
 by_cases k:(i:Int)<(n:Int)
 ·rw[oQ k]
  have t:i<n:=om
  simp (disch:=first|omega|(simp only[Qn];(try omega);done)|fail) only[go_sem,Us]
  have b:Fr a (a.new (.cells false (ints [(i:Int)]))):=(Fr.refl a).new _
  have d:(a.new (.cells false (ints [(i:Int)]))).get a.next=some (.cells false (ints [(i:Int)])):=H.aL ..
  have w:(a.new (.cells false (ints [(i:Int)]))).next=a.next+1:=H.aU ..
  generalize a.new (.cells false (ints [(i:Int)]))=r at*
  have G:SV r (.sl a.next 0 1 (.kn 1)) 1 (ints [(i:Int)]):=SV.all rfl om d _
  have J:=F.next
  have N:=jG n
  obtain⟨z,A,q,p⟩:=(s.fr b).app (bytes:=8) (n:=i) (m:=1) om G (by rw[fT,aQ,Fj,uW];omega) rfl om om
  simp (disch:=first|omega|(simp only[Qn];(try omega);done)|fail) only[go_sem,q]
  have f:=p.own
  have y:=fQ t
  have B:zi ((bL n).take i)++ [(i:Int)]=zi ((bL n).take (i+1)):=by rw[Tg om,We,y]
  rw[←uT,B] at f
  rw[eJ i]
  exact⟨n-(i+1),om,i+1,z,aB rfl,om,f,p.fr h (F.trans b) (fM _),rfl⟩
 rw[bH k]
 obtain rfl:i=n:=om
 simp (disch:=first|omega|(simp only[Qn];(try omega);done)|fail) only[go_sem]
 rw[Tn (by rw[jG];omega)] at s
 exact⟨s,F⟩
structure Mp (h:H)(v:V)(n id:Nat)(l:List Nat):Prop where
 ex: ∃cap rest,v= .sl id 0 n cap/\id<h.next/\h.get id=some (.cells false (ints (zi l)++rest))
 cU:bE n l
theorem Mp.of {b:Nat}(k:0<n)(X:bE n l)(o:cY h v 1 (ints (zi l)) b): ∃id,Mp h v n id l/\b<=id:=by
 rcases o with ⟨_,e⟩|⟨id,m,c,a,rfl,d,p,f,j,i⟩
 ·have:=congrArg List.length e
  rw[fT,aQ,List.length_nil,X.len] at this;omega
 ·rw[fT,aQ,uW,X.len] at d
  subst d;exact⟨id,⟨⟨c,a,rfl,j,i⟩,X⟩,f⟩
theorem Mp.si {id:Nat}(m:Mp h v n id l):SI h v (zi l):=by
 obtain⟨⟨a,b,rfl,d,c⟩,X⟩:=m;refine .inr ⟨id,0,n,a,false,_,rfl,by rw[fT,aQ,X.len,uW],d,c,by rw[jZ,fT,aQ,X.len];omega,?_⟩;rw[List.drop_zero,uW,List.take_left' (by rw[fT,aQ,X.len])]
theorem Mp.mono {h':H}{id:Nat}(m:Mp h v n id l)(j:h.next<=h'.next)(c:h'.get id=h.get id):Mp h' v n id l:=by
 obtain⟨⟨b,a,f,i,d⟩,X⟩:=m;exact⟨⟨b,a,f,om,by rw[c];exact d⟩,X⟩
theorem akN {rest:List V}{i:Nat}(hi:i<l.length)(x:Nat):(ints (zi l)++rest).set i (aC x)=ints (zi (l.set i x))++rest:=by
 rw[List.set_append_left _ _ (by rw[fT,aQ];exact hi)];congr 1;simp [ints,zi,List.map_set]
def amT (n a b:Nat):List Nat:=(List.range n).map λj=>if j=b- 1 then a else if a<=j/\j<b then j+1 else j
theorem ajD {f:Nat->Nat}{j:Nat}(a:j<n):((List.range n).map f).getD j 0=f j:=by simp [List.getD,a]
theorem amO {a b:Nat}(d:a<b)(h2:b<=n):bE n (amT n a b):=by
 unfold amT;refine bE.TW (by simp) (λi hi=>?_) (λi j hi c h=>?_)
 ·rw[ajD hi]
  split
  ·omega
  ·split<;>omega
 ·rw[ajD hi,ajD c] at h
  split at h<;>split at h<;>(try split at h)<;>(try split at h)<;>omega
theorem amI (f:Nat->Nat):(rc n λj=>aC (f j:Nat))=ints (zi ((List.range n).map f)):=by
 have e:=Zu ((List.range n).map f);rw[jV,NM] at e;rw[←e];exact dB λj a=>by rw[ajD a]
theorem akS (h:H)(v:V)(n id a b:Nat)(P:n<=64)(m:Mp h v n id (bL n))(O:a<b)(h2:b<=n):
  Ev T 92 [v,aC a,aC b] h (λw h'=>w=v/\Mp h' v n id (amT n a b)/\AU id h h'):=by
 refine cV aiW rfl ?_
 obtain⟨⟨f,c,rfl,z,B⟩,_⟩:=m
 have K:ints (zi (bL n))=rc n λj=> aC (((if a<=j/\j<a then j+1 else j:Nat)):Int):=by
  rw[amI];congr 2;refine (yC (by simp [bL]) λi hi=>?_).symm;rw[jV,NM] at hi;rw[ajD hi,fQ hi,bI om]
 rw[K] at B
 simp (disch:=first|omega|(simp only[Qn];(try omega);done)|fail) only[go_sem,aiW,aD]
 refine bJ (λvs q=>(∃g:Nat->V,vs= [.sl id 0 n f,aC a,aC b,g 3,g 4,g 5])/\q.get id=some (.cells false ((rc n λj=> aC (((if a<=j/\j<b then j+1 else j:Nat)):Int))++c))/\AU id h q) ?_ ?_
 ·refine aH (λF d q=> ∃(i:Nat),(∃g:Nat->V,d= [.sl id 0 n f,aC a,aC b,g 3,aC i,g 5])/\a<=i/\i<=b/\q.get id=some (.cells false ((rc n λj=> aC (((if a<=j/\j<i then j+1 else j:Nat)):Int))++c))/\AU id h q/\F=b-i) (b-a)
   ⟨a,aB rfl,fM _,om,B,AU.refl _ _,rfl⟩ ?_
  rintro F d x ⟨i,⟨g,rfl⟩,N,L,r,k,rfl⟩
  by_cases o:(i:Int)<(b:Int)
  case neg=>
   have y:=bH o;obtain rfl:i=b:=om
   simp (disch:=first|omega|(simp only[Qn];(try omega);done)|fail) only[go_sem,y];exact⟨aB rfl,r,k⟩
  have y:=oQ o
  have t:i<n:=om
  have A:decide ((i:Int)<0)=false:=bH om
  have s:decide ((n:Int)<=(i:Int))=false:=bH om
  have p:=bN (vs:=(rc n λj=> aC (((if a<=j/\j<i then j+1 else j:Nat)):Int))++c) (off:=i) (by rw[jZ,Df];omega) x id (aC ((i:Int)+1))
  rw[List.set_append_left _ _ (by rw[Df];exact t),mS] at p
  simp (disch:=first|omega|(simp only[Qn];(try omega);done)|fail) only[go_sem,y,A,s,r,p]
  rw[eJ i]
  refine⟨b-(i+1),om,i+1,aB rfl,om,om,?_,k.set _,rfl⟩
  congr 3
  refine dB λj J=>?_
  by_cases e:j=i
  ·rw[bF e,bF ⟨om,om⟩,e]
  ·rw[bI e]
   by_cases u:a<=j/\j<i
   ·rw[bF u,bF ⟨u.1,om⟩]
   ·rw[bI u,bI om]
 rintro d x ⟨⟨g,rfl⟩,r,k⟩
 have G:(b:Int)- 1=((b- 1:Nat):Int):=om
 have A:decide (((b- 1:Nat):Int)<0)=false:=bH om
 have s:decide ((n:Int)<=((b- 1:Nat):Int))=false:=bH om
 have p:=bN (vs:=(rc n λj=> aC (((if a<=j/\j<b then j+1 else j:Nat)):Int))++c) (off:=b- 1) (by rw[jZ,Df];omega) x id (aC a)
 rw[List.set_append_left _ _ (by rw[Df];omega),mS] at p
 simp (disch:=first|omega|(simp only[Qn];(try omega);done)|fail) only[go_sem,G,A,s,r,p]
 refine⟨⟨⟨f,c,rfl,iW z k.next,?_⟩,amO O h2⟩,k.set _⟩
 rw[H.aS]
 congr 3
 unfold amT
 rw[←amI]
 refine dB λj J=>?_
 by_cases e:j=b- 1
 ·rw[bF e,bF e]
 ·rw[bI e,bI e]
def alK (l:List Nat)(i k:Nat):List Nat:=(l.set i (l.getD k 0)).set k (l.getD i 0)
theorem amL (X:bE n l){i k:Nat}(hi:i<n)(b:k<n):bE n (alK l i k):=by
 have p:=X.len
 have at': ∀j,j<n->(alK l i k).getD j 0=if j=k then l.getD i 0 else if j=i then l.getD k 0 else l.getD j 0:=λj o=>by
  unfold alK;rw[cJ (by simp;omega),List.getElem_set]
  by_cases e:k=j
  ·rw[bF e,bF e.symm]
  ·rw[bI e,bI (Ne.symm e),List.getElem_set]
   by_cases f:i=j
   ·rw[bF f,bF f.symm]
   ·rw[bI f,bI (Ne.symm f)];exact (cJ om).symm
 refine bE.TW (by unfold alK;simp [p]) (λj o=>?_) (λa c d m h=>?_)
 ·rw[at' j o]
  split
  ·exact X.iN hi
  ·split
   ·exact X.iN b
   ·exact X.iN o
 ·rw[at' a d,at' c m] at h
  split at h<;>split at h<;>(try split at h)<;>(try split at h)
  all_goals first
   |omega
   |(have:=X.inj hi hi h;omega)
   |(have:=X.inj hi b h;omega)
   |(have:=X.inj b hi h;omega)
   |(have:=X.inj hi m h;omega)
   |(have:=X.inj d hi h;omega)
   |(have:=X.inj b b h;omega)
   |(have:=X.inj b m h;omega)
   |(have:=X.inj d b h;omega)
   |(have:=X.inj d m h;omega)
theorem amM (x:Nat)(l:List Int)(n:Nat)(h:H)(hn:n<=64)(n0:0<n)(ht:Tk h x l)(hl:l.length<9223372036854775808):
  Ev T 44 [.ptr x 0,aC n] h (λv h'=> ∃id q,Mp h' v n id q/\h.next<=id/\Tk h' x l/\AU x h h'):=by
 refine cV ajL rfl ?_
 simp (disch:=first|omega|(simp only[Qn];(try omega);done)|fail) only[go_sem,ajL,aD]
 refine (ajK n h om).mono ?_
 rintro v h1 ⟨o1,Z⟩
 obtain⟨id,m1,N⟩:=Mp.of n0 (bE.one n) o1
 have G:=m1
 obtain⟨⟨o,O,rfl,_,_⟩,_⟩:=G
 have a6:x<h.next:=by obtain⟨_,_,_,_,_,_,hx⟩:=ht;exact hx
 have P:id≠x:=om
 simp (disch:=first|omega|(simp only[Qn];(try omega);done)|fail) only[go_sem]
 refine aH (λk' m b=> ∃(i:Nat) (q:List Nat),(∃g:Nat->V,m= [.ptr x 0,aC n,g 2,.sl id 0 n o,aC i,g 5,g 6])/\i<n/\Mp b (.sl id 0 n o) n id q/\Tk b x l/\AU x h b/\k'=n-i) n
  ⟨0,bL n,aB rfl,n0,m1,ht.mono Z,AU.of Z,rfl⟩ ?_
 rintro k' m h2 ⟨i,q,⟨g,rfl⟩,hi,K,t2,f2,rfl⟩
 by_cases t:(i:Int)+1<(n:Int)
 case neg=>
  have B:=bH t;simp (disch:=first|omega|(simp only[Qn];(try omega);done)|fail) only[go_sem,B];exact⟨id,q,K,N,t2,f2⟩
 have B:=oQ t
 simp (disch:=first|omega|(simp only[Qn];(try omega);done)|fail) only[go_sem,B]
 refine (lN x l ((n:Int)-(i:Int)) h2 t2 hl om om).mono ?_
 rintro _ s ⟨z,rfl,a0,a5,t3,F⟩
 obtain⟨c,rfl⟩: ∃c:Nat,z=(c:Int):=⟨z.toNat,om⟩
 obtain⟨k,hk⟩: ∃k,k=i+c:=⟨_,rfl⟩
 have ek:(i:Int)+(c:Int)=(k:Int):=om
 have r:k<n:=om
 have m3:=K.mono F.next (F.get id (by obtain⟨⟨_,_,_,h5,_⟩,_⟩:=K;exact h5) P)
 obtain⟨⟨U,a,e,Y,L⟩,Q⟩:=m3
 cases e
 have A:=Q.len
 have cell: ∀b:H,∀f:List Nat,f.length=n->b.get id=some (.cells false (ints (zi f)++a))-> ∀j,j<n->b.cell id j=some (aC (f.getD j 0:Nat)):=λb f R hg j p=>by
  rw[H.aF hg,Dv (by rw[fT,aQ];omega),Ip om]
 have ci:=cell s q A L i hi
 have ck:=cell s q A L k r
 have a1:decide ((i:Int)<0)=false:=bH om
 have a2:decide ((n:Int)<=(i:Int))=false:=bH om
 have a3:decide ((k:Int)<0)=false:=bH om
 have a4:decide ((n:Int)<=(k:Int))=false:=bH om
 have pt: ∀(b:H) (f:List Nat) (j y:Nat),f.length=n->j<n->dX (some (.cells false (ints (zi f)++a))) b id j [aC y]=some (b.set id (some (.cells false (ints (zi (f.set j y))++a)))):=λb f j y R p=>by
  rw[bN (by rw[jZ,fT,aQ];omega),akN om]
 simp (disch:=first|omega|(simp only[Qn];(try omega);done)|fail) only[go_sem,ek]
 simp (disch:=first|omega|(simp only[Qn];(try omega);done)|fail) only[go_sem,a1,a2,a3,a4,ci,ck,L,pt _ q i (q.getD k 0) A hi,pt _ (q.set i (q.getD k 0)) k (q.getD i 0) (by simp [A]) r]
 rw[eJ i]
 obtain⟨w,d⟩: ∃w:H,w=((H.mk s.tr (s.next+16)).set id (some (.cells false (ints (zi (q.set i (q.getD k 0)))++a)))).set id (some (.cells false (ints (zi ((q.set i (q.getD k 0)).set k (q.getD i 0)))++a))):=⟨_,rfl⟩
 rw[←d]
 have n4:w.next=s.next+16:=by rw[d];rfl
 have W: ∀j,j≠id->w.get j=s.get j:=λj p=>by rw[d,H.aG _ p,H.aG _ p];rfl
 have g4:w.get id=some (.cells false (ints (zi (alK q i k))++a)):=by rw[d,H.aS];rfl
 refine⟨n-(i+1),om,i+1,alK q i k,aB rfl,om,⟨⟨o,a,rfl,om,g4⟩,amL Q hi r⟩,t3.low om (λj p=>W j om),?_,rfl⟩
 have u:=f2.trans F
 have:=u.next
 exact⟨om,λj p J=>by rw[W j om];exact u.get j p J⟩
end
theorem amH (h:H){v u:V}(a:v.one=true)(b:u.one=true):Cv h (.agg [v,u])=some (.ptr h.next 0,h.new (.cells false [v,u])):=tL h _ (by simp [a,b])
theorem amP {x y:V}(h:H)(id:Nat)(u:V):dX (aZ [x,y]) h id 1 [u]=some (h.set id (aZ [x,u])):=by
 simp [dX,putAt]
theorem alI {v z w:V}(c:v.cells= [v])(b:v.one=true):rO [z,w] [(0,1,v)]=some (.agg [v,w]):=by
 have a:putAt [z,w] 0 [v]=some [v,w]:=by simp [putAt]
 simp [rO,iS,a,c,b]
theorem AU.cell {x:Nat}{a c:H}(f:AU x a c){id off:Nat}(b:id<a.next)(h2:id≠x):c.cell id off=a.cell id off:=by unfold H.cell;rw[f.get id b h2]
structure GJ (h hh:H)(T0 C D n:Nat)(l:List Int)(gens:LN):Prop where
 ex: ∃vg ws,hh.get C=aZ [aC n,vg]/\cY hh vg 1 ws (C+1)/\fW (λid=>id<=C∨ ∃off m c,vg= .sl id off m c) hh ws gens
 tk:Tk hh T0 l
 gD:hh.get D=aZ [aC 0,.aE]
 cU: ∀g∈gens,bE n g
 nx:C<hh.next
 fr:Fr h hh
theorem akY (vl:V)(l:List Int)(s:Nat)(h:H)(hv:SI h vl l)(hl:l.length<9223372036854775808)(m1:1<=s)(m2:s<=60):
  Ev T 32 [vl,aC s] h (λv h'=> ∃(n:Nat) (vg:V) (gens:LN),v= .agg [aC n,vg]/\1<=n/\n<=s/\gens.length<=3/\(∀g∈gens,bE n g)/\SP h' vg gens/\Fr h h'):=by
 refine cV BP rfl ?_
 obtain⟨D,hD⟩:=exI h.next
 obtain⟨h1,e1,n1,g1,o1,f1⟩:=dF hD [aC 0,.aE]
 obtain⟨h2,e2,n2,g2,o2,f2⟩:=dF n1 [vl,aC 0]
 have wl:=SV.cK hv
 simp(disch:=omega)only[go_sem,BP,aD,hD,e1,alI wl.1 wl.2.1,amH h1 (v:=vl) (u:= aC 0) wl.2.1 rfl,n1,e2]
 have l3:Tk h2 (D+1) l:=⟨vl,0,g2,hv.mono (f1.trans f2),λid d len c e=>by have:=SV.in hv _ _ _ _ e;omega,iJ _,om⟩
 refine (lN (D+1) l s h2 l3 hl om om).mono ?_
 rintro _ h3 ⟨z,rfl,p3,p5,m6,f3⟩
 obtain⟨n,hn⟩: ∃n:Nat,1+z=(n:Int):=⟨(1+z).toNat,om⟩
 have n3:=f3.next
 obtain⟨C,hC⟩:=exI h3.next
 obtain⟨h4,e4,n4,g4,o4,f4⟩:=dF hC [aC 0,.aE]
 obtain⟨h5,e5,n5,g5,o5⟩:=pJ h4 C [aC n,.aE]
 simp(disch:=omega)only[go_sem,hn,hC,e4,alI (v:= aC n) (z:= aC 0) (w:= .aE) rfl rfl,Gv h4 C 0 (v:= aC n) (u:= .aE) rfl rfl,g4,TJ,e5]
 have k8:Tk h5 (D+1) l:=m6.low om (λid o=>by rw[o5 id om,o4 id om])
 refine (lN (D+1) l 4 h5 k8 hl om om).mono ?_
 rintro _ h6 ⟨z2,rfl,o3,p1,m5,f6⟩
 obtain⟨K,rfl⟩: ∃K:Nat,z2=(K:Int):=⟨z2.toNat,om⟩
 have n6:=f6.next
 simp(disch:=omega)only[go_sem]
 refine aH (λk' a0 hh=> ∃(k:Nat) (gens:LN),(∃g:Nat->V,a0= [vl,aC s,.ptr D 0,.ptr (D+1) 0,.ptr C 0,aC k,g 6,g 7,g 8,g 9,g 10])/\gens.length+k<=3/\GJ h hh (D+1) C D n l gens/\k'=k) K
  ⟨K, [],aB rfl,by simp;omega,⟨⟨.aE, [],by rw[f6.get C om om];exact g5,cY.aE _ _ _,trivial⟩,m5,?_,λg hg=>absurd hg List.not_mem_nil,om,?_⟩,rfl⟩ ?_
 ·rw[f6.get D om om,o5 D om,o4 D om,f3.get D om om,o2 D om];exact g1
 ·refine⟨om,λid o=>?_⟩
  rw[f6.get id om om,o5 id om,o4 id om,f3.get id om om,o2 id om,o1 id om]
 rintro k' a0 Y ⟨k,gens,⟨g,rfl⟩,hk,J,rfl⟩
 have cn:Y.cell C 0=some (aC n):=by
  obtain⟨⟨vg,ws,gC,_⟩,_⟩:=J;rw[H.aF gC];rfl
 by_cases i0:(0:Int)<(k':Int)
 case neg=>
  have d1:=bH i0;obtain⟨⟨vg,ws,gC,ow,c6⟩,tk,gD,cU,nx,fr⟩:=J;have rC:=PB gC;obtain⟨B,e8,n8,g8,o8⟩:=pJ Y D [aC n,vg];have r8:=PB g8;have wg:=SV.cK ow.sv;simp(disch:=omega)only[go_sem,d1,rC,Gv Y D 0 (v:= aC n) (u:=vg) rfl wg.2.1,gD,TJ,e8,r8]
  have x8:Fx (λid=>id<=C∨ ∃d m c,vg= .sl id d m c) Y B:=⟨om,λid _ Z=>o8 id (λe=>Z (.inl om))⟩
  have k7:SV B vg 1 ws:=(ow.zA (h':=B) om (λid d m c e o=>by have:=(ow.in _ _ _ _ e).2.1;exact o8 id om)).sv;refine⟨n,vg,gens,rfl,om,om,om,cU,⟨ws,k7,?_⟩,⟨by have:=fr.next;omega,λid o=>by rw[o8 id om];exact fr.get id o⟩⟩;have c5:=fW.fx c6 x8;have m3:=aM.length c5
  exact aM.mQ (by simpa using m3) λi hi hj=>by
   have:=(aM.get c5 i hi om).si;simpa using this
 have d1:=oQ i0
 have nx:=J.nx
 have g6:0<n:=om
 have b9:n<=64:=om
 simp(disch:=omega)only[go_sem,d1,cn]
 refine (ajK n Y om).mono ?_
 rintro G B ⟨o6,f8⟩
 obtain⟨r,e0,i3⟩:=Mp.of g6 (bE.one n) o6
 simp(disch:=omega)only[go_sem]
 refine (lN (D+1) l 3 B (J.tk.mono f8) hl om om).mono ?_
 rintro _ h9 ⟨z3,rfl,_,_,e6,f9⟩
 have F:AU (D+1) Y h9:=(AU.of f8).trans f9
 have g3:Mp h9 G n r (bL n):=e0.mono f9.next (f9.get r (by obtain⟨⟨_,_,_,h5,_⟩,_⟩:=e0;exact h5) om)
 have p: ∀hh,AU (D+1) Y hh->hh.cell C 0=some (aC n):=λhh f=>by rw[f.cell nx om];exact cn
 simp(disch:=omega)only[go_sem]
 refine jT (λvs hh=> ∃(G:V) (x:List Nat),(∃g:Nat->V,vs= [vl,aC s,.ptr D 0,.ptr (D+1) 0,.ptr C 0,aC (k':Int),G,g 7,g 8,g 9,g 10])/\SI hh G (zi x)/\bE n x/\(∀id d len L,G= .sl id d len L->Y.next<=id)/\Tk hh (D+1) l/\AU (D+1) Y hh) ?_ ?_
 ·refine aW (λ_=>?_) (λ_=>?_)
  ·simp(disch:=omega)only[go_sem,p h9 F]
   refine (amM (D+1) l n h9 b9 g6 e6 hl).mono ?_
   rintro w W ⟨id,q,mp,o,b3,c1⟩
   have n9:=F.next
   simp(disch:=omega)only[go_sem]
   refine .inl ⟨w,q,aB rfl,mp.si,mp.cU,λg0 d len L e=>?_,b3,F.trans c1⟩
   obtain⟨⟨_,_,e2,_⟩,_⟩:=mp
   rw[e2] at e;cases e;omega
  ·simp(disch:=omega)only[go_sem,p h9 F]
   refine (lN (D+1) l n h9 e6 hl om om).mono ?_
   rintro _ W ⟨z4,rfl,a4,b4,b3,c1⟩
   obtain⟨a,rfl⟩: ∃a:Nat,z4=(a:Int):=⟨z4.toNat,om⟩
   have d3:=F.trans c1
   simp(disch:=omega)only[go_sem,p W d3]
   refine (lN (D+1) l ((n:Int)-(a:Int)) W b3 hl om om).mono ?_
   rintro _ a9 ⟨z5,rfl,a5,b5,i7,k0⟩
   obtain⟨c,rfl⟩: ∃c:Nat,z5=(c:Int):=⟨z5.toNat,om⟩
   have n7:=d3.trans k0
   have Q:=c1.trans k0
   have k6:r<h9.next:=by obtain⟨⟨_,_,_,h5,_⟩,_⟩:=g3;exact h5
   have j2:Mp a9 G n r (bL n):=g3.mono Q.next (Q.get r k6 om)
   have eb:(a:Int)+1+(c:Int)=((a+1+c:Nat):Int):=om
   simp(disch:=omega)only[go_sem,eb]
   refine (akS a9 G n r a (a+1+c) b9 j2 om om).mono ?_
   rintro w b2 ⟨Z,j0,d9⟩
   have l5:=Z.symm
   subst l5
   have n8:=F.next
   have n9:=Q.next
   have m7:=d9.next
   have d6:AU (D+1) Y b2:=⟨om,λid o c3=>by rw[d9.get id om om,Q.get id om c3];exact F.get id o c3⟩
   have g7:Tk b2 (D+1) l:=i7.low m7 (λid o=>d9.get id om om)
   have j8:r<b2.next:=om
   simp(disch:=omega)only[go_sem,p b2 d6]
   refine (lN (D+1) l n b2 g7 hl om om).mono ?_
   rintro _ m0 ⟨z6,rfl,a6,b6,j9,k2⟩
   obtain⟨a2,rfl⟩: ∃a:Nat,z6=(a:Int):=⟨z6.toNat,om⟩
   simp(disch:=omega)only[go_sem]
   refine (lN (D+1) l 2 m0 j9 hl om om).mono ?_
   rintro _ y ⟨z7,rfl,a7,b7,d2,j1⟩
   have U:=(d6.trans k2).trans j1
   have N:=k2.trans j1
   have o7:=N.next
   have A:Mp y G n r _:=j0.mono N.next (N.get r j8 om)
   have f7: ∀id d len L,G= .sl id d len L->Y.next<=id:=λg0 d len L e=>by
    obtain⟨⟨_,_,e2,_⟩,_⟩:=A;rw[e2] at e;cases e;omega
   simp(disch:=omega)only[go_sem]
   refine aW (λhz=>?_) (λhz=>?_)
   ·have k1:=SV.dE A.si
    simp(disch:=omega)only[go_sem,p y U]
    have fb:Fr y (H.mk y.tr (y.next+17)):=(Fr.refl y).bA om
    refine (ajK n _ om).mono ?_
    rintro w f0 ⟨ow,j5⟩
    obtain⟨c4,d4,i4⟩:=Mp.of g6 (bE.one n) ow
    have l1:=j5.next
    have hb:(H.mk y.tr (y.next+17)).next=y.next+17:=rfl
    rw[hb] at i4 l1
    have O:=fb.trans j5
    have d7:=U.trans (AU.of O)
    have e7:c4<f0.next:=by obtain⟨⟨_,_,_,h5,_⟩,_⟩:=d4;exact h5
    simp(disch:=omega)only[go_sem,p f0 d7]
    refine (lN (D+1) l ((n:Int)-(a2:Int)) f0 (d2.mono O) hl om om).mono ?_
    rintro _ e3 ⟨z8,rfl,a8,b8,j7,b0⟩
    obtain⟨c2,rfl⟩: ∃c:Nat,z8=(c:Int):=⟨z8.toNat,om⟩
    have R:=d7.trans b0
    have p4:=b0.next
    have n0:=U.next
    have i8:Mp e3 w n c4 (bL n):=d4.mono b0.next (b0.get c4 e7 om)
    have l6:(a2:Int)+1+(c2:Int)=((a2+1+c2:Nat):Int):=om
    simp(disch:=omega)only[go_sem,p e3 R,l6]
    refine (akS e3 w n c4 a2 (a2+1+c2) b9 i8 om om).mono ?_
    rintro w' b1 ⟨k5,a1,c0⟩
    have i9:=k5.symm
    subst i9
    have l0:=c0.next
    have a3:AU (D+1) Y b1:=⟨by have:=R.next;omega,λid o c3=>by rw[c0.get id (by have:=R.next;omega) om];exact R.get id o c3⟩
    have i6:Tk b1 (D+1) l:=j7.low l0 (λid o=>c0.get id om om)
    have j4:r<y.next:=by obtain⟨⟨_,_,_,h5,_⟩,_⟩:=A;exact h5
    have t:Mp b1 G n r _:=A.mono om (by rw[c0.get r om om,b0.get r om om,O.get r j4])
    simp(disch:=omega)only[go_sem,p b1 a3,k1]
    refine (Lj G w _ _ b1 (by rw[t.cU.len];omega) t.si a1.si (λj hj=>by rw[a1.cU.len];exact t.cU.iN (by rw[←t.cU.len];exact hj))).mono ?_
    rintro v k3 ⟨l8,j6,l4⟩
    have d8:=a3.trans (AU.of j6)
    simp(disch:=omega)only[go_sem,p k3 d8,k1]
    exact .inl ⟨v,_,aB rfl,l8,t.cU.mul a1.cU,λid d len L e=>by have:=l4 _ _ _ _ e;have:=a3.next;omega,i6.mono j6,d8⟩
   ·simp(disch:=omega)only[go_sem]
    exact .inl ⟨G,_,aB rfl,A.si,A.cU,f7,d2,U⟩
 clear e0 g3 o6 f8 e6 F G B h9 f9 i3
 rintro a0 B ⟨G,x,⟨g,rfl⟩,sx,X,f7,m8,f8⟩
 obtain⟨⟨vg,ws,gC,ow,c6⟩,_,gD,cU,_,fr⟩:=J
 have n8:=f8.next
 have P:=λid d m c (e:vg=V.sl id d m c)=>ow.in id d m c e
 have p0:=aM.length c6
 have i5:B.get C=aZ [aC n,vg]:=by rw[f8.get C nx om];exact gC
 have c8:B.cell C 1=some vg:=by rw[H.aF i5];rfl
 have o0:=fr.next
 have k4:Fr h B:=⟨om,λid o=>by rw[f8.get id om om];exact fr.get id o⟩
 have l9:cY B vg 1 ws (C+1):=ow.zA n8 λid d m c e o=>by have:=(P _ _ _ _ e).2.1;exact f8.get id o om
 have c5:fW (λid=>id<=C∨ ∃d m c,vg= .sl id d m c) B ws gens:=fW.fx c6 ⟨n8,λid o Z=>f8.get id o (λe=>Z (.inl om))⟩
 have px:PV (λid=>id<=C∨ ∃d m c,vg= .sl id d m c) B G x:=by
  refine⟨sx,?_⟩
  cases G with
  |sl id d len L=>
   have:=f7 _ _ _ _ rfl;rintro (h|⟨m9,m',c',e⟩)
   ·omega
   ·have:=(P _ _ _ _ e).1;omega
  |_=>trivial
 obtain⟨h9,e9,n9,g9,o9,f9⟩:=dF (h:=B) rfl [G]
 have l2:=l9.fr f9
 obtain⟨W,h0,c9⟩:=l2.push (bytes:=24) (SV.one om g9 (.kn 1)) (n:=gens.length) (m:=1) om rfl om om om
 have p6:=c9.next
 rw[n9] at h0
 have l7:dL vg C:=λid d m c e e2=>by have:=(P _ _ _ _ e).2.1;omega
 have i2:W.get C=aZ [aC n,vg]:=by rw[c9.old C om l7,o9 C om];exact i5
 obtain⟨a9,k9,p2,m4,i1⟩:=pJ W C [aC n,.sl (B.next+1) 0 (gens.length+1) (.un 1)]
 simp(disch:=omega)only[go_sem,c8,cT _ (z:= .aE) px.fG.1 px.fG.2,e9,h0,i2,amP,k9]
 have ek:(k':Int)- 1=((k'- 1:Nat):Int):=om
 rw[ek]
 have c7: ∀id,id<B.next->id≠C->dL vg id->a9.get id=B.get id:=λid h1 h2 h3=>by rw[i1 id h2,c9.old id om h3,o9 id om]
 have f5: ∀id,id<=C->dL vg id:=λid o g0 d m c e e2=>by have:=(P _ _ _ _ e).2.1;omega
 have d5:=c9.own om rfl (b:=C+1) om
 rw[n9] at d5
 have j3:Fx (λid=>id<=C∨ ∃d m c,vg= .sl id d m c) B a9:=⟨om,λid o Z=>c7 id o (λe=>Z (.inl om)) (λg0 d m c e e2=>Z (.inr ⟨d,m,c,e2▸e⟩))⟩
 have d0: ∀id,id<B.next->(id<=C∨ ∃d m c,V.sl (B.next+1) 0 (gens.length+1) (.un 1)= .sl id d m c)->(id<=C∨ ∃d m c,vg= .sl id d m c):=λid o Z=>by
  rcases Z with Z|⟨d,m,c,e⟩
  ·exact .inl Z
  ·cases e;omega
 refine⟨k'- 1,om,k'- 1,gens++ [x],aB rfl,by rw[jZ];simp;omega,⟨⟨_,_,m4,d5.zA om (λid d m c e o=>by cases e;exact i1 _ om),(fW.go c5 j3 d0).append (fW.one (PV.go px j3 d0))⟩,m8.low om (λid o=>c7 id om om (f5 id om)),?_,λu hu=>?_,om,⟨om,λid o=>?_⟩⟩,rfl⟩
 ·rw[c7 D om om (f5 D om),f8.get D om om];exact gD
 ·rcases pH.1 hu with hu|hu
  ·exact cU u hu
  ·simp at hu;subst hu;exact X
 ·rw[c7 id om om (f5 id om)];exact k4.get id o
theorem alU (p:V)(n:Nat)(l:LN)(h:H)(n0:1<=n)(n7:n<=64)(hl:l.length<=16)(F:SP h p l)(W: ∀g∈l,bE n g):
  Ev T 94 [.agg [aC n,p]] h (λv h'=>v= aC 0/\Fr h h'):=by
 refine cV FT rfl ?_
 obtain⟨B,L⟩:=exI h.next
 obtain⟨d,Y,n1,N,o1,G⟩:=dF L [aC n,p]
 have d1:decide ((n:Int)<1)=false:=bH om
 have d2:decide ((64:Int)<(n:Int))=false:=bH om
 have r:=F.lens
 rw[jV] at r
 have d3:decide ((16:Int)<(l.length:Int))=false:=bH om
 obtain⟨id,J,P,y,o,x,j,q⟩:=F.open
 obtain⟨Z,m,_⟩:=F
 have wv:=SV.cK m
 have ev:=SV.dE m
 rw[jV] at y o x j
 have R: ∀a,Fr d a->a.cell B 0=some (aC n):=λa f=>by rw[f.cell om,H.aF N];rfl
 have t: ∀a,Fr d a->a.cell B 1=some p:=λa f=>by rw[f.cell om,H.aF N];rfl
 simp(disch:=omega)only[go_sem,FT,aD,L,wW h (v:= aC n) (u:=p) rfl wv.2.1,Y,R d (Fr.refl _),t d (Fr.refl _),d1,d2,r,d3]
 refine aH (λU vs a=> ∃(i:Nat),(∃g:Nat->V,vs= [g 0,.ptr B 0,g 2,aC i,g 4,g 5,g 6,g 7,g 8,g 9])/\i<=l.length/\Fr d a/\U=l.length-i) l.length
  ⟨0,aB rfl,iJ _,Fr.refl d,rfl⟩ ?_
 rintro U O s ⟨i,⟨g,rfl⟩,hi,f,rfl⟩
 by_cases k:(i:Int)<(l.length:Int)
 case neg=>
  have K:=bH k;simp(disch:=omega)only[go_sem,t s f,r,K];exact G.trans f
 have K:=oQ k
 have c:i<l.length:=om
 have F2:=G.trans f
 have cell: ∀a,Fr h a->a.cell id (J+i)=some (P.getD i .undef):=λa f=>by rw[f.cell (o om),j i c]
 have w:=Ml q c
 have X:bE n (l.getD i []):=W _ (bD c)
 generalize P.getD i .undef=vx at cell w
 have Q:=w.lens
 rw[aQ,X.len] at Q
 have A:=SV.dE w
 simp(disch:=omega)only[go_sem,t s f,r,K,y.ixa,cell s F2]
 refine (Vs vx _ s (by rw[aQ,X.len];omega) (w.mono F2)).mono ?_
 rw[EE X n0 om]
 rintro _ z ⟨rfl,f3⟩
 have b:=f.trans f3
 simp(disch:=omega)only[go_sem]
 refine aW (λj=>(j rfl).elim) (λ_=>?_)
 simp(disch:=omega)only[go_sem,R z b,t z b,y.ixa,cell z (G.trans b),Q,ev,A]
 refine aW (λj=>(j rfl).elim) (λ_=>?_)
 simp(disch:=omega)only[go_sem]
 rw[eJ i]
 exact⟨l.length-(i+1),om,i+1,aB rfl,om,b.bA om,rfl⟩
theorem anL (a:V)(n:Nat)(l:LN)(h:H)(A:1<=n)(J:n<=7)(hl:l.length<=16)(z:SP h a l)(r: ∀g∈l,bE n g):
  Ev T 34 [.agg [aC n,a]] h (λv h'=> ∃vc O R,v= .tup [vc,aC 0]/\GC (λid=>id<h.next) h' vc n O R (bX n (· ∈l))/\Fr h h'):=by
 refine cV ajB rfl ?_
 obtain⟨B,q⟩:=exI h.next
 obtain⟨h1,U,t,Q,o1,f1⟩:=dF q [aC n,a]
 obtain⟨p,e2,n2,g2,Z,f2⟩:=dF t [aC 0,.aE,.aE]
 have i:=z
 obtain⟨W,o,_⟩:=z
 have wv:=SV.cK o
 have f:p.get B=aZ [aC n,a]:=by rw[Z B om];exact Q
 have G:=PB f
 simp(disch:=omega)only[go_sem,ajB,aD,q,wW h (v:= aC n) (u:=a) rfl wv.2.1,U,t,e2,G]
 have F2:=f1.trans f2
 refine (alU a n l p A om hl (i.mono F2) r).mono ?_
 rintro _ c ⟨rfl,j⟩
 have d:c.get B=aZ [aC n,a]:=by rw[j.get B om];exact f
 have c0:c.cell B 0=some (aC n):=by rw[H.aF d];rfl
 have c1:c.cell B 1=some a:=by rw[H.aF d];rfl
 simp(disch:=omega)only[go_sem]
 refine aW (λhc=>(hc rfl).elim) (λ_=>?_)
 simp(disch:=omega)only[go_sem,c0,c1]
 refine (afJ a n l c A J om (i.mono (F2.trans j)) r).mono ?_
 rintro _ k ⟨vc,O,R,rfl,y,m⟩
 have n3:=j.next
 have n4:=m.next
 have g4:k.get (B+1)=aZ [aC 0,.aE,.aE]:=by rw[m.get _ om,j.get _ om];exact g2
 obtain⟨F,x,a0,a1,e,t1,_,_,t2,_,_⟩:=y.cw
 subst e
 obtain⟨K,L,n5,N,s⟩:=pJ k (B+1) [aC n,F,x]
 have r5:=aI N
 simp(disch:=omega)only[go_sem,bW k (B+1) 0 (v:= aC n) (u:=F) (w:=x) rfl t1.cK.2.1 t2.cK.2.1,g4,cF,L,r5]
 have P:=(F2.trans j).trans m
 have Y:Fx (λid=>id<c.next) k K:=⟨om,λid _ b=>s id om⟩
 exact⟨_,O,R,rfl,y.go Y (λid _ b=>om),⟨om,λid b=>by rw[s id om];exact P.get id b⟩⟩
section
variable {n:Nat} {G:List Nat->Prop} {L:LN} {K:List Nat}
theorem Cm.lt (k:Cm n G L K){r:Nat}(a:r∈K):r<L.length:=(kV.1 (k.perm.mem_iff.1 a)).1
theorem Cm.nd (k:Cm n G L K):K.Nodup:=k.perm.nodup_iff.2 (by unfold jW;exact List.nodup_range.filter _)
theorem Ri (a:iX n G){x:List Nat}(b:G x): ∀k,G (pw n x k)
 |0=>a.one
 |k+1=>a.mul (Ri a b k) b
theorem amB {x c:List Nat}(X:bE n x)(C:bE n c): ∀k,cW (pw n x k) c=pw n (cW x c) k
 |0=>by
  show aX (aX (dA c) (bL n)) c=bL n;rw[bZ C.inv,iE C]
 |k+1=>by
  have P:=rM X k;show cW (aX (pw n x k) x) c=aX (pw n (cW x c) k) (cW x c);rw[←amB X C k];unfold cW;rw[aV (C.inv.mul P) C (C.inv.mul X|>.mul C),←aV C (C.inv.mul X) C,←aV C C.inv X,fC C,mN X,←aV (C.inv.mul P) X C,aV C.inv P X]
theorem ajI {x:List Nat}(X:bE n x)(a:Nat): ∀b,pw n (pw n x a) b=pw n x (a*b)
 |0=>rfl
 |b+1=>by
  show aX (pw n (pw n x a) b) (pw n x a)=_;rw[ajI X a b,Nat.mul_succ,RW X]
variable (hG:iX n G) (E:dW G L) (k:Cm n G L K)
include hG E k
end
def acH (n:Nat)(x:List Nat):Nat->Nat->Nat
 |0,k=>k
 |f+1,k=>if pw n x k=bL n then k else acH n x f (k+1)
def JU (n:Nat)(x:List Nat):Nat:=acH n x 420 1
theorem HW {n:Nat}{x:List Nat}(X:bE n x): ∀f k,0<k->k<=qF x n->qF x n<=k+f->acH n x f k=qF x n
 |0,k,_,h1,h2=>by show k=_;omega
 |f+1,k,h0,h1,h2=>by
  unfold acH;split
  ·rename_i e
   exact Nat.le_antisymm h1 (Nat.le_of_dvd h0 ((Hu X k).2 e))
  ·rename_i e
   refine HW X f (k+1) om ?_ om
   by_cases h:k=qF x n
   ·exact absurd ((Hu X k).1 (by rw[h];exact Nat.dvd_refl _)) e
   ·omega
theorem aaQ {n:Nat}{x:List Nat}(X:bE n x)(a:n<=7):qF x n=JU n x:=
 (HW X 420 1 om (Ya X) (by have:=Nat.le_of_dvd om (QC X a);omega)).symm
def cRb (L:LN)(i j:Nat):Bool:=L.any λc=>cW (L.getD i []) c==L.getD j []
def LX (L:LN)(i:Nat):List Nat:=(List.range L.length).filter (cRb L i)
def AF (L:LN):List Nat:=(List.range L.length).filter λj=>(List.range j).all λi=>!cRb L i j
def afN (n:Nat)(L:LN)(r s:Nat):Bool:=decide (JU n (L.getD r [])<JU n (L.getD s [])∨JU n (L.getD r [])=JU n (L.getD s [])/\((LX L r).length<(LX L s).length∨(LX L r).length=(LX L s).length/\r<s))
section
variable {n:Nat} {G:List Nat->Prop} {L:LN} {K:List Nat}
theorem adR (E:dW G L){x y:List Nat}:cj G x y↔(L.any λc=>cW x c==y)=true:=by
 rw[List.any_eq_true];constructor
 ·rintro⟨c,hc,e⟩
  exact⟨c,(E.mem c).2 hc,by simpa using e⟩
 ·rintro⟨c,hc,e⟩
  exact⟨c,(E.mem c).1 hc,by simpa using e⟩
theorem akZ (E:dW G L){i j:Nat}:cR G L i j↔cRb L i j=true:=adR E
theorem adN (E:dW G L)(i j:Nat)(d:Decidable (cR G L i j)): @decide (cR G L i j) d=cRb L i j:=by
 rw[Py,Qf];exact akZ E
theorem HO (E:dW G L)(i:Nat):kY G L i=LX L i:=by
 unfold kY LX;exact List.filter_congr λj _=>adN E i j _
theorem Za (E:dW G L):jW G L L.length=AF L:=by
 unfold jW AF;refine List.filter_congr λj _=>?_
 classical
 rw[Py,Qf,Kv];unfold HV;constructor
 ·intro h i hi
  have:=h i (Gu.1 hi);rw[akZ E] at this;simpa using this
 ·intro h i hi
  have:=h i (Gu.2 hi);rw[akZ E];simpa using this
theorem ahP (a:iX n G)(E:dW G L): ∀x∈L,bE n x:=λx b=>a.cU ((E.mem x).1 b)
theorem TX (a:iX n G)(E:dW G L)(c:n<=7){r:Nat}(b:r<L.length):qF (L.getD r []) n=JU n (L.getD r []):=aaQ (ahP a E _ (bD b)) c
theorem abD (a:iX n G)(E:dW G L)(b:n<=7){r s:Nat}(c:r<L.length)(d:s<L.length):kLt n G L r s↔afN n L r s=true:=by
 unfold kLt afN;rw[Qf,TX a E b c,TX a E b d,HO E,HO E]
def KOk (n:Nat)(L:LN)(K:List Nat):Bool:=K.isPerm (AF L)&&decide (K.Pairwise λr s=>afN n L r s=true)
theorem KOk.isK (c:iX n G)(E:dW G L)(d:n<=7)(h:KOk n L K=true):Cm n G L K:=by
 unfold KOk at h;rw[vN,Qf] at h;have p:K.Perm (AF L):=List.isPerm_iff.1 h.1
 have b: ∀r∈K,r<L.length:=λr a=>by
  have:=p.mem_iff.1 a;unfold AF at this;exact Gu.1 (CH.1 this).1
 exact⟨by rw[Za E];exact p,List.Pairwise.imp_of_mem (λa f h=>(abD c E d (b _ a) (b _ f)).2 h) h.2⟩
theorem KOk.eq (b:iX n G)(E:dW G L)(c:n<=7){a:List Nat}(h:KOk n L a=true)(k:Cm n G L K):K=a:=k.uniq (KOk.isK b E c h)
end
def ahR (n:Nat)(S:LN)(w:List Nat):List Nat:=w.foldl (λx i=>aX x (S.getD i [])) (bL n)
theorem AL {n:Nat}{S:LN}: ∀(w:List Nat) (x:List Nat),(∀i∈w,i<S.length)->bX n (· ∈S) x->bX n (· ∈S) (w.foldl (λx i=>aX x (S.getD i [])) x)
 | [],_,_,h=>h
 |i::w,x,hw,h=>AL w _ (λj a=>hw j (by simp [a])) (h.mul (bD (hw i (by simp))))
def Ze (n:Nat)(S L:LN)(ws:LN):Bool:=
 L==ws.map (ahR n S)&&ws.all (λw=>w.all λi=>decide (i<S.length))&&decide (L.Pairwise λx y=>yU x y=true)&&L.all (λx=>x.length==n)&&L.contains (bL n)&&L.all λx=>S.all λg=>L.contains (aX x g)
theorem Ze.Xz {n:Nat}{S L:LN}{ws:LN}(h:Ze n S L ws=true):dW (bX n (· ∈S)) L:=by
 unfold Ze at h;simp only[vN,beq_iff_eq,Kv,Qf,List.contains_iff_mem] at h;obtain⟨⟨⟨⟨⟨l,c⟩,f⟩,b⟩,j⟩,k⟩:=h;refine⟨List.Pairwise.imp_of_mem (λa i h=>(Cb (by rw[b _ a,b _ i])).1 h) f,λx=>⟨λa=>?_,λa=>?_⟩⟩
 ·rw[l] at a
  obtain⟨w,d,rfl⟩:=uF.1 a;exact AL w _ (c w d) .one
 ·induction a with
  |one=>exact j
  |mul _ hg ih=>exact k _ ih _ hg
def A4:LN:= [[1,2,0,3], [0,2,3,1]]
def L3:LN:= [[0,1,2], [0,2,1], [1,0,2], [1,2,0], [2,0,1], [2,1,0]]
theorem SA (h:H)(x y z:Int):lQ h 1 [aC 0] 3 [(0,1,aC x),(1,1,aC y),(2,1,aC z)]=some (.sl h.next 0 3 (.kn 3),h.new (.cells false (ints [x,y,z]))):=by
 have e:cX [aC 0] 3= [aC 0,aC 0,aC 0]:=rfl;simp [lQ,iS,e,putAt,V.cells,V.one,ints]
theorem Ec (h:H)(x y z w:Int):lQ h 1 [aC 0] 4 [(0,1,aC x),(1,1,aC y),(2,1,aC z),(3,1,aC w)]=some (.sl h.next 0 4 (.kn 4),h.new (.cells false (ints [x,y,z,w]))):=by
 have e:cX [aC 0] 4= [aC 0,aC 0,aC 0,aC 0]:=rfl;simp [lQ,iS,e,putAt,V.cells,V.one,ints]
theorem Tm (h:H){v u:V}(b:v.cells= [v]/\v.one=true)(a:u.cells= [u]/\u.one=true):lQ h 1 [.aE] 2 [(0,1,v),(1,1,u)]=some (.sl h.next 0 2 (.kn 2),h.new (.cells false [v,u])):=by
 have e:cX [V.aE] 2= [.aE,.aE]:=rfl;simp [lQ,iS,e,putAt,b.1,b.2,a.1,a.2]
theorem mW (id o m:Nat)(c:Kh):(V.sl id o m c).cells= [.sl id o m c]/\(V.sl id o m c).one=true:=⟨rfl,rfl⟩
theorem mkI {h:H}{ID:Nat}(a:h.next=ID)(l:List Int): ∃x,h.new (.cells false (ints l))=x/\x.next=ID+1/\SI x (.sl ID 0 l.length (.kn l.length)) l/\Fr h x:=by
 obtain⟨x,e,n,g,o,f⟩:=dF a (ints l);exact⟨x,e,n,SV.all (by rw[fT,uW]) om g _,f⟩
theorem SP.two {h h':H}{id:Nat}{v u:V}{a b:List Nat}(j:SI h v (zi a))(i:SI h u (zi b))(c:id<h'.next)(f:Fr h h')(g:h'.get id=aZ [v,u])(d:Kh):SP h' (.sl id 0 2 d) [a,b]:=
 ⟨[v,u],SV.all rfl c g _,j.mono f,i.mono f,trivial⟩
theorem SP.aoI {h h':H}{id:Nat}{v:V}{a:List Nat}(d:SI h v (zi a))(b:id<h'.next)(f:Fr h h')(g:h'.get id=aZ [v])(c:Kh):SP h' (.sl id 0 1 c) [a]:=
 ⟨[v],SV.all rfl b g _,d.mono f,trivial⟩
theorem GC.sl {W:Nat->Prop}{h:H}{c:V}{n:Nat}{O:LN}{R:jI}{G:List Nat->Prop}(g:GC W h c n O R G): ∃vO vR,c= .agg [aC n,vO,vR]/\vO.one=true/\vR.one=true/\dE vO vO=true/\dE vR vR=true:=by
 obtain⟨vO,vR,d,f,e,a,_,_,b,_,_⟩:=g.cw;exact⟨vO,vR,e,a.cK.2.1,b.cK.2.1,a.dE,b.dE⟩
theorem GC.el {W:Nat->Prop}{h:H}{a:V}{n:Nat}{O:LN}{R:jI}{G:List Nat->Prop}{L:LN}(g:GC W h a n O R G)(E:dW G L):cZ O R n 0 (bL n)=L:=(dM g.dN g.isc).1.uniq E
theorem dT {i:Decidable True}: @decide True i=true:=oQ trivial
def SB (h:H)(v:V)(l:List Bool):Prop:=SV h v 1 (l.map V.bool)
theorem SB.mono {h h':H}{v:V}{l:List Bool}(s:SB h v l)(f:Fr h h'):SB h' v l:=SV.mono s f
theorem SB.open {h:H}{v:V}{l:List Bool}(s:SB h v l):bT v=some (aC (l.length:Int))/\ ∃id off,Sl v 1 l.length id off/\ ∀i,i<l.length->id<h.next/\h.cell id (off+i)=some (.bool (l.getD i false)):=by
 have d:(l.map V.bool).length=l.length:=jV ..;refine⟨by unfold bT;rw[SV.len s (n:=l.length) om om];rfl,?_⟩;obtain⟨id,off,b,a,c⟩:=SV.shape s l.length om om;exact⟨id,off,b,λi hi=>⟨a om,by rw[c i om,Ol,List.getD,dD hi];rfl⟩⟩
set_option maxRecDepth 100000
theorem GC.all {W:Nat->Prop}{h:H}{a:V}{n:Nat}{O:LN}{R:jI}{G:List Nat->Prop}(g:GC W h a n O R G):dW G (cZ O R n 0 (bL n))/\(cZ O R n 0 (bL n)).length<=5040:=by
 have e:=dM g.dN g.isc;exact⟨e.1,by rw[e.2];exact jH g⟩
theorem ajN {n:Nat}{g c x:List Nat}(G':bE n g)(C:bE n c)(X:bE n x):cW (cW g x) (cW c x)=cW (cW g c) x:=by
 have e:aX x (cW c x)=aX c x:=by
  unfold cW;rw[←aV X (X.inv.mul C) X,←aV X X.inv C,fC X,mN C]
 rw[←nX G' X (qG C X),e,nX G' C X]
theorem AP {n:Nat}{a b x:List Nat}(A:bE n a)(B:bE n b)(X:bE n x)(h:cW a x=cW b x):a=b:=by
 rw[←MO A X,h,MO B X]
def dO (v:V)(id:Nat):Prop:= ∃off m c,v= .sl id off m c
theorem ML (u:V)(ws:List V)(h:H)(s:ws.length<1000000)(d:SV h u 1 ws):
  Ev T 163 [u] h (λv h'=>cY h' v 1 ws h.next/\Fr h h'):=by
 refine cV cG rfl ?_
 have b:Hg false u=some (.bool false)->Wp T none cG.fn.body (Fk cG.fn [u]) h (JN cG.fn.results λv h'=>cY h' v 1 ws h.next/\Fr h h'):=λk=>by
  have c:Fr h (h.new (.cells false [])):=(Fr.refl h).new _;have i:cY (h.new (.cells false [])) (.sl h.next 0 0 (.kn 0)) 1 [] h.next:=cY.new h 1 0 _ [] rfl (fM _);obtain⟨p,f,l,A⟩:=i.app (bytes:=24) (by rw[H.aU];omega) (d.mono c) (n:=0) (m:=ws.length) rfl om om om;simp(disch:=omega)only[go_sem,cG,aD,k,l];exact⟨by have:=A.own;rwa [List.nil_append] at this,A.fr _ c (fM _)⟩
 rcases d with ⟨rfl|⟨a,rfl⟩,rfl⟩|⟨id,j,len,o,q,r,rfl,f⟩
 ·simp(disch:=omega)only[go_sem,cG,aD]
  exact⟨cY.aE _ _ _,Fr.refl _⟩
 ·exact b rfl
 ·exact b rfl
theorem agG {n:Nat}{l:LN}{x:List Nat}(b: ∀g∈l,bE n g)(X:bE n x)(y:List Nat):Jn n (bX n (· ∈l)) [x] y↔bX n (· ∈l++ [x]) y:=by
 have a: ∀g∈l++ [x],bE n g:=λg h=>(pH.1 h).elim (b g) λh=>by rw[List.mem_singleton.1 h];exact X
 have d:=bX.dN (L:=(· ∈l)) b;constructor
 ·refine λh=>bX.le (bX.dN a) (λg h=>?_) h
  rcases h with h|h
  ·exact bX.mono (λg h=>pH.2 (.inl h)) h
  ·exact bX.of a (pH.2 (.inr h))
 ·refine λh=>bX.le (Jn.dN d λg h=>by rw[List.mem_singleton.1 h];exact X) (λg h=>?_) h
  have c: ∀g,(bX n (· ∈l) g∨g∈ [x])->bE n g:=λg h=>h.elim (λh=>h.cU b) λh=>by rw[List.mem_singleton.1 h];exact X
  rcases pH.1 h with h|h
  ·exact bX.of c (.inl (bX.of b h))
  ·exact bX.of c (.inr h)
structure ClJ (h hh:H)(D P4 P id C1 C2:Nat)(r:eH)(vby:V)(n:Nat)(l0 B:LN)(i k:Nat)(l:LN):Prop where
 ex: ∃vl ws,hh.get P=aZ [vl]/\cY hh vl 1 ws 0/\fW (λq=>q=D∨q=P∨q=id∨dO vl q) hh ws l/\Qa (λq=>q<h.next∨q=P∨q=id∨dO vl q) hh D n (bX n (· ∈l))/\ ∀q,dO vl q->h.next<=q/\q≠D/\q≠P4/\q≠P/\q≠C1/\q≠C2/\q≠id/\q<hh.next
 g4:hh.get P4=aZ [.ptr D 0]
 c1:hh.get C1=aZ [.ptr P 0]
 c2:hh.get C2=aZ [vby]
 gr:hh.get id=some (.loop r)
 fr:Fr h hh
 nx:id<hh.next
 pre: ∃t,l=l0++t/\t.Nodup/\ ∀g∈t,bE n g
 nc: ∀g∈l,NC n (· ∈l0) (· ∈B) g
 cj: ∀i' k',(i'<i∨i'=i/\k'<k)->i'<l.length->k'<B.length->bX n (· ∈l) (cW (l.getD i' []) (B.getD k' []))
theorem ClJ.fr' {h u h2:H}{D s P id o p:Nat}{r:eH}{m:V}{n:Nat}{t B:LN}{i k:Nat}{l:LN}(j:ClJ h u D s P id o p r m n t B i k l)(G:s<id/\P<id/\o<id/\p<id)(f:Fr u h2):ClJ h h2 D s P id o p r m n t B i k l:=by
 obtain⟨F,v,g,z,pv,w,y⟩:=j.ex;have nx:=j.nx;exact⟨⟨F,v,by rw[f.get P om];exact g,z.fr f,aM.mono (λ_ _ x=>x.fx (Fx.of f)) pv,w.fr f,λq A=>by obtain⟨a,b,c,d,e,g,i,k⟩:=y q A;exact⟨a,b,c,d,e,g,i,iW k f.next⟩⟩,by rw[f.get s om];exact j.g4,by rw[f.get o om];exact j.c1,by rw[f.get p om];exact j.c2,by rw[f.get id om];exact j.gr,j.fr.trans f,iW nx f.next,j.pre,j.nc,j.cj⟩
theorem Fx.wide {W W':Nat->Prop}{h h':H}(f:Fx W h h')(b: ∀q,W q->W' q):Fx W' h h':=⟨f.next,λq c a=>f.get q c λh=>a (b q h)⟩
theorem acE {n:Nat}{l:LN}{x g:List Nat}(h:bX n (· ∈l) g):bX n (· ∈l++ [x]) g:=bX.mono (λ_ h=>pH.2 (.inl h)) h
theorem Zo {l:LN}{x:List Nat}{i:Nat}(hi:i<l.length):(l++ [x]).getD i []=l.getD i []:=by
 rw[WN,WN,Dv hi]
theorem adO {n:Nat}{l:LN}(a: ∀g∈l,bE n g)(x:List Nat):Jn n (λx=>x=bL n) l x↔bX n (· ∈l) x:=
 ⟨λh=>bX.le (bX.dN a) (λg h=>h.elim (λe=>by rw[e];exact .one) λh=>bX.of a h) h,λh=>bX.mono (λg h=> .inr h) h⟩
theorem Vu (n:Nat):iX n (λx=>x=bL n):=⟨λe=>by rw[e];exact bE.one n,rfl,λa b=>by rw[a,b,mN (bE.one n)],λa=>by rw[a,oJ]⟩
theorem Qx (vl J:V)(n:Nat)(U B:LN)(h:H)(n0:1<=n)(n7:n<=7)(a8: ∀g∈U,bE n g)(d0: ∀b∈B,bE n b)(k9:U.length<100000)(Bl:B.length<1000000)(sl:SP h vl U)(sB:SP h J B):
  Ev T 124 [aC n,vl,J] h (λv h'=> ∃D,v= .ptr D 0/\h.next<=D/\Qa (λq=>q<h.next) h' D n (NC n (· ∈U) (· ∈B))/\Fr h h'):=by
 refine cV vV rfl ?_
 have hM:n^n<=823543:=by
  have: ∀k,k<=7->k^k<=823543:=by decide
  exact this n n7
 simp(disch:=omega)only[go_sem,vV,aD]
 refine (VZ n h n0 n7).mono ?_
 rintro _ A ⟨D,rfl,hD,b1,f1⟩
 obtain⟨ws,sv,al⟩:=sl
 have lw:=aM.length al
 rw[jV] at lw
 have c8:SV h vl 1 ws:=sv
 have ins:=SV.in c8
 have nD:=b1.nx
 have d2: ∀h',Fr h h'->SV h' vl 1 ws/\Mq (· =D) vl/\fW (· =D) h' ws U:=λh' f=>by
  refine⟨c8.mono f,?_,aM.mQ lw λi hi hj=>?_⟩
  ·cases vl with
   |sl id K m c=>exact λe=>by have:=ins _ _ _ _ rfl;omega
   |_=>trivial
  ·have s:=aM.get al i hi (by rw[jV];exact hj)
   rw[List.getElem_map] at s;refine⟨s.mono f,?_⟩;generalize ws[i]=v at s;have i2:=SV.in s
   cases v with
   |sl id K m c=>exact λe=>by have:=i2 _ _ _ _ rfl;omega
   |_=>trivial
 obtain⟨s1,j9,p1⟩:=d2 A f1
 simp(disch:=omega)only[go_sem]
 refine (Wv (W:=λq=>q<h.next) D vl ws n _ U A n0 n7 (Vu n) a8 om (λq h=>iW h f1.next) b1 s1 j9 p1).mono ?_
 rintro _ d ⟨rfl,b2,f2⟩
 have k5:=f1.next
 have k4:=f2.next
 have h0:Fr h d:=⟨om,λq N=>by rw[f2.get q om (by show q≠D;omega)];exact f1.get q N⟩
 obtain⟨P4,d1⟩:=exI d.next
 obtain⟨h3,e3,n3,g3,o3,f3⟩:=dF d1 [.nilp]
 obtain⟨h4,e4,n4,g4,o4⟩:=pJ h3 P4 [.ptr D 0]
 have e1:Fr d h4:=⟨om,λq N=>by rw[o4 q om,o3 q om]⟩
 have pt: ∀(G:H) (id:Nat) (u w:V),dX (some (.cells false [u])) G id 0 [w]=some (G.set id (some (.cells false [w]))):=λG id u w=>bN (by simp) G _ _
 simp(disch:=omega)only[go_sem,d1,e3,Fw (show (V.ptr D 0).cells= [V.ptr D 0] from rfl) rfl,g3,pt,e4]
 have d7:=h0.trans e1
 refine (ML vl ws h4 om (c8.mono d7)).mono ?_
 rintro vk h5 ⟨c4,f5⟩
 have k7:=f5.next
 obtain⟨P,hP⟩:=exI h5.next
 obtain⟨h6,e6,n6,g6,o6,f6⟩:=dF hP [.aE]
 obtain⟨h7,e7,k2,g7,o7⟩:=pJ h6 P [vk]
 have c0:Fr h5 h7:=⟨om,λq N=>by rw[o7 q om,o6 q om]⟩
 have wk:=SV.cK c4.sv
 simp(disch:=omega)only[go_sem,hP,e6,Fw wk.1 wk.2.1,g6,pt,e7]
 have d4:Fr h h7:=d7.trans (f5.trans c0)
 have wB:=SV.cK (show SV h J 1 _ from sB.choose_spec.1)
 obtain⟨h8,e8,n8,g8,o8,f8⟩:=dF (h:=h7) rfl [.ptr P 0]
 obtain⟨h9,e9,n9,g9,o9,f9⟩:=dF n8 [J]
 refine Ev.mono (Q:=λv h'=>v= .fn 206 [] [.ptr h7.next 0,.ptr (h7.next+1) 0]/\h9=h') ?_ ?_
 ·refine cV rE rfl ?_
  simp(disch:=omega)only[go_sem,rE,aD,mF (x:= .ptr P 0) rfl rfl h7,e8,mF wB.1 wB.2.1 h8,n8,e9]
 rintro _ _ ⟨rfl,rfl⟩
 simp(disch:=omega)only[go_sem]
 obtain⟨C1,i7⟩:=exI h7.next
 obtain⟨C2,i4⟩:=exI (C1+1)
 obtain⟨id,c5⟩:=exI h9.next
 rw[i7] at n8 n9 g8 o8 g9 o9 ⊢
 rw[i4] at n8 n9 g9 o9 ⊢
 refine⟨rfl,uJ λr hr=>?_⟩
 rw[c5]
 have iP:r.st= .ready:=by rw[hr]
 have c3:r.pend=none:=by rw[hr]
 have oA: ∀k,k<id->(h9.new (.loop r)).get k=h9.get k:=λk hk=>H.bG h9 om _
 have nA:(h9.new (.loop r)).next=id+1:=by rw[H.aU,c5]
 have hc:P4<id/\P<id/\C1<id/\C2<id:=om
 have f7:Fr h7 h9:=f8.trans f9
 have FA:Fr h7 (h9.new (.loop r)):=f7.new _
 have c6: ∀q,dO vk q->h4.next<=q/\q<P:=λq ⟨K,m,c,e⟩=>by
  have:=c4.in _ _ _ _ e;omega
 have i6: ∀i (hi:i<ws.length) (hj:i<U.length),PV (λq=>h.next<=q) (h9.new (.loop r)) ws[i] U[i]:=λi hi hj=>by
  have s:=aM.get al i hi (by rw[jV];exact hj);rw[List.getElem_map] at s;refine⟨s.mono (d4.trans FA),?_⟩;generalize ws[i]=v at s;have i2:=SV.in s
  cases v with
  |sl id K m c=>exact λe=>by have:=i2 _ _ _ _ rfl;have e:h.next<=id:=e;omega
  |_=>trivial
 have J0:ClJ h (h9.new (.loop r)) D P4 P id C1 C2 r J n U B 0 0 U:=by
  refine⟨⟨vk,ws,by rw[oA _ om,o9 _ om,o8 _ om];exact g7,(c4.fr (c0.trans FA)).le (iJ _),aM.mQ lw λi hi hj=>(i6 i hi hj).Fo λq _ N=>?_,?_,λq N=>?_⟩,by rw[oA _ om,f7.get _ om,o7 _ om,o6 _ om,f5.get _ om];exact g4,by rw[oA _ om,o9 _ om];exact g8,by rw[oA _ om];exact g9,by rw[←c5,H.aL],d4.trans FA,om,⟨[],(vF _).symm,List.nodup_nil,λ_ h=>by cases h⟩,λg hg=>NC.of hg,λi' k' h=>om⟩
  ·show h.next<=q
   rcases N with rfl|rfl|rfl|N
   ·exact hD
   ·omega
   ·omega
   ·have:=c6 q N;omega
  ·exact ((b2.Fo (W':=λq=>q<h.next∨q=P∨q=id∨dO vk q) (λq A d=>by
    rcases d with e|e|e|e
    ·exact e
    ·omega
    ·omega
    ·have:=c6 q e;omega)).fr (e1.trans (f5.trans (c0.trans FA)))).congr λx=>adO a8 x
  ·have:=c6 q N;omega
 have jf: ∀i k l G h',ClJ h G D P4 P id C1 C2 r J n U B i k l->Fr G h'->ClJ h h' D P4 P id C1 C2 r J n U B i k l:=λi k l G h' j f=>j.fr' hc f
 have c7: ∀i k l G,ClJ h G D P4 P id C1 C2 r J n U B i k l-> ∀g∈l,bE n g:=λi k l G j g hg=>by
  obtain⟨t,e,_,tP⟩:=j.pre;rw[e] at hg;exact (pH.1 hg).elim (a8 g) (tP g)
 refine (QD id C1 C2 P J B n (U.length+n^n) n0 om d0 Bl om _ (λi k l G=>ClJ h G D P4 P id C1 C2 r J n U B i k l) U J0 ?_ jf ?_ ?_).mono ?_
 ·intro i k l G j
  obtain⟨o,a1,gP,ow,pv,bd,bl⟩:=j.ex
  refine⟨j.c1,j.c2,⟨o,a1,gP,ow.sv,aM.mono (λ_ _ x=>x.si) pv⟩,sB.mono j.fr,?_,c7 _ _ _ _ j⟩
  obtain⟨t,e,tN,tP⟩:=j.pre
  have:=Be tN tP
  rw[e,jZ]
  omega
 ·intro i l G j
  exact⟨j.ex,j.g4,j.c1,j.c2,j.gr,j.fr,j.nx,j.pre,j.nc,λi' k' h A d=>j.cj i' k' om A d⟩
 ·intro i k l ha G w b4 g1 j0 fa pw
  have j:=j0.fr' hc fa
  obtain⟨o,a1,g2,i8,d3,a3,Y⟩:=j0.ex
  have l6:=j0.nx
  have l3:=fa.next
  obtain⟨Wl,a4⟩: ∃Wl:Nat->Prop,Wl=λq=>q<h.next∨q=P∨q=id∨dO o q:=⟨_,rfl⟩
  rw[←a4] at a3
  obtain⟨x,hx⟩:=exI (cW (l.getD i []) (B.getD k []))
  rw[hx] at pw
  have a0:=c7 _ _ _ _ j0
  have X:bE n x:=by rw[←hx];exact qG (a0 _ (bD b4)) (d0 _ (bD g1))
  refine sZ j.gr (by rw[hr];rfl) iP λhb gb nb ob=>?_
  rw[congrArg eH.assign hr,congrArg eH.vars hr,congrArg eH.pars hr]
  simp(disch:=omega)only[go_sem,List.zip_cons_cons,List.zip_nil_left]
  rw[congrArg eH.body hr]
  have j7:Fx (· =id) ha hb:=⟨om,λq A d=>by rw[ob q d,fa.get q A]⟩
  have d8:Wl id:=by rw[a4];exact .inr (.inr (.inl rfl))
  have WP:Wl P:=by rw[a4];exact .inr (.inl rfl)
  have c9:Qa Wl hb D n (bX n (· ∈l)):=a3.fx (Fx.wide j7 λq (h:q=id)=>by rw[h];exact d8)
  obtain⟨vO,vR,O,R,gD,gc⟩:=c9.ex
  have j4:=c9.nx
  have b8:SI hb w (zi x):=SV.fx pw.si (W:=(· =id)) (by
   have:=pw.off
   cases w with
   |sl q K m c=>exact λe=>this (by have e:q=id:=e;omega)
   |_=>trivial) ⟨om,λq A d=>ob q d⟩
  have e0:hb.get P4=some (.cells false [.ptr D 0]):=by rw[ob _ om];exact j.g4
  simp(disch:=omega)only[go_sem,H.aF e0]
  refine (FE D w vO vR n O R _ x hb gc j4 gD X b8).mono ?_
  rintro _ hs ⟨bb,rfl,f4,fs⟩
  have l2:=fs.next
  cases bb with
  |true=>
   simp(disch:=omega)only[go_sem];refine oX iP c3 (by rw[fs.get id om];exact gb) ⟨rfl,l,b4,?_⟩
   have F:Fr G (hs.set id (some (.loop r))):=⟨by simp only[H.bY];omega,λq N=>by
    by_cases e:q=id
    ·rw[e,H.aS];exact j.gr.symm
    ·rw[H.aG _ e,fs.get q om,ob q e]⟩
   have j2:=j.fr' hc F;refine⟨j2.ex,j2.g4,j2.c1,j2.c2,j2.gr,j2.fr,j2.nx,j2.pre,j2.nc,λi' k' h A d=>?_⟩
   by_cases e:i'=i/\k'=k
   ·rw[e.1,e.2,hx];exact f4.1 rfl
   ·exact j2.cj i' k' om A d
  |false=>
   have j5: ¬bX n (· ∈l) x:=λh=>by have:=f4.2 h;cases this
   have gl:=bX.dN (L:=(· ∈l)) a0
   have j8: ∀q,Wl q->q<ha.next:=λq h=>by
    rw[a4] at h;rcases h with h|h|h|h
    ·have:=j0.fr.next;omega
    ·omega
    ·omega
    ·exact (Y q h).2.2.2.2.2.2.2
   have wx:=SV.cK b8;have i5:hs.get P4=some (.cells false [.ptr D 0]):=by rw[fs.get _ om];exact e0
   obtain⟨S,hS⟩:=exI hs.next;obtain⟨ht,et,nt,gt,ot,ft⟩:=dF hS [w];have f0:Fr hb ht:=fs.trans ft;simp(disch:=omega)only[go_sem,H.aF i5,cT hs (z:= .aE) wx.1 wx.2.1,hS,et];refine (Wv (W:=Wl) D (.sl S 0 1 (.kn 1)) [w] n _ [x] ht n0 n7 gl (λg hg=>by rw[List.mem_singleton.1 hg];exact X) (by show 1<1000000;decide) (λq h=>by have:=j8 q h;omega) (c9.fr f0) (SV.one om gt (.kn 1)) (λe=>by have e:S=D:=e;omega) ⟨⟨b8.mono f0,?_⟩,trivial⟩).mono ?_
   ·have:=pw.off
    have nD:=a3.nx
    cases w with
    |sl q K m c=>exact λe=>this (by have e:q=D:=e;omega)
    |_=>trivial
   rintro _ Z ⟨rfl,bw,fw⟩;have l4:=fw.next
   have a9: ∀q,q<ha.next->q≠id->q≠D->Z.get q=ha.get q:=λq A d h3=>by
    rw[fw.get q om h3,ft.get q om,fs.get q om,ob q d,fa.get q A]
   have k1:=a3.nx;have PD:P≠D:=λe=>a3.nW (e▸WP)
   have d5:Z.get P=some (.cells false [o]):=by rw[a9 P om om PD];exact g2
   have k8:Fx (λq=>q=id∨q=D) ha Z:=⟨om,λq A d=>a9 q A (λe=>d (.inl e)) λe=>d (.inr e)⟩
   have d9:cY Z o 1 a1 0:=i8.mono om λq _ _ _ e _ A=>a9 q A (Y q ⟨_,_,_,e⟩).2.2.2.2.2.2.1 (Y q ⟨_,_,_,e⟩).2.1
   have k6:=SV.cK d9.sv;obtain⟨S2,e5⟩:=exI Z.next;obtain⟨d6,i1,k3,g5,l9,b0⟩:=dF e5 [w];have l5:=aM.length d3;obtain⟨t,el,tN,tP⟩:=j0.pre;have l7:=Be tN tP;have ll:l.length=U.length+t.length:=by rw[el,jZ]
   obtain⟨b7,a2,p2⟩:=(d9.fr b0).push (bytes:=24) (SV.one (v:=w) (id:=S2) om g5 (.kn 1)) (n:=a1.length) (m:=1) om rfl om om om;have m0:=p2.next;have ap: ∀q,¬dO o q->dL o q:=λq N l8 K m c e e2=>N ⟨K,m,c,by rw[e2];exact e⟩
   have k0: ¬dO o P:=λh=>(Y P h).2.2.2.1 rfl
   have j6: ¬dO o id:=λh=>(Y id h).2.2.2.2.2.2.1 rfl
   have i0:b7.get P=some (.cells false [o]):=by rw[p2.old P om (ap P k0),b0.get P om];exact d5
   have j1:b7.get id=some (.loop (pW r)):=by rw[p2.old id om (ap id j6),b0.get id om,fw.get id om (λe=>a3.nW (e▸d8)),ft.get id om,fs.get id om];exact gb
   simp(disch:=omega)only[go_sem,H.aF d5,cT Z (z:= .aE) wx.1 wx.2.1,e5,i1,a2,i0,pt];refine oX iP c3 (by rw[H.aG _ om];exact j1) ⟨rfl,l++ [x],by rw[jZ];omega,?_⟩;obtain⟨vn,b9⟩:=exI (V.sl d6.next 0 (a1.length+1) (.un 1));rw[b9];obtain⟨hz,a5⟩:=exI ((b7.set P (some (.cells false [vn]))).set id (some (.loop r)));rw[a5];have nz:hz.next=b7.next:=by rw[←a5];rfl
   have oz: ∀q,q<Z.next->q≠P->q≠id-> ¬dO o q->hz.get q=Z.get q:=λq A d h3 h4=>by
    rw[←a5,H.aG _ h3,H.aG _ d,p2.old q om (ap q h4),b0.get q om]
   have a7: ∀q,q<ha.next->q≠P->q≠id->q≠D-> ¬dO o q->hz.get q=ha.get q:=λq A d h3 h4 h5=>by
    rw[oz q om d h3 h5,a9 q A h3 h4]
   have bn: ∀q,dO vn q->q=d6.next:=λq ⟨K,m,c,e⟩=>by rw[←b9] at e;cases e;rfl
   have nb: ∀q,(q=P4∨q=C1∨q=C2)-> ¬dO o q:=λq N h=>by
    obtain⟨_,_,b3,_,b5,b6,_⟩:=Y q h;rcases N with e|e|e
    ·exact b3 e
    ·exact b5 e
    ·exact b6 e
   have i3:P4≠D:=om
   have Fz:Fx (λq=>q=D∨q=P∨q=id∨dO o q) ha hz:=⟨om,λq A d=>a7 q A (λe=>d (.inr (.inl e))) (λe=>d (.inr (.inr (.inl e)))) (λe=>d (.inl e)) λe=>d (.inr (.inr (.inr e)))⟩
   refine⟨⟨vn,a1++ [w],by rw[←a5,H.aG _ om,H.aS],?_,?_,?_,λq N=>?_⟩,?_,?_,?_,by rw[←a5,H.aS],⟨by have:=j0.fr.next;omega,λq N=>?_⟩,om,⟨t++ [x],by rw[el,Ll],?_,?_⟩,?_,?_⟩
   ·rw[←b9]
    exact (p2.own om rfl (iJ _)).mono om λq K m c e _ _=>by
     cases e;rw[←a5,H.aG _ om,H.aG _ om]
   ·refine aM.append (aM.mono (λv y p=>PV.go p Fz λq A d=>?_) d3) ⟨?_,trivial⟩
    ·rcases d with h|h|h|h
     ·exact .inl h
     ·exact .inr (.inl h)
     ·exact .inr (.inr (.inl h))
     ·have:=bn q h;omega
    ·have j3:Fx (λq=>q<ha.next) G hz:=⟨om,λq A d=>by
      have d: ¬q<ha.next:=d
      rw[oz q om om om (λh=>d (Y q h).2.2.2.2.2.2.2),fw.get q om (by show q≠D;omega),ft.get q om,fs.get q om,ob q om]⟩
     refine PV.go pw j3 λq A d=>?_
     show q<ha.next;rcases d with h|h|h|h
     ·omega
     ·omega
     ·omega
     ·have:=bn q h;omega
   ·refine (bw.go (W':=λq=>q<h.next∨q=P∨q=id∨dO vn q) ⟨om,λq A d=>?_⟩ λq A d=>?_).congr λy=>agG a0 X y
    ·rw[a4] at d
     exact oz q A (λe=>d (.inr (.inl e))) (λe=>d (.inr (.inr (.inl e)))) λe=>d (.inr (.inr (.inr e)))
    ·rw[a4]
     rcases d with h|h|h|h
     ·exact .inl h
     ·exact .inr (.inl h)
     ·exact .inr (.inr (.inl h))
     ·have:=bn q h;omega
   ·have:=bn q N
    have:=j0.fr.next;omega
   ·rw[a7 P4 om om om i3 (nb _ (.inl rfl))];exact j0.g4
   ·rw[a7 C1 om om om om (nb _ (.inr (.inl rfl)))];exact j0.c1
   ·rw[a7 C2 om om om om (nb _ (.inr (.inr rfl)))];exact j0.c2
   ·rw[a7 q (by have:=j0.fr.next;omega) om om om (λh=>by have:=(Y q h).1;omega)];exact j0.fr.get q N
   ·refine List.nodup_append.2 ⟨tN,(by simp),λa ha b hb e=>?_⟩
    rw[List.mem_singleton.1 hb] at e;exact j5 (bX.of a0 (by rw[el];exact pH.2 (.inr (e▸ha))))
   ·intro g hg
    exact (pH.1 hg).elim (tP g) λh=>by rw[List.mem_singleton.1 h];exact X
   ·intro g hg
    rcases pH.1 hg with h|h
    ·exact j0.nc g h
    ·rw[List.mem_singleton.1 h,←hx]
     exact NC.cj (j0.nc _ (bD b4)) (bD g1)
   ·intro i' k' l1 A d
    by_cases e:i'=i/\k'=k
    ·obtain⟨rfl,rfl⟩:=e
     rw[Zo b4,hx];exact bX.of (λg hg=>(pH.1 hg).elim (a0 g) λh=>by rw[List.mem_singleton.1 h];exact X) (pH.2 (.inr (List.mem_singleton.2 rfl)))
    ·have a6:i'<l.length:=om
     rw[Zo a6];exact acE (j0.cj i' k' om a6 d)
 ·rintro _ G ⟨l,j⟩
  refine⟨r,j.gr,by rw[iP];simp,?_⟩
  have en:r.pend.getD .norm= .norm:=by rw[c3];rfl
  rw[en]
  have nx:=j.nx
  obtain⟨o,a1,gP,ow,pv,bd,bl⟩:=j.ex
  have i9:(G.set id (some (.loop {r with st:= .out}))).get P4=some (.cells false [.ptr D 0]):=by rw[H.aG _ om];exact j.g4
  simp(disch:=omega)only[go_sem,H.aF i9]
  have fz:Fx (λq=>q<h.next∨q=P∨q=id∨dO o q) G (G.set id (some (.loop {r with st:= .out}))):=Fx.set (W:=λq=>q<h.next∨q=P∨q=id∨dO o q) _ (.inr (.inr (.inl rfl))) _
  refine⟨D,rfl,hD,?_,j.fr.set om _⟩
  refine ((bd.fx fz).congr λx=>MX d0 a8 (c7 _ _ _ _ j) ?_ j.nc ?_ x).Fo ?_
  ·intro g hg
   obtain⟨t,e,_⟩:=j.pre
   rw[e];exact pH.2 (.inl hg)
  ·intro x hx b hb
   obtain⟨i',a6,rfl⟩:=zF.1 hx
   obtain⟨k',g0,rfl⟩:=zF.1 hb
   have:=j.cj i' k' (.inl a6) a6 g0
   rwa [←rN a6,←rN g0] at this
  ·exact λq _ h=> .inl h
theorem GC.one {W:Nat->Prop}{h:H}{b a:V}{d:Int}{n:Nat}{O:LN}{R:jI}{G:List Nat->Prop}(g:GC W h (.agg [aC d,b,a]) n O R G):d=(n:Int)/\b.one=true/\a.one=true:=by
 obtain⟨_,_,_,_,e,c,_,_,f,_,_⟩:=g.cw;cases e;exact⟨rfl,(SV.cK c).2.1,(SV.cK f).2.1⟩
theorem GC.shape {W:Nat->Prop}{h:H}{a:V}{n:Nat}{O:LN}{R:jI}{G:List Nat->Prop}(g:GC W h a n O R G): ∃vO vR,a= .agg [aC n,vO,vR]/\vO.one=true/\vR.one=true:=by
 obtain⟨vO,vR,_,_,e,b,_,_,c,_,_⟩:=g.cw;exact⟨vO,vR,e,(SV.cK b).2.1,(SV.cK c).2.1⟩
theorem QF {W W':Nat->Prop}(t p:V)(n:Nat)(O P:LN)(R R':jI)(G G':List Nat->Prop)(h:H)(s:GC W h t n O R G)(y:GC W' h p n P R' G'):
  Ev T 121 [t,p] h (λv h'=>v= aC 0/\Fr h h'):=by
 obtain⟨m,i,rfl,U,oR⟩:=s.shape
 obtain⟨l,d,rfl,Z,pR⟩:=y.shape
 refine cV zO rfl ?_
 obtain⟨B,o⟩:=exI h.next
 obtain⟨Q,L,q,J,o1,f1⟩:=dF o [aC n,m,i]
 obtain⟨c,e2,n2,g2,N,f2⟩:=dF q [aC n,l,d]
 have F2:=f1.trans f2
 have z: ∀a,Fr c a->a.get B=aZ [aC n,m,i]:=λa f=>by rw[f.get B om,N B om];exact J
 have r: ∀a,Fr c a->a.get (B+1)=aZ [aC n,l,d]:=λa f=>by rw[f.get (B+1) om];exact g2
 have A:=Fr.refl c
 simp(disch:=omega)only[go_sem,zO,aD,bM h (v:= aC n) (u:=m) (w:=i) rfl U oR,o,L,bM Q (v:= aC n) (u:=l) (w:=d) rfl Z pR,q,e2,aI (z c A)]
 refine ((s.mono F2).check).mono ?_
 rintro _ K ⟨rfl,k⟩
 simp(disch:=omega)only[go_sem]
 refine aW (λj=>(j rfl).elim) (λ_=>?_)
 simp(disch:=omega)only[go_sem,aI (r K k)]
 refine ((y.mono (F2.trans k)).check).mono ?_
 rintro _ x ⟨rfl,F⟩
 have b:=k.trans F
 simp(disch:=omega)only[go_sem]
 refine aW (λj=>(j rfl).elim) (λ_=>?_)
 have Y:decide ((n:Int)≠(n:Int))=false:=bH (λh=>h rfl)
 simp(disch:=omega)only[go_sem,H.aF (z x b),H.aF (r x b),Y]
 exact F2.trans b
def NB (A B:LN):LN:=A.flatMap λp=>B.map (jE p)
theorem GP {A B:LN}{x:List Nat}:x∈NB A B↔ ∃p,p∈A/\ ∃q,q∈B/\x=jE p q:=by
 unfold NB;simp only[List.mem_flatMap,uF];exact⟨λ⟨p,hp,q,hq,e⟩=>⟨p,hp,q,hq,e.symm⟩,λ⟨p,hp,q,hq,e⟩=>⟨p,hp,q,hq,e.symm⟩⟩
theorem Uk (A B:LN):(NB A B).length=A.length*B.length:=by
 induction A with
 |nil=>simp [NB]
 |cons a A ih=>
  unfold NB at ih ⊢;rw[List.flatMap_cons,jZ,ih,jV,List.length_cons,Nat.succ_mul,Nat.add_comm]
def IP (A B:LN)(i k:Nat):LN:=NB (A.take i) B++(B.take k).map (jE (A.getD i []))
theorem QV (A B:LN){i k:Nat}(a:k<B.length):IP A B i (k+1)=IP A B i k++ [jE (A.getD i []) (B.getD k [])]:=by
 unfold IP;rw[cE [] a,List.map_append,←Ll];rfl
theorem XS (A B:LN){i:Nat}(hi:i<A.length):IP A B i B.length=IP A B (i+1) 0:=by
 unfold IP;rw[List.take_length,List.take_zero,List.map_nil,vF,cE [] hi];unfold NB;rw[List.flatMap_append];simp
theorem abO (A B:LN):IP A B A.length 0=NB A B:=by
 unfold IP;rw[List.take_length,List.take_zero,List.map_nil,vF]
theorem abL {A B:LN}{i k:Nat}(hi:i<=A.length)(a:k<=B.length):(IP A B i k).length<=(A.length+1)*B.length:=by
 unfold IP;rw[jZ,Uk,Fj,jV,Fj,Nat.min_eq_left hi,Nat.min_eq_left a,Nat.succ_mul];have:=Nat.mul_le_mul_right B.length hi;omega
section
variable {h:H} {v:V} {ws:List V} {b k n:Nat} {A S Q:LN} {y x:List Nat}
def KD (h:H)(v:V)(ws:List V)(b:Nat):Prop:= ∃id cap rest,v= .sl id 0 ws.length cap/\b<=id/\id<h.next/\h.get id=aZ (ws++rest)/\(cap= .un 1∨cap= .kn 1/\ws.length+rest.length=1)
theorem KD.sv (t:KD h v ws b):SV h v 1 ws:=by
 obtain⟨id,a,c,rfl,i,d,f,_⟩:=t;exact .inr ⟨id,0,_,a,false,_,rfl,(uW _).symm,d,f,by rw[jZ];omega,by rw[List.drop_zero,uW,List.take_left' rfl]⟩
theorem KD.zA {h':H}(t:KD h v ws b)(m:h.next<=h'.next)(d: ∀id,dO v id->h'.get id=h.get id):KD h' v ws b:=by
 obtain⟨id,c,a,e,j,l,i,f⟩:=t;exact⟨id,c,a,e,j,om,by rw[d id ⟨_,_,_,e⟩];exact i,f⟩
theorem KD.in (t:KD h v ws b){id:Nat}(d:dO v id):b<=id/\id<h.next:=by
 obtain⟨i,j,a,rfl,f,c,_⟩:=t;obtain⟨_,_,_,e⟩:=d;cases e;exact⟨f,c⟩
theorem KD.push {y:V}{S:Nat}{c:Kh}(t:KD h v ws b)(o:SV h (.sl S 0 1 c) 1 [y])(w:b<=h.next)(N:ws.length<1000000):
  ∃v' h',xQ h 1 24 v (.sl S 0 1 c)=some (v',h')/\KD h' v' (ws++ [y]) b/\(∀k,k<h.next-> ¬dO v k->h'.get k=h.get k)/\h.next<=h'.next/\h'.next<=h.next+1/\ ∀k,dO v' k->dO v k∨k=h.next:=by
 have J:xQ h 1 24 v (.sl S 0 1 c)=Ay.yB h 1 24 v 1 [y]:=by
  simp only[xQ,o.len (n:=1) rfl om,o.slice]
 rw[J]
 have q:=t.sv
 have a:=q.len (n:=ws.length) om om
 have l:=q.slice
 obtain⟨id,i,f,rfl,L,s,p,u⟩:=t
 unfold Ay.yB
 simp only[a,l]
 rw[bI om,bF ⟨om,om⟩]
 have d: ∀g:H,g.next=h.next->(∀k,k<h.next->k≠id->g.get k=h.get k)-> ∃v' h',some (V.sl h.next 0 (ws.length+1) (.un 1),g.new (.cells false (ws++ [y])))=some (v',h')/\KD h' v' (ws++ [y]) b/\(∀k,k<h.next-> ¬dO (.sl id 0 ws.length i) k->h'.get k=h.get k)/\h.next<=h'.next/\h'.next<=h.next+1/\ ∀k,dO v' k->dO (.sl id 0 ws.length i) k∨k=h.next:=by
  intro g K r;refine⟨_,_,rfl,⟨h.next,_, [],by rw[jZ];rfl,w,by rw[H.aU];omega,by rw[←K,H.aL,vF],.inl rfl⟩,λk j m=>?_,by rw[H.aU];omega,by rw[H.aU];omega,λk ⟨_,_,_,e⟩=>by cases e;exact .inr rfl⟩;rw[H.bG g om];exact r k j (λe=>m ⟨_,_,_,by rw[e]⟩)
 rcases u with rfl|⟨rfl,G⟩
 ·simp only[p,if_true]
  exact d (h.set id none) rfl (λk _ j=>H.aG h j none)
 ·simp only
  by_cases e:ws.length+1<=1
  ·rw[bF e]
   have B:ws= []:=WJ om
   subst B
   obtain⟨z,rfl⟩: ∃z,f= [z]:=List.length_eq_one_iff.1 (by simpa using G)
   have F:h.put id (0+([]:List V).length*1) [y]=some (h.set id (aZ [y])):=by
    simp [H.put,p,putAt]
   rw[F]
   refine⟨_,_,rfl,⟨id,_, [],rfl,L,s,by rw[H.aS];rfl,.inr ⟨rfl,rfl⟩⟩,λk j m=>H.aG h (λe=>m ⟨0,0,.kn 1,by rw[e];rfl⟩) _,fM _,Nat.le_succ _,λk ⟨_,_,_,e⟩=>by cases e;exact .inl ⟨_,_,_,rfl⟩⟩
  ·rw[bI e]
   exact d h rfl (λ_ _ _=>rfl)
def DX (A:LN)(k:Nat)(y:List Nat):LN:=A.take k++y::A.drop k
theorem oL {z:List Nat}:z∈DX A k y↔z=y∨z∈A:=by
 unfold DX;rw[pH,zH];constructor
 ·rintro (h|h|h)
  ·exact .inr (List.mem_of_mem_take h)
  ·exact .inl h
  ·exact .inr (List.mem_of_mem_drop h)
 ·rintro (h|h)
  ·exact .inr (.inl h)
  ·rw[←List.take_append_drop k A,pH] at h
   rcases h with h|h
   ·exact .inl h
   ·exact .inr (.inr h)
theorem RY {a b:List Nat}(A:bE n a)(B:bE n b)(u: ¬Lt a b)(h2:a≠b):Lt b a:=by
 have h: ∃i,i<n/\a.getD i 0≠b.getD i 0:=Jg λh=>h2 (yC (by rw[A.len,B.len]) λi hi=>Jg λl=>h ⟨i,by rw[←A.len];exact hi,l⟩)
 obtain⟨i,hi,c⟩:=h
 have s: ∃i,(i<n/\a.getD i 0≠b.getD i 0)/\ ∀j,j<i-> ¬(j<n/\a.getD j 0≠b.getD j 0):=by
  revert hi c
  induction i using Nat.strongRecOn with
  |ind i ih=>
   intro hi c
   by_cases h: ∃j,j<i/\j<n/\a.getD j 0≠b.getD j 0
   ·obtain⟨j,l,d,t⟩:=h
    exact ih j l d t
   ·exact⟨i,⟨hi,c⟩,λj f p=>h ⟨j,f,p⟩⟩
 obtain⟨k,⟨q,o⟩,m⟩:=s;have r: ∀j,j<k->a.getD j 0=b.getD j 0:=λj f=>Jg λl=>m j f ⟨om,l⟩
 rcases Nat.lt_or_gt_of_ne o with d|d
 ·exact (u ⟨k,by rw[A.len];exact q,r,d⟩).elim
 ·exact⟨k,by rw[B.len];exact q,λj f=>(r j f).symm,d⟩
theorem NQ (l: ∀x∈A,bE n x)(Y:bE n y)(f:A.Pairwise Lt)(p:Plc A y k)(r:y∉A):(DX A k y).Pairwise Lt:=by
 unfold DX;rw[List.pairwise_append];have at': ∀{z:List Nat},z∈A.take k-> ∃i,i<k/\i<A.length/\A.getD i []=z:=λh=>(Ox (d:= [])).1 h
 have t: ∀{z:List Nat},z∈A.drop k-> ∃i,k<=i/\i<A.length/\A.getD i []=z:=λh=>by
  obtain⟨q,s,e⟩:=zF.1 h;rw[AQ] at s;rw[List.getElem_drop] at e;exact⟨k+q,om,om,by rw[List.getD,dD om,←e];rfl⟩
 have o: ∀z∈A.take k,Lt z y:=λz a=>by
  obtain⟨i,m,c,rfl⟩:=at' a;exact (Cb (by rw[(l _ (bD c)).len,Y.len])).1 (p.lo i m)
 have hi: ∀z∈A.drop k,Lt y z:=λz a=>by
  obtain⟨i,m,c,rfl⟩:=t a;have Z:=l _ (bD (d:= []) c);refine RY Z Y (λh=>?_) (λe=>r (by rw[←e];exact bD c));have:=p.hi i m c;rw[(Cb (by rw[Z.len,Y.len])).2 h] at this;cases this
 refine⟨f.sublist (List.take_sublist k A),List.pairwise_cons.2 ⟨hi,f.sublist (List.drop_sublist k A)⟩,λz a w j=>?_⟩;rcases zH.1 j with rfl|j
 ·exact o z a
 ·have Z:=l z (List.mem_of_mem_take a)
  exact Lt.trans (by rw[Z.len,Y.len]) (o z a) (hi w j)
structure ElJ (n:Nat)(S A Q:LN):Prop where
 asc:A.Pairwise Lt
 gen: ∀x∈A,bX n (· ∈S) x
 one:bL n∈A
 sub: ∀x∈Q,x∈A
 cl: ∀x∈A,x∉Q-> ∀g∈S,aX x g∈A
theorem ElJ.start (n:Nat)(S:LN):ElJ n S [bL n] [bL n]:=
 ⟨List.pairwise_singleton _ _,λx a=>by simp at a;subst a;exact .one,by simp,λx a=>a,λx a h=>absurd a h⟩
theorem ElJ.done (j:ElJ n S A []):dW (bX n (· ∈S)) A:=by
 refine⟨j.asc,λx=>⟨j.gen x,λh=>?_⟩⟩
 induction h with
 |one=>exact j.one
 |mul _ hg ih=>exact j.cl _ ih List.not_mem_nil _ hg
structure WQ (n:Nat)(S:LN)(x:List Nat)(i:Nat)(A Q:LN):Prop where
 asc:A.Pairwise Lt
 gen: ∀x∈A,bX n (· ∈S) x
 one:bL n∈A
 sub: ∀x∈Q,x∈A
 mem:x∈A
 cl: ∀z∈A,z∉Q->z=x∨ ∀g∈S,aX z g∈A
 dn: ∀j,j<i->aX x (S.getD j [])∈A
theorem WQ.start (j:ElJ n S A (Q++ [x])):WQ n S x 0 A Q:=
 ⟨j.asc,j.gen,j.one,λz a=>j.sub z (by simp [a]),j.sub x (by simp),λz a c=>by
  by_cases e:z=x
  ·exact .inl e
  ·exact .inr (j.cl z a (by simp [c,e])),λj d=>om⟩
theorem WQ.done (j:WQ n S x S.length A Q):ElJ n S A Q:=
 ⟨j.asc,j.gen,j.one,j.sub,λz d c g a=>by
  rcases j.cl z d c with rfl|h
  ·obtain⟨i,hi,e⟩:=zF.1 a
   have:=j.dn i hi;rwa [List.getD,dD hi,Option.getD_some,e] at this
  ·exact h g a⟩
theorem WQ.skip {i:Nat}(j:WQ n S x i A Q)(h:aX x (S.getD i [])∈A):WQ n S x (i+1) A Q:=
 ⟨j.asc,j.gen,j.one,j.sub,j.mem,j.cl,λk a=>by
  by_cases e:k=i
  ·rw[e];exact h
  ·exact j.dn k om⟩
theorem WQ.step {i:Nat}(j:WQ n S x i A Q)(f: ∀g∈S,bE n g)(hi:i<S.length)(h:aX x (S.getD i [])∉A)(p:Plc A (aX x (S.getD i [])) k):WQ n S x (i+1) (DX A k (aX x (S.getD i []))) (Q++ [aX x (S.getD i [])]):=by
 have r:=j.gen x j.mem;have d:bX n (· ∈S) (aX x (S.getD i [])):=r.mul (bD hi);obtain⟨y,l⟩:=exI (aX x (S.getD i []));rw[l] at d h p ⊢;refine⟨NQ (λz a=>(j.gen z a).cU f) (d.cU f) j.asc p h,λz a=>?_,oL.2 (.inr j.one),λz a=>?_,oL.2 (.inr j.mem),λz a c=>?_,λq c=>?_⟩
 ·rcases oL.1 a with rfl|a
  ·exact d
  ·exact j.gen z a
 ·rcases pH.1 a with a|a
  ·exact oL.2 (.inr (j.sub z a))
  ·simp at a;exact oL.2 (.inl a)
 ·rcases oL.1 a with rfl|a
  ·exact absurd (by simp) c
  ·rcases j.cl z a (λh=>c (by simp [h])) with e|o
   ·exact .inl e
   ·exact .inr λg m=>oL.2 (.inr (o g m))
 ·by_cases e:q=i
  ·rw[e,l];exact oL.2 (.inl rfl)
  ·exact oL.2 (.inr (j.dn q om))
theorem fW.DX {W:Nat->Prop}{c:List V}(p:fW W h c A)(q:PV W h v y)(i:k<=A.length):fW W h (c.take k++v::c.drop k) (Go.Proofs.YtcdbmkidaecdiaaGreat.DX A k y):=by
 have j:=aM.length p
 have t: ∀(k:Nat) (c:List V) (A:LN),fW W h c A->fW W h (c.take k) (A.take k)/\fW W h (c.drop k) (A.drop k):=by
  intro k
  induction k with
  |zero=>intro c A p;exact⟨trivial,p⟩
  |succ k ih=>
   intro c A p
   cases c with
   |nil=>cases A with
    |nil=>exact⟨trivial,trivial⟩
    |cons=>exact p.elim
   |cons a c=>cases A with
    |nil=>exact p.elim
    |cons b A=>
     obtain⟨f,d⟩:=ih c A p.2
     exact⟨⟨p.1,f⟩,d⟩
 obtain⟨f,d⟩:=t k c A p;exact f.append ⟨q,d⟩
theorem KD.own (t:KD h v ws b)(l:0<ws.length):cY h v 1 ws b:=by
 obtain⟨id,d,a,rfl,j,f,i,c⟩:=t;refine .inr ⟨id,ws.length,d,a,rfl,(uW _).symm,?_,j,f,i⟩;rcases c with c|⟨rfl,m⟩
 ·exact .inl c
 ·have e:ws.length=1:=om
  exact .inr ⟨by rw[e],WJ om⟩
end
end Go.Proofs.YtcdbmkidaecdiaaGreat
namespace Go.Proofs.YtcdbmkidaecdiaaGreat
set_option maxRecDepth 100000
open Go Go.Ay Go.Pm
end Go.Proofs.YtcdbmkidaecdiaaGreat
namespace Go.Proofs.YtcdbmkidaecdiaaGreat
open Go Go.Ay Go.Pm
set_option maxRecDepth 100000
set_option maxRecDepth 100000
set_option maxRecDepth 100000
set_option maxRecDepth 100000
set_option maxRecDepth 100000
def wrC (C:LN)(k s j:Nat):Prop:=(∃q,q<k/\j∈C.getD q [])∨j∈(C.getD k []).take s
open Classical in
noncomputable def NA (C:LN)(x:List Nat)(k s j:Nat):V:=if wrC C k s j then aC (x.getD j 0:Nat) else aC 0
structure FrR (n:Nat)(O:List (List Int))(R:List (List (List Int)))(i k:Nat):Prop where
 row: ∀j,j<i->(O.getD j []).length<=n/\(O.getD j []).length=(R.getD j []).length
 perm: ∀j,j<i-> ∀x∈R.getD j [],x.length=n/\mV x=true
 last: ∀x∈(R.getD i []).take k,x.length=n/\mV x=true
theorem FrR.nat {n:Nat}{O:List (List Int)}{R:List (List (List Int))}(f:FrR n O R n 0)(k:R.length=n): ∃R':jI,R=R'.map (List.map zi)/\ ∀g∈R'.flatten,bE n g:=by
 have a: ∀r∈R,∀x∈r,x.length=n/\mV x=true:=λr c x b=>by
  obtain⟨i,hi,rfl⟩:=zF.1 c;exact f.perm i om x (by rw[List.getD,dD hi];exact b)
 refine⟨R.map (List.map (List.map Int.toNat)),?_,λg d=>?_⟩
 ·rw[List.map_map]
  refine (List.map_id R).symm.trans (Vy λr c=>?_);show r=(r.map (List.map Int.toNat)).map zi;rw[List.map_map];exact (List.map_id r).symm.trans (Vy λx b=>(Iz (a r c x b).2).1)
 ·obtain⟨j,h,d⟩:=List.mem_flatten.1 d
  obtain⟨r,c,rfl⟩:=uF.1 h;obtain⟨x,b,rfl⟩:=uF.1 d;have:=(Iz (a r c x b).2).2;rwa [(a r c x b).1] at this
theorem FrR.next {n:Nat}{O:List (List Int)}{R:List (List (List Int))}{i k:Nat}(f:FrR n O R i k)(c:(R.getD i []).length<=k)(h:(O.getD i []).length<=n)(h2:(O.getD i []).length=(R.getD i []).length):FrR n O R (i+1) 0:=by
 have b:=f.last;rw[Tn c] at b;refine⟨λj d=>?_,λj d=>?_,λx a=>by rw[List.take_zero] at a;cases a⟩
 ·by_cases e:j=i
  ·subst e;exact⟨h,h2⟩
  ·exact f.row j om
 ·by_cases e:j=i
  ·subst e;exact b
  ·exact f.perm j om
set_option maxRecDepth 100000
end Go.Proofs.YtcdbmkidaecdiaaGreat
namespace Go.Proofs.YtcdbmkidaecdiaaGreat
set_option maxRecDepth 100000
open Go Go.Ay Go.Pm
end Go.Proofs.YtcdbmkidaecdiaaGreat
namespace Go.Proofs.YtcdbmkidaecdiaaGreat
open Go Go.Ay Go.Pm
set_option maxRecDepth 100000
set_option maxRecDepth 100000
theorem afZ {i h:H}{d v:V}{a:List V}{ls:LN}{x:List Nat}{b:Nat}(o:cY h d 1 a i.next)(f:Fr i h)(y:a.length<1000000)(A:b<=i.next)(p:fW (λq=>q<b∨dO d q) h a ls)(pv:PV (λq=>q<b∨dO d q) h v x):
  ∃h2,xQ (h.new (.cells false [v])) 1 24 d (.sl h.next 0 1 (.kn 1))=some (.sl (h.next+1) 0 (a.length+1) (.un 1),h2)/\cY h2 (.sl (h.next+1) 0 (a.length+1) (.un 1)) 1 (a++ [v]) i.next/\fW (λq=>q<b∨dO (.sl (h.next+1) 0 (a.length+1) (.un 1)) q) h2 (a++ [v]) (ls++ [x])/\Fr i h2/\h2.next=h.next+2:=by
 obtain⟨h2,z,t,r,u,w⟩:=Hi (v:=v) o f y (bytes:=24) om
 have l:Fx (λq=>q<b∨dO d q) h h2:=⟨om,λq n h2=>w q n λid j m c e s=>h2 (.inr ⟨j,m,c,s▸e⟩)⟩
 have k: ∀q,q<h.next->(q<b∨dO (.sl (h.next+1) 0 (a.length+1) (.un 1)) q)->(q<b∨dO d q):=λq n h2=>by
  rcases h2 with h2|⟨_,_,_,e⟩
  ·exact .inl h2
  ·cases e;omega
 exact⟨h2,z,t,(fW.go p l k).append (fW.one (PV.go pv l k)),r,u⟩
theorem PV.ahN {h h':H}{a v:V}{d:List V}{b sz c:Nat}{x:List Nat}(o:cY h a sz d b)(f:c<=h.next)(p:PV (λq=>q<h.next) h' v x):PV (λq=>q<c∨dO a q) h' v x:=
 p.Fo λq _ e=>by
  rcases e with e|⟨_,_,_,e⟩
  ·omega
  ·exact (o.in _ _ _ _ e).1
theorem fW.fr {h h':H}{W:Nat->Prop}{vs:List V}{ls:LN}(p:fW W h vs ls)(f:Fr h h'):fW W h' vs ls:=p.mono λ_ _ x=>⟨x.si.mono f,x.off⟩
theorem fW.agY {W:Nat->Prop}{h:H}{ws:List V}{l:LN}(p:fW W h ws l){i:Nat}(hi:i<l.length):SI h (ws.getD i V.undef) (zi (l.getD i [])):=by
 have a:=aM.length p;have:=(aM.get p i om hi).si;rwa [rN (d:=V.undef),rN (d:= []) hi] at this
theorem Zv {W W':Nat->Prop}(vc vd:V)(n:Nat)(O O':LN)(R R':jI)(G G':List Nat->Prop)(h:H)(N:GC W h vc n O R G)(Z:GC W' h vd n O' R' G'):
  Ev T 78 [vc,vd] h (λv h'=> ∃vr O2 R2,v= .tup [vr,aC 0]/\GC (λq=>q<h.next) h' vr n O2 R2 (Ad n R R')/\Fr h h'):=by
 obtain⟨vO,vR,rfl,oO,oR⟩:=N.shape
 obtain⟨uO,uR,rfl,pO,pR⟩:=Z.shape
 refine cV rJ rfl ?_
 have n0:=N.n0
 have n7:=N.n7
 have hG:=N.dN
 have b6:=Z.dN
 obtain⟨B,hB⟩:=exI h.next
 obtain⟨h1,e1,n1,g1,o1,f1⟩:=dF hB [aC n,vO,vR]
 obtain⟨h2,e2,n2,g2,o2,f2⟩:=dF n1 [aC n,uO,uR]
 obtain⟨P,e3,n3,g3,o3,f3⟩:=dF n2 [aC 0,.aE,.aE]
 have F3:=(f1.trans f2).trans f3
 have gB: ∀a,Fr P a->a.get B=aZ [aC n,vO,vR]:=λa f=>by rw[f.get B om,o3 B om,o2 B om];exact g1
 have gC: ∀a,Fr P a->a.get (B+1)=aZ [aC n,uO,uR]:=λa f=>by rw[f.get (B+1) om,o3 _ om];exact g2
 have gA: ∀a,Fr P a->a.get (B+1+1)=aZ [aC 0,.aE,.aE]:=λa f=>by rw[f.get _ om];exact g3
 have r3:=Fr.refl P
 simp(disch:=omega)only[go_sem,rJ,aD,bM h (v:= aC n) (u:=vO) (w:=vR) rfl oO oR,hB,e1,bM h1 (v:= aC n) (u:=uO) (w:=uR) rfl pO pR,n1,e2,n2,e3,aI (gB P r3),aI (gC P r3)]
 refine (QF _ _ n O O' R R' G G' P (N.mono F3) (Z.mono F3)).mono ?_
 rintro _ s ⟨rfl,f4⟩
 simp(disch:=omega)only[go_sem]
 refine aW (λhc=>(hc rfl).elim) (λ_=>?_)
 have F4:=F3.trans f4
 have fb:Fr s (H.mk s.tr (s.next+6)):=(Fr.refl s).bA om
 simp(disch:=omega)only[go_sem,aI (gB s f4),aI (gC s f4)]
 refine (xV _ n O R G h _ N (F4.trans fb)).mono ?_
 rintro L h5 ⟨wA,y,pA,f5⟩
 have a2:=fb.trans f5
 have F5:=f4.trans a2
 have ec:dE uO uO=true/\dE uR uR=true:=by
  obtain⟨_,_,_,_,e,sO,_,_,sR,_,_⟩:=Z.cw;cases e;exact⟨SV.dE sO,SV.dE sR⟩
 simp(disch:=omega)only[go_sem,aI (gC h5 F5),ec.1,ec.2]
 refine (xV _ n O' R' G' h h5 Z (F4.trans a2)).mono ?_
 rintro vb J ⟨wB,c0,pB,f6⟩
 have F6:=F5.trans f6
 have b0:=F3.trans F6
 have lA:=aM.length pA
 have lB:=aM.length pB
 have sA:=qV hG N.isc
 have sB:=qV b6 Z.isc
 have nn:n*n<=7*7:=Nat.mul_le_mul n7 n7
 obtain⟨A,hA⟩:=exI (bQ R)
 obtain⟨C,hC⟩:=exI (bQ R')
 have a4: ∀g∈A,bE n g:=λg hg=>hG.cU (bV N.isc (hA▸hg))
 have a5: ∀g∈C,bE n g:=λg hg=>b6.cU (bV Z.isc (hC▸hg))
 rw[hA] at pA lA sA
 rw[hC] at pB lB sB
 have d6: ∀a,Fr J a->SV a L 1 wA:=λa f=>y.sv.mono (f6.trans f)
 have a7: ∀a,Fr J a->SV a vb 1 wB:=λa f=>c0.sv.mono f
 have d8:bT L=some (aC (A.length:Int)):=by unfold bT;rw[SV.len y.sv (n:=A.length) om om];rfl
 have d4:bT vb=some (aC (C.length:Int)):=by unfold bT;rw[SV.len c0.sv (n:=C.length) om om];rfl
 have c9: ∀{i k},i<=A.length->k<=C.length->(IP A C i k).length<=50*49:=λ{i k} hi hk=>mT (abL hi hk) (Nat.mul_le_mul om om)
 simp(disch:=omega)only[go_sem,d8]
 obtain⟨b,hb⟩:=exI J.next
 refine bJ (λvs a=> ∃(l:V) (o:List V),(∃g:Nat->V,vs= [g 0,g 1,.ptr B 0,.ptr (B+1) 0,.ptr (B+1+1) 0,aC 0,g 6,L,vb,l,g 10,g 11,g 12,g 13,g 14,g 15,g 16,g 17,g 18,g 19,g 20,g 21])/\cY a l 1 o J.next/\fW (λq=>q<b∨dO l q) a o (NB A C)/\Fr J a) ?_ ?_
 ·refine aH (λk' j a=> ∃(i:Nat) (l:V) (o:List V),(∃g:Nat->V,j= [g 0,g 1,.ptr B 0,.ptr (B+1) 0,.ptr (B+1+1) 0,aC 0,g 6,L,vb,l,g 10,g 11,g 12,g 13,L,aC (A.length:Int),aC i,g 17,g 18,g 19,g 20,g 21])/\i<=A.length/\cY a l 1 o J.next/\fW (λq=>q<b∨dO l q) a o (IP A C i 0)/\Fr J a/\k'=A.length-i) A.length
   ⟨0,.aE, [],aB rfl,iJ _,cY.aE _ _ _,trivial,Fr.refl _,rfl⟩ ?_
  rintro k' j a ⟨i,l,o,⟨g,rfl⟩,hi,t,pv,F,rfl⟩
  by_cases a9:(i:Int)<(A.length:Int)
  case neg=>
   have d1:=bH a9;obtain rfl:i=A.length:=om
   simp(disch:=omega)only[go_sem,d1];exact⟨l,o,aB rfl,t,by rw[abO] at pv;exact pv,F⟩
  have d1:=oQ a9
  have Q:i<A.length:=om
  obtain⟨c3,b9,d0,b3,b5⟩:=(d6 a F).shape A.length om om
  have cA:a.cell c3 (b9+i)=some (wA.getD i V.undef):=by rw[b5 i om,List.getD,dD om];rfl
  have KI:=fW.agY pA Q
  have P1:=a4 _ (bD (d:= []) Q)
  generalize wA.getD i V.undef=vp at cA KI
  simp(disch:=omega)only[go_sem,d1,d0.ixa,cA,d4]
  refine aH (λk' j a=> ∃(k:Nat) (l:V) (o:List V),(∃g:Nat->V,j= [g 0,g 1,.ptr B 0,.ptr (B+1) 0,.ptr (B+1+1) 0,aC 0,g 6,L,vb,l,vp,g 11,g 12,g 13,L,aC (A.length:Int),aC i,g 17,vb,aC (C.length:Int),aC k,g 21])/\k<=C.length/\cY a l 1 o J.next/\fW (λq=>q<b∨dO l q) a o (IP A C i k)/\Fr J a/\k'=C.length-k) C.length
   ⟨0,l,o,aB rfl,iJ _,t,pv,F,rfl⟩ ?_
  clear t pv F cA b5 b3
  rintro k' j a1 ⟨k,l,o,⟨g,rfl⟩,hk,t,pv,F,rfl⟩
  by_cases b1:(k:Int)<(C.length:Int)
  case neg=>
   have d2:=bH b1;obtain rfl:k=C.length:=om
   simp(disch:=omega)only[go_sem,d2];rw[eJ i];exact⟨A.length-(i+1),om,i+1,l,o,aB rfl,om,t,by rw[XS A C Q] at pv;exact pv,F,rfl⟩
  have d2:=oQ b1
  have a0:k<C.length:=om
  obtain⟨d7,b2,e5,e6,d5⟩:=(a7 a1 F).shape C.length om om
  have cC:a1.cell d7 (b2+k)=some (wB.getD k V.undef):=by rw[d5 k om,List.getD,dD om];rfl
  have sq:=(fW.agY pB a0).mono (b0.trans F)
  have Q1:=a5 _ (bD (d:= []) a0)
  generalize wB.getD k V.undef=vq at cC sq
  simp(disch:=omega)only[go_sem,d2,e5.ixa,cC]
  have sp:=KI.mono (b0.trans F)
  refine (SG vp vq n _ _ a1 n0 om P1 Q1 sp sq).mono ?_
  rintro _ d3 ⟨w,rfl,pw,a6⟩
  have ll:=c9 (i:=i) (k:=k) om om
  have l9:=aM.length pv
  obtain⟨f7,a3,c2,e0,c5,e7⟩:=afZ (x:=jE (A.getD i []) (C.getD k [])) (v:=w) (t.fr a6) (F.trans a6) om (b:=b) om (fW.fr pv a6) (PV.ahN t (by have:=F.next;omega) pw)
  have wx:=SV.cK pw.si
  simp(disch:=omega)only[go_sem,cT d3 (z:= .aE) wx.1 wx.2.1,a3]
  rw[eJ k]
  exact⟨C.length-(k+1),om,k+1,_,_,aB rfl,om,c2,by rw[QV A C a0];exact e0,c5,rfl⟩
 rintro j a ⟨l,o,⟨g,rfl⟩,t,pv,F⟩
 have l9:=aM.length pv
 rw[Uk] at l9
 have f8:A.length*C.length<=49*49:=Nat.mul_le_mul om om
 have b4:=F6.trans F
 have g4:=F3.trans b4
 have Y:Fr a (H.mk a.tr (a.next+12)):=(Fr.refl a).bA om
 have f0:(H.mk s.tr (s.next+6)).next=s.next+6:=rfl
 have e9:s.next+6<=h5.next:=f5.next
 have e8:=f6.next
 have nF:=F.next
 have nb:(H.mk a.tr (a.next+12)).next=a.next+12:=rfl
 have FA:Fr h5 (H.mk a.tr (a.next+12)):=f6.trans (F.trans Y)
 obtain⟨vl,r,e4,Ap⟩:=cY.app (h:=H.mk a.tr (a.next+12)) (bytes:=24) (b:=s.next) ((y.fr FA).le om) om ((a7 a F).mono Y) (n:=A.length) (m:=C.length) om om om om
 have nq:=Ap.next
 have aA: ∀k,b<=k->dL L k:=λk hk g0 c1 m c e e2=>by have:=(y.in _ _ _ _ e).1;omega
 have b7:Fx (λq=>q<b) a r:=⟨om,λq h1 h2=>Ap.get q om (aA q om)⟩
 have c8:Fr s r:=Ap.fr s (a2.trans (f6.trans (F.trans Y))) (fM _)
 have K:Fr P r:=f4.trans c8
 have a8:Fr h r:=F3.trans K
 have cB:okV (r.cell B 0) (aC n)=true:=by rw[H.aF (gB r K)];simp [okV,dE]
 have d9:SP r l (NB A C):=by
  refine fW.KI (W:=λq=>q<b) (SV.fx t.sv (W:=λq=>q<b) ?_ b7) (aM.mono (λ_ _ p=>PV.go p (Fx.wide b7 λq h=> .inl h) λq _ h=> .inl h) pv)
  cases l with
  |sl id c1 m c=>exact λ(e:id<b)=>by have:=(t.in _ _ _ _ rfl).2.1;omega
  |_=>trivial
 have c7:SP r vl (A++C):=fW.KI (W:=λ_=>False) Ap.own.sv (aM.append (aM.mono (λ_ _ p=>⟨p.si.mono a8,Bc _⟩) pA) (aM.mono (λ_ _ p=>⟨p.si.mono a8,Bc _⟩) pB))
 simp(disch:=omega)only[go_sem,H.aF (gB a b4),e4]
 refine⟨cB,?_⟩
 refine (Qx l vl n (NB A C) (A++C) r n0 n7 (λg hg=>?_) (λg hg=>(pH.1 hg).elim (a4 g) (a5 g)) (by rw[Uk];omega) (by rw[jZ];omega) d9 c7).mono ?_
 ·obtain⟨p,hp,q,r,rfl⟩:=GP.1 hg
  exact Rh (a4 p hp) (a5 q r)
 rintro _ hr ⟨D,rfl,hD,bd,fr⟩
 obtain⟨xO,xR,O2,R2,gD,U⟩:=bd.ex
 obtain⟨_,c4,c6⟩:=U.one
 have f9:=fr.next
 have b8:=K.trans fr
 obtain⟨hs,es,ns,gs,os⟩:=pJ hr (B+1+1) [aC n,xO,xR]
 simp(disch:=omega)only[go_sem,aI gD,bW hr (B+1+1) 0 (v:= aC n) (u:=xO) (w:=xR) rfl c4 c6,gA hr b8,cF,es,aI gs]
 have q3:=K.next
 refine⟨_,O2,R2,rfl,?_,⟨om,λq r=>by rw[os q om,b8.get q om];exact F3.get q r⟩⟩
 have e1:(λx=>x∈NB A C)=(λx=> ∃p,p∈A/\ ∃q,q∈C/\x=jE p q):=funext λx=>propext GP
 have e2:(λx=>x∈A++C)=(λx=>x∈A∨x∈C):=funext λx=>propext pH
 rw[e1,e2] at U
 unfold Ad
 rw[hA,hC]
 exact U.go ⟨om,λq h1 h2=>os q λe=>h2 (.inl om)⟩ λq _ h=> .inl om
theorem vW {W:Nat->Prop}(vc:V)(n:Nat)(O:LN)(R:jI)(G:List Nat->Prop)(h:H)(k:GC W h vc n O R G):
  Ev T 65 [vc] h (λv h'=>v= aC (kI O n 0:Nat)/\Fr h h'):=by
 obtain⟨t,Y,s,a1,rfl,F,oO,pO,sR,oR,aR⟩:=k.cw
 refine cV Dj rfl ?_
 have r:=(SV.cK F).2.1
 have l:=(SV.cK sR).2.1
 have f:=k.isc
 have n7:=k.n7
 have a0:=jH k
 have lO:=aM.length pO
 rw[f.lo] at lO
 obtain⟨B,P⟩:=exI h.next
 obtain⟨Z,e1,n1,g1,o1,J⟩:=dF P [aC n,t,Y]
 have N:bT t=some (aC n):=by unfold bT;rw[SV.len F (n:=n) om om];rfl
 obtain⟨K,o,z,q,cO⟩:=SV.shape F n om om
 simp(disch:=omega)only[go_sem,Dj,aD,bM h (v:= aC n) (u:=t) (w:=Y) rfl r l,P,e1,H.aF g1,N]
 refine aH (λk' b x=> ∃(i a:Nat),(∃g:Nat->V,b= [g 0,g 1,g 2,aC a,g 4,t,aC n,aC i,g 8])/\i<=n/\a*kI O (n-i) i=kI O n 0/\x=Z/\k'=n-i) n
  ⟨0,1,aB rfl,iJ _,by rw[Nat.one_mul];rfl,rfl,rfl⟩ ?_
 rintro k' b x ⟨i,a,⟨g,rfl⟩,hi,d,rfl,rfl⟩
 by_cases p:(i:Int)<(n:Int)
 case neg=>
  have y:=bH p;obtain rfl:i=n:=om
  simp(disch:=omega)only[go_sem,y];rw[Nat.sub_self] at d;have:kI O 0 i=1:=rfl;rw[this,uW] at d;exact⟨by rw[d],J⟩
 have y:=oQ p
 have c:i<n:=om
 have A:=aM.get pO i om (by rw[f.lo];exact c)
 rw[show O[i]'(by rw[f.lo];exact c)=O.getD i [] from rN _] at A
 have Q:x.cell K (o+i)=some (s[i]'om):=by
  rw[J.cell (q om),cO i om,dD om]
 generalize s[i]'om=vo at A Q
 have L:=(A.si.mono J).lens
 rw[aQ] at L
 obtain⟨r1,r2⟩:=k.row c
 have st:kI O (n-i) i=(O.getD i []).length*kI O (n-(i+1)) (i+1):=by
  rw[show n-i=(n-(i+1))+1 by omega];rfl
 have pos:=Ln (O:=O) (n-(i+1)) (i+1) (λj Z h2=>(k.row om).1)
 obtain⟨m,U⟩:=exI ((O.getD i []).length)
 rw[st,←Nat.mul_assoc,U] at d
 rw[U] at L
 have bd:a*m<=kI O n 0:=by rw[←d];exact Nat.le_mul_of_pos_right _ pos
 have em:(a:Int)*(m:Int)=((a*m:Nat):Int):=rfl
 obtain⟨w,hw⟩:=exI (a*m)
 rw[hw] at em bd d
 simp(disch:=omega)only[go_sem,y,z.ixa,Q,L,em]
 rw[eJ i]
 exact⟨n-(i+1),om,i+1,w,aB rfl,om,d,rfl⟩
theorem Yb {W:Nat->Prop}(i:V)(n:Nat)(O:LN)(R:jI)(G:List Nat->Prop)(h:H)(a:GC W h i n O R G):
  Ev T 74 [i] h (λv h'=>v= .tup [aC (kI O n 0:Nat),aC 0]/\Fr h h'):=by
 obtain⟨f,d,rfl,r,p⟩:=a.shape
 refine cV Aj rfl ?_
 have k:=jH a
 obtain⟨B,b⟩:=exI h.next
 obtain⟨q,o,x,m,t,c⟩:=dF b [aC n,f,d]
 simp(disch:=omega)only[go_sem,Aj,aD,bM h (v:= aC n) (u:=f) (w:=d) rfl r p,b,o,aI m]
 refine (XX _ n O R G q (a.mono c)).mono ?_
 rintro _ s ⟨rfl,j⟩
 have l:decide ((5040:Int)<((kI O n 0:Nat):Int))=false:=bH om
 simp(disch:=omega)only[go_sem,l,eq_self,decide_true]
 exact c.trans j
abbrev nE:=LN×jI
def Kf (n:Nat)(w:Bool)(c d:nE):List Nat->Prop:=Ad n d.2 (if w then c.2 else d.2)
structure uC (n:Nat)(w:Bool)(c:nE)(l:List nE):Prop where
 hd:l[0]? =some c
 st: ∀k d e,l[k]? =some d->l[k+1]? =some e->bC n (Kf n w c d) e.1 e.2/\e≠d
 en: ∀d,l[l.length- 1]? =some d->bC n (Kf n w c d) d.1 d.2
theorem uC.uniq {n:Nat}{w:Bool}{c:nE}{l m:List nE}(a:uC n w c l)(b:uC n w c m):l=m:=by
 have one: ∀{d e f:nE},bC n (Kf n w c d) e.1 e.2->bC n (Kf n w c d) f.1 f.2->e=f:=λh k=>by
  obtain⟨v,i⟩:=h.uniq k;exact Prod.ext v i
 have z:0<l.length:=by
  cases l with
  |nil=>exact absurd a.hd (by simp)
  |cons x r=>simp
 have lb:0<m.length:=by
  cases m with
  |nil=>exact absurd b.hd (by simp)
  |cons x r=>simp
 have u: ∀k,(k<l.length↔k<m.length)/\l[k]? =m[k]? :=by
  intro k
  induction k with
  |zero=>exact⟨⟨λ_=>lb,λ_=>z⟩,by rw[a.hd,b.hd]⟩
  |succ k ih=>
   obtain⟨o,p⟩:=ih
   have j: ∀{l m:List nE},uC n w c l->uC n w c m->(k<l.length↔k<m.length)->l[k]? =m[k]? ->k+1<l.length->k+1<m.length/\l[k+1]? =m[k+1]? :=λ{l m} a b o p h=>by
    have q:k<l.length:=om
    have A:=o.1 q;have s:=a.st k _ _ (dD q) (dD h);have y:m[k]? =some l[k]:=by rw[←p];exact dD q
    by_cases i:k+1<m.length
    ·have t:=b.st k _ _ y (dD i)
     exact⟨i,by rw[dD h,dD i,one s.1 t.1]⟩
    ·have t:=b.en l[k] (by rw[show m.length- 1=k by omega];exact y)
     exact absurd (one s.1 t) s.2
   by_cases h:k+1<l.length
   ·obtain⟨v,i⟩:=j a b o p h
    exact⟨⟨λ_=>v,λ_=>h⟩,i⟩
   ·have i: ¬k+1<m.length:=λi=>h (j b a o.symm p.symm i).1
    exact⟨⟨λx=>absurd x h,λx=>absurd x i⟩,by rw[List.getElem?_eq_none om,List.getElem?_eq_none om]⟩
 exact List.ext_getElem? λk=>(u k).2
theorem abY {G K:List Nat->Prop}{L M:LN}(E:dW G L)(F:dW K M)(h: ∀x,K x->G x)(j:M.length=L.length)(x:List Nat):G x↔K x:=by
 refine⟨λd=>?_,h x⟩;have i: ∀y∈M,y∈L:=λy a=>(E.mem y).2 (h y ((F.mem y).1 a))
 refine (F.mem x).1 ?_;have c:=(E.mem x).2 d;apply Jg;intro f
 have b: ∀y∈M,y∈L.erase x:=λy a=>by
  have ne:y≠x:=λe=>by subst e;exact f a
  exact (List.mem_erase_of_ne ne).2 (i y a)
 have:=List.Nodup.length_le_of_subset F.nodup b;rw[List.length_erase_of_mem c] at this;have:=HJ c;omega
section
variable {n:Nat} {w:Bool} {c d e:nE} {Gc Gd:List Nat->Prop}
structure Dx (n:Nat)(w:Bool)(Gc:List Nat->Prop)(d:nE)(Gd:List Nat->Prop):Prop where
 dN:iX n Gd
 isc:bC n Gd d.1 d.2
 le: ∀x,Gd x->Gc x
 norm:w=true-> ∀y b,Gd y->Gc b->Gd (cW y b)
theorem Dx.first (a:iX n Gc)(j:bC n Gc c.1 c.2):Dx n w Gc c Gc:=
 ⟨a,j,λ_ h=>h,λ_ y b i f=>a.mul (a.mul (a.inv f) i) f⟩
theorem Dx.nx (f:iX n Gc)(i:bC n Gc c.1 c.2)(x:Dx n w Gc d Gd):iX n (Kf n w c d)/\(∀y,Kf n w c d y->Gd y)/\(w=true-> ∀y b,Kf n w c d y->Gc b->Kf n w c d (cW y b)):=by
 unfold Kf
 cases w with
 |false=>exact⟨Ad.dN x.dN x.dN x.isc x.isc,λy a=>Ad.self x.dN x.isc a,λh=>by cases h⟩
 |true=>exact⟨Ad.dN x.dN f x.isc i,λy a=>Ad.le x.dN f x.isc i (x.norm rfl) a,λ_ y b a j=>Ad.norm x.dN f x.isc i a j⟩
theorem Dx.next (a:iX n Gc)(k:bC n Gc c.1 c.2)(x:Dx n w Gc d Gd)(j:bC n (Kf n w c d) e.1 e.2):Dx n w Gc e (Kf n w c d):=by
 obtain⟨i,b,f⟩:=x.nx a k;exact⟨i,j,λy h=>x.le y (b y h),f⟩
theorem Dx.size (o:iX n Gc)(r:bC n Gc c.1 c.2)(x:Dx n w Gc d Gd)(j:bC n (Kf n w c d) e.1 e.2):kI e.1 n 0<=kI d.1 n 0/\(kI e.1 n 0=kI d.1 n 0->e=d):=by
 obtain⟨q,i,_⟩:=x.nx o r;obtain⟨k,m⟩:=dM x.dN x.isc;obtain⟨f,l⟩:=dM q j;refine⟨?_,λh=>?_⟩
 ·rw[←m,←l]
  exact List.Nodup.length_le_of_subset f.nodup λy p=>(k.mem y).2 (i y ((f.mem y).1 p))
 ·have:=abY k f i (by rw[m,l,h])
  obtain⟨a,b⟩:=(j.congr λy=>(this y).symm).uniq x.isc;exact Prod.ext a b
structure Na (n:Nat)(w:Bool)(c:nE)(l:List nE)(d:nE):Prop where
 hd:l= []->d=c
 h0:l≠ []->l[0]? =some c
 st: ∀k d e,l[k]? =some d->l[k+1]? =some e->bC n (Kf n w c d) e.1 e.2/\e≠d
 la: ∀e,l[l.length- 1]? =some e->bC n (Kf n w c e) d.1 d.2
theorem Na.start:Na n w c [] c:=⟨λ_=>rfl,λh=>absurd rfl h,λk d e h=>by simp at h,λe h=>by simp at h⟩
theorem Na.push {l:List nE}(s:Na n w c l d)(j: ∀e,l[l.length- 1]? =some e->d≠e)(p:bC n (Kf n w c d) e.1 e.2):Na n w c (l++ [d]) e:=by
 refine⟨λh=>by simp at h,λ_=>?_,λk a b f i=>?_,λa f=>?_⟩
 ·cases l with
  |nil=>rw[s.hd rfl];rfl
  |cons x r=>have:=s.h0 (by simp);simpa using this
 ·by_cases q:k+1<l.length
  ·rw[Dv q] at i
   rw[Dv om] at f;exact s.st k a b f i
  ·have o:k+1=l.length:=by
    have:=(Ax.1 i).1;simp at this;omega
   rw[Dv om] at f;rw[o,Sj om,Nat.sub_self] at i;have i:d=b:=by simpa using i
   subst i;have m:l[l.length- 1]? =some a:=by rw[show l.length- 1=k by omega];exact f
   exact⟨s.la a m,j a m⟩
 ·have:a=d:=by
   rw[jZ,show l.length+ [d].length- 1=l.length from rfl,Sj om,Nat.sub_self] at f;simpa using f.symm
  rw[this];exact p
theorem Na.done {l:List nE}(s:Na n w c l d)(b:l≠ [])(h:l[l.length- 1]? =some d):uC n w c l:=
 ⟨s.h0 b,s.st,λe a=>by rw[h] at a;cases a;exact s.la d h⟩
end
def NxF (n:Nat)(w:Bool)(c:nE)(h:H)(F:Nat)(caps:List V):Prop:=
 ∀(hh:H) (vd:V) (W:Nat->Prop) (d:nE) (Gd:List Nat->Prop),Fr h hh->GC W hh vd n d.1 d.2 Gd->
  Ev T F (vd::caps) hh (λv h'=> ∃(p:V×V) (e:nE),v= .agg [aC n,p.1,p.2]/\GC (λq=>q<hh.next) h' v n e.1 e.2 (Kf n w c d)/\Fr hh h')
theorem QU (n:Nat)(c:nE)(h:H):NxF n false c h 77 []:=by
 intro J vd W d O _ x;obtain⟨y,s,rfl,oO,oR⟩:=x.shape;refine cV tK rfl ?_;obtain⟨B,z⟩:=exI J.next;obtain⟨h1,e1,A,Y,Q,f1⟩:=dF z [aC n,y,s];obtain⟨k,e2,n2,g2,G,f2⟩:=dF A [aC 0,.aE,.aE];have p:k.get B=aZ [aC n,y,s]:=by rw[G B om];exact Y
 simp(disch:=omega)only[go_sem,tK,aD,bM J (v:= aC n) (u:=y) (w:=s) rfl oO oR,z,e1,A,e2,aI p];have F2:=f1.trans f2;refine (Zv _ _ n d.1 d.1 d.2 d.2 O O k (x.mono F2) (x.mono F2)).mono ?_;rintro _ Z ⟨vr,O2,R2,rfl,F,t⟩;obtain⟨b,j,rfl,a,f⟩:=F.shape;have n3:=t.next;obtain⟨S,L⟩:=exI Z.next;obtain⟨K,P,n4,g4,m,f4⟩:=dF L [aC 0,.aE,.aE];obtain⟨r,R,n5,U,o⟩:=pJ K S [aC n,b,j];have l:r.get (B+1)=aZ [aC 0,.aE,.aE]:=by rw[o _ om,m _ om,t.get _ om];exact g2
 obtain⟨h6,e6,n6,g6,N⟩:=pJ r (B+1) [aC n,b,j];simp(disch:=omega)only[go_sem,L,P,bW K S 0 (v:= aC n) (u:=b) (w:=j) rfl a f,g4,cF,R,aI U,bW r (B+1) 0 (v:= aC n) (u:=b) (w:=j) rfl a f,l,e6,aI g6];refine⟨(b,j),(O2,R2),rfl,?_,⟨om,λq hq=>by rw[N q om,o q om,m q om,t.get q om,G q om,Q q om]⟩⟩;refine F.go ⟨om,λq a0 i=>?_⟩ λq _ (h:q<B)=>by show q<k.next;omega
 have i: ¬q<k.next:=i;rw[N q om,o q om,m q om]
theorem UL {W0:Nat->Prop}(n:Nat)(c:nE)(h:H)(j:Nat)(b a:V)(Z:List Nat->Prop)(y:h.get j=aZ [aC n,b,a])(G:j<h.next)(g0:GC W0 h (.agg [aC n,b,a]) n c.1 c.2 Z):NxF n true c h 81 [.ptr j 0]:=by
 intro R vd W d Gd t Y;obtain⟨K,J,rfl,oO,oR⟩:=Y.shape;refine cV vY rfl ?_;obtain⟨B,L⟩:=exI R.next;have nh:=t.next;obtain⟨h1,e1,N,g1,o1,f1⟩:=dF L [aC n,K,J];obtain⟨f,e2,n2,g2,Q,f2⟩:=dF N [aC 0,.aE,.aE];have A:f.get B=aZ [aC n,K,J]:=by rw[Q B om];exact g1
 have F2:=f1.trans f2;have r:f.get j=aZ [aC n,b,a]:=by rw[(t.trans F2).get j G];exact y
 simp(disch:=omega)only[go_sem,vY,aD,bM R (v:= aC n) (u:=K) (w:=J) rfl oO oR,L,e1,N,e2,aI A,aI r];refine (Zv _ _ n d.1 c.1 d.2 c.2 Gd Z f (Y.mono F2) (g0.mono (t.trans F2))).mono ?_;rintro _ h3 ⟨vr,O2,R2,rfl,O,x⟩;obtain⟨l,o,rfl,k,m⟩:=O.shape;have n3:=x.next;obtain⟨S,P⟩:=exI h3.next;obtain⟨U,e4,n4,g4,p,f4⟩:=dF P [aC 0,.aE,.aE];obtain⟨F,e5,n5,g5,s⟩:=pJ U S [aC n,l,o];have z:F.get (B+1)=aZ [aC 0,.aE,.aE]:=by rw[s _ om,p _ om,x.get _ om];exact g2
 obtain⟨h6,e6,n6,g6,o6⟩:=pJ F (B+1) [aC n,l,o];simp(disch:=omega)only[go_sem,P,e4,bW U S 0 (v:= aC n) (u:=l) (w:=o) rfl k m,g4,cF,e5,aI g5,bW F (B+1) 0 (v:= aC n) (u:=l) (w:=o) rfl k m,z,e6,aI g6];refine⟨(l,o),(O2,R2),rfl,?_,⟨om,λq hq=>by rw[o6 q om,s q om,p q om,x.get q om,Q q om,o1 q om]⟩⟩;refine O.go ⟨om,λq a0 i=>?_⟩ λq _ (h:q<B)=>by show q<f.next;omega
 have i: ¬q<f.next:=i;rw[o6 q om,s q om,p q om]
def Kr (n:Nat)(ls:List (V×V)):List V:=ls.flatMap λp=> [aC n,p.1,p.2]
theorem Tt (n:Nat)(a b:List (V×V)):Kr n (a++b)=Kr n a++Kr n b:=by unfold Kr;rw[List.flatMap_append]
theorem lC (n:Nat)(ls:List (V×V)):(Kr n ls).length=ls.length*3:=by
 induction ls with
 |nil=>rfl
 |cons a r ih=>
  unfold Kr at ih ⊢;rw[List.flatMap_cons,jZ,ih,List.length_cons,List.length_cons,List.length_cons,List.length_cons,List.length_nil];omega
theorem QY {n:Nat}: ∀{ls:List (V×V)} {i:Nat} (hi:i<ls.length),(Kr n ls)[i*3]? =some (aC n)/\(Kr n ls)[i*3+1]? =some ls[i].1/\(Kr n ls)[i*3+2]? =some ls[i].2
 |p::r,0,_=>⟨rfl,rfl,rfl⟩
 |p::r,i+1,hi=>by
  have:=QY (n:=n) (ls:=r) (i:=i) (by simpa using hi);have e:Kr n (p::r)= [aC n,p.1,p.2]++Kr n r:=rfl;rw[e];refine⟨?_,?_,?_⟩
  ·rw[Sj (by show 3<=(i+1)*3;omega)]
   rw[show (i+1)*3- [aC n,p.1,p.2].length=i*3 from by show (i+1)*3- 3=i*3;omega];exact this.1
  ·rw[Sj (by show 3<=(i+1)*3+1;omega)]
   rw[show (i+1)*3+1- [aC n,p.1,p.2].length=i*3+1 from by show (i+1)*3+1- 3=i*3+1;omega];exact this.2.1
  ·rw[Sj (by show 3<=(i+1)*3+2;omega)]
   rw[show (i+1)*3+2- [aC n,p.1,p.2].length=i*3+2 from by show (i+1)*3+2- 3=i*3+2;omega];exact this.2.2
def WO (C1 P id:Nat)(vl:V)(q:Nat):Prop:=q=C1∨q=P∨q=id∨dO vl q
def GD (W:Nat->Prop)(h:H)(n:Nat)(w:Bool)(Gc:List Nat->Prop)(p:V×V)(e:nE):Prop:= ∃G,GC W h (.agg [aC n,p.1,p.2]) n e.1 e.2 G/\Dx n w Gc e G
theorem GD.go {W W':Nat->Prop}{h h':H}{n:Nat}{w:Bool}{a:List Nat->Prop}{p:V×V}{e:nE}(g:GD W h n w a p e)(f:Fx W h h')(b: ∀q,q<h.next->W' q->W q):GD W' h' n w a p e:=by
 obtain⟨G,c,x⟩:=g;exact⟨G,c.go f b,x⟩
structure DeH (h0 hh:H)(C1 C2 K P id:Nat)(r:eH)(f:V)(n:Nat)(w:Bool)(Gc:List Nat->Prop)(l:List nE)(d:nE):Prop where
 ex: ∃vl ls p,hh.get P=aZ [vl]/\cY hh vl 3 (Kr n ls) 0/\(∀q,dO vl q->h0.next<=q/\q≠C1/\q≠C2/\q≠K/\q≠P/\q≠id/\q<hh.next)/\aM (GD (WO C1 P id vl) hh n w Gc) ls l/\hh.get C1=aZ [aC n,p.1,p.2]/\GD (WO C1 P id vl) hh n w Gc p d
 k:hh.get K=aZ [.fn 65 [] []]
 c2:hh.get C2=aZ [f]
 gr:hh.get id=some (.loop r)
 fr:Fr h0 hh
 nx:id<hh.next
def muS (n:Nat)(l:List nE):Nat:=match l[l.length- 1]? with|none=>6000|some e=>kI e.1 n 0
theorem YQ (n:Nat)(l:List nE)(d:nE):muS n (l++ [d])=kI d.1 n 0:=by
 unfold muS
 have:(l++ [d])[(l++ [d]).length- 1]? =some d:=by
  rw[jZ,show l.length+ [d].length- 1=l.length from rfl,Sj om,Nat.sub_self];rfl
 rw[this]
theorem DeH.at {m c:H}{h k K P id:Nat}{r:eH}{f:V}{n:Nat}{w:Bool}{b:List Nat->Prop}{l:List nE}{d:nE}(j:DeH m c h k K P id r f n w b l d){i:Nat}{e:nE}(o:l[i]? =some e): ∃W p,GD W c n w b p e:=by
 obtain⟨s,q,p,_,_,_,a,_⟩:=j.ex;obtain⟨hi,rfl⟩:=Ax.1 o;have:=aM.length a;exact⟨_,_,aM.get a i om hi⟩
theorem UR (W:H)(f y K P id:Nat)(r:eH)(F:Nat)(m:List V)(n:Nat)(w:Bool)(c:nE)(R:List Nat->Prop)(hG:iX n R)(hc:bC n R c.1 c.2)(nx:NxF n w c W F m)(N:W.next<=f)(ho:f<id/\y<id/\K<id/\P<id)(O:f≠y/\f≠K/\f≠P)(h:H)(j0:DeH W h f y K P id r (.fn F [] m) n w R [] c)(Q:H->Prop)
  (hy: ∀l d hh (p:V×V),DeH W hh f y K P id r (.fn F [] m) n w R l d->hh.get f=aZ [aC n,p.1,p.2]->Na n w c l d->Ey T id [.agg [aC n,p.1,p.2]] hh (λv h'=>v= .bool true/\DeH W h' f y K P id r (.fn F [] m) n w R (l++ [d]) d/\(∀e,l[l.length- 1]? =some e->d≠e)∨v= .bool false/\Q h')):
  Ev T 120 [.yl id,.ptr f 0,.ptr y 0] h (λ_ h'=>Q h'):=by
 refine cV tJ rfl ?_
 simp(disch:=omega)only[go_sem,tJ,aD]
 refine aH (λk' z hh=> ∃(l:List nE) (d:nE),(∃g:Nat->V,z= [.yl id,.ptr f 0,.ptr y 0,g 3])/\DeH W hh f y K P id r (.fn F [] m) n w R l d/\Na n w c l d/\k'=muS n l) 6000
  ⟨[],c,aB rfl,j0,Na.start,rfl⟩ ?_
 rintro k' z hh ⟨l,d,⟨g,rfl⟩,j,s,rfl⟩
 obtain⟨vl,ls,p,gP,ow,bl,al,Z,gd⟩:=j.ex
 simp(disch:=omega)only[go_sem,aI Z]
 refine (hy l d hh p j Z s).mono ?_
 rintro _ o (⟨rfl,t,A⟩|⟨rfl,q2⟩)
 case inr=>
  simp(disch:=omega)only[go_sem];exact q2
 obtain⟨J,a5,p2,a4,a8,L,a1,Y,a7⟩:=t.ex
 obtain⟨Gd,G,dx⟩:=a7
 obtain⟨_,b2,b5⟩:=G.one
 simp(disch:=omega)only[go_sem,H.aF t.c2,aI Y]
 refine (nx o _ _ d Gd t.fr G).mono ?_
 rintro _ h3 ⟨p3,e,rfl,B,f3⟩
 obtain⟨_,a2,a6⟩:=B.one
 have n3:=f3.next
 have b4:=t.nx
 have a0:h3.get f=aZ [aC n,p2.1,p2.2]:=by rw[f3.get f om];exact Y
 obtain⟨h4,e4,n4,g4,o4⟩:=pJ h3 f [aC n,p3.1,p3.2]
 simp(disch:=omega)only[go_sem,bW h3 f 0 (v:= aC n) (u:=p3.1) (w:=p3.2) rfl a2 a6,a0,cF,e4]
 have hE:=B.isc
 have b3:=jH G
 have b0:muS n (l++ [d])<muS n l:=by
  rw[YQ];unfold muS
  cases hl:l[l.length- 1]? with
  |none=>show kI d.1 n 0<6000;omega
  |some a=>
   obtain⟨_,_,Ga,b1,a3⟩:=j.at hl;have:=a3.size hG hc (s.la a hl);have ne:kI d.1 n 0≠kI a.1 n 0:=λh=>A a hl (this.2 h)
   show kI d.1 n 0<kI a.1 n 0;omega
 have fx:Fx (WO f P id J) o h4:=⟨om,λq N o=>by rw[o4 q λe=>o (.inl e),f3.get q N]⟩
 have U: ∀q,q<o.next->q≠f->h4.get q=o.get q:=λq N o=>by rw[o4 q o,f3.get q N]
 refine⟨_,b0,l++ [d],e,aB rfl,⟨⟨J,a5,p3,by rw[U P om (Ne.symm O.2.2)];exact a4,a8.mono om λq _ _ _ ee _ N=>U q N (L q ⟨_,_,_,ee⟩).2.1,λq hq=>by obtain⟨a,b,c,d,e,g,i⟩:=L q hq;exact⟨a,b,c,d,e,g,om⟩,aM.mono (λ_ _ x=>x.go fx λ_ _ h=>h) a1,g4,Kf n w c d,?_,dx.next hG hc hE⟩,by rw[U K om (Ne.symm O.2.1)];exact t.k,by rw[U y om (Ne.symm O.1)];exact t.c2,by rw[U id om om];exact t.gr,⟨by have:=t.fr.next;omega,λq hq=>by rw[U q (by have:=t.fr.next;omega) om];exact t.fr.get q hq⟩,om⟩,s.push A hE,rfl⟩
 have a9: ∀q,WO f P id J q->q<o.next:=λq h=>by
  rcases h with h|h|h|h
  ·omega
  ·omega
  ·omega
  ·exact (L q h).2.2.2.2.2.2
 exact B.go ⟨om,λq N o=>o4 q λe=>o (by show q<_;omega)⟩ λq _ h=>a9 q h
theorem akP {h:H}{id o:Nat}{a b c:V}(i:h.cell id o=some a)(d:h.cell id (o+1)=some b)(f:h.cell id (o+2)=some c):h.row id o 3=some [a,b,c]:=by
 unfold H.cell at i d f;unfold H.row;split at i
 ·rename_i q j e
  rw[e] at d f;have d:j[o+1]? =some b:=d;have f:j[o+2]? =some c:=f;obtain⟨l,p⟩:=Ax.1 i;obtain⟨lb,k⟩:=Ax.1 d;obtain⟨m,n⟩:=Ax.1 f;rw[e];simp only[sub];rw[bF om,AR l,AR lb,AR m,p,k,n]
  rfl
 ·cases i
theorem Lw {h:H}{v:V}{n:Nat}{ls:List (V×V)}(s:SV h v 3 (Kr n ls)){i:Nat}(hi:i<ls.length): ∃id off,Sl v 3 ls.length id off/\h.row id (off+i*3) 3=some [aC n,ls[i].1,ls[i].2]:=by
 obtain⟨id,off,b,f,a⟩:=s.shape ls.length (lC n ls) om;obtain⟨d,j,c⟩:=QY (n:=n) hi;have k:=lC n ls;refine⟨id,off,b,akP ((a (i*3) om).trans d) ?_ ?_⟩
 ·have:=(a (i*3+1) om).trans j
  rwa [←Nat.add_assoc] at this
 ·have:=(a (i*3+2) om).trans c
  rwa [←Nat.add_assoc] at this
theorem Vj (h:H){x y:V}{d:Int}(a:x.one=true)(b:y.one=true):lQ h 3 [aC 0,.aE,.aE] 1 [(0,3,.agg [aC d,x,y])]=some (.sl h.next 0 1 (.kn 1),h.new (.cells false [aC d,x,y])):=by
 have e:cX [aC 0,.aE,.aE] (1*3)= [aC 0,.aE,.aE]:=rfl;simp [lQ,iS,e,putAt,V.cells,a,b,show (aC d).one=true from rfl]
theorem DeH.short {t A:H}{x y K P id:Nat}{r:eH}{f:V}{n:Nat}{w:Bool}{c:nE}{b:List Nat->Prop}{l:List nE}{d:nE}(j:DeH t A x y K P id r f n w b l d)(u:iX n b)(F:bC n b c.1 c.2)(s:Na n w c l d):l.length<=6000:=by
 have i: ∀k e,l[k]? =some e->k+kI e.1 n 0<=5999:=by
  intro k
  induction k with
  |zero=>
   intro e a;obtain⟨_,_,_,z,_⟩:=j.at a;have:=jH z;omega
  |succ k ih=>
   intro e a;have q:k<l.length:=by have:=(Ax.1 a).1;omega
   have m:l[k]? =some l[k]:=dD q;obtain⟨_,_,J,_,o⟩:=j.at m;obtain⟨B,p⟩:=s.st k _ _ m a;have v:=o.size u F B;have G:=ih _ m;have:kI e.1 n 0≠kI l[k].1 n 0:=λh=>p (v.2 h)
   omega
 by_cases h:l.length=0
 ·omega
 ·have:=i (l.length- 1) _ (dD om)
  omega
theorem Rd {W0:Nat->Prop}(Z h:H)(y Q:Nat)(F:Nat)(z:List V)(n:Nat)(w:Bool)(c:nE)(Gc:List Nat->Prop)(vO vR:V)(f0:Fr Z h)(a:Z.next<=y)(h2:Z.next<=Q)(d3:y≠Q)(l1:y<h.next)(l2:Q<h.next)(b7:h.get y=aZ [aC n,vO,vR])(c5:h.get Q=aZ [.fn F [] z])(W:GC W0 Z (.agg [aC n,vO,vR]) n c.1 c.2 Gc)(nx:NxF n w c Z F z):
  Ev T 75 [.fn 120 [] [.ptr y 0,.ptr Q 0],.fn 65 [] []] h (λv h'=> ∃ls l,SV h' v 3 (Kr n ls)/\aM (GD (λ_=>False) h' n w Gc) ls l/\uC n w c l/\Fr Z h'):=by
 refine cV jA rfl ?_
 obtain⟨K,hK⟩:=exI h.next
 obtain⟨h3,e3,n3,g3,o3,f3⟩:=dF hK [.fn 65 [] []]
 obtain⟨Y,e4,n4,g4,o4,f4⟩:=dF n3 [.aE]
 simp(disch:=omega)only[go_sem,jA,aD,mF (x:= .fn 65 [] []) rfl rfl h,hK,e3,n3,e4]
 obtain⟨P,hP⟩:=exI (K+1)
 rw[hP] at n3 n4 g4 o4 ⊢
 obtain⟨id,a5⟩:=exI Y.next
 refine⟨rfl,uJ λr hr=>?_⟩
 rw[a5]
 have iP:r.st= .ready:=by rw[hr]
 have b8:r.pend=none:=by rw[hr]
 have oA: ∀k,k<id->(Y.new (.loop r)).get k=Y.get k:=λk hk=>H.bG Y om _
 have nA:(Y.new (.loop r)).next=id+1:=by rw[H.aU,a5]
 have fA:Fr h (Y.new (.loop r)):=(f3.trans f4).new _
 have n0:=f0.next
 have J0:DeH Z (Y.new (.loop r)) y Q K P id r (.fn F [] z) n w Gc [] c:=by
  refine⟨⟨.aE, [],(vO,vR),by rw[oA _ om];exact g4,cY.aE _ _ _,λq ⟨_,_,_,e⟩=>(by cases e),trivial,by rw[fA.get _ l1];exact b7,Gc,(W.Fo λq a h2=>?_).mono (f0.trans fA),Dx.first W.dN W.isc⟩,by rw[oA _ om,o4 _ om];exact g3,by rw[fA.get _ l2];exact c5,by rw[←a5,H.aL],f0.trans fA,om⟩;rcases h2 with h|h|h|⟨_,_,_,e⟩
  ·omega
  ·omega
  ·omega
  ·cases e
 refine (UR Z y Q K P id r F z n w c Gc W.dN W.isc nx a om om _ J0 (λh'=> ∃f ls l,h'.get P=aZ [f]/\(cY h' f 3 (Kr n ls) 0/\ ∀q,dO f q->q≠id)/\aM (GD (WO y P id f) h' n w Gc) ls l/\uC n w c l/\Fr Z h'/\h'.get id=some (.loop (tX r (.exit 0)))/\id<h'.next) ?_).mono ?_
 ·intro l d O p j gp s
  obtain⟨f,ls,t,gP,ow,R,al,a2,a4⟩:=j.ex
  have b6:t=p:=by
   have:=a2.symm.trans gp;simp only[Option.some.injEq,Ob.cells.injEq,List.cons.injEq,true_and,and_true] at this;exact Prod.ext this.1 this.2
  subst b6
  have c3:=a4
  obtain⟨Gd,gc,dx⟩:=c3
  obtain⟨_,a8,b1⟩:=gc.one
  have jn:=j.nx
  have jf:=j.fr.next
  have la:=aM.length al
  have l6:=j.short W.dN W.isc s
  obtain⟨X,hX⟩:=exI O.next
  obtain⟨hA,eA,nA,gA,oA,fA⟩:=dF hX [aC 0,.aE,.aE]
  obtain⟨hB,eB,nB,gB,oB⟩:=pJ hA X [aC n,t.1,t.2]
  refine acY j.gr (by rw[hr];rfl) ?_
  rw[congrArg eH.assign hr,congrArg eH.vars hr,congrArg eH.pars hr]
  simp(disch:=omega)only[go_sem,List.zip_cons_cons,List.zip_nil_left,hX,eA,bW hA X 0 (v:= aC n) (u:=t.1) (w:=t.2) rfl a8 b1,gA,cF,eB]
  refine⟨r,by rw[oB _ om,oA _ om];exact j.gr,iP,?_⟩
  obtain⟨A,eC⟩: ∃x,hB.set id (some (.loop (pW r)))=x:=⟨_,rfl⟩
  have b5:hB.set id (some (.loop {r with st:= .busy}))=A:=eC
  rw[b5,congrArg eH.body hr]
  have nC:A.next=X+1:=by rw[←eC];show hB.next=_;omega
  have b3:A.get id=some (.loop (pW r)):=by rw[←eC,H.aS]
  have oC: ∀q,q≠id->q≠X->A.get q=O.get q:=λq a h2=>by rw[←eC,H.aG _ a,oB q h2,oA q h2]
  have a3:A.get X=aZ [aC n,t.1,t.2]:=by rw[←eC,H.aG _ om];exact gB
  have fx:Fx (WO y P id f) O A:=⟨om,λq a h2=>oC q (λe=>h2 (.inr (.inr (.inl e)))) om⟩
  rw[AD]
  refine xW (λa1 hf=>(∃g:Nat->V,a1= [g 0,g 1,g 2,g 3,.ptr P 0,.ptr X 0,g 6,g 7,g 8])/\Fr A hf/\ ∀e,l[l.length- 1]? =some e->d≠e) ?_ ?_
  ·have sv:=(ow.mono (h':=A) om λq o m U e _ a=>oC q (R q ⟨o,m,U,e⟩).2.2.2.2.2.1 om).sv
   have lv:bT f=some (aC (ls.length:Int)):=by unfold bT;rw[SV.len sv (n:=ls.length) (lC n ls) om];rfl
   have b0:A.get P=aZ [f]:=by rw[oC P om om];exact gP
   have fb:Fr A (H.mk A.tr (A.next+17)):=(Fr.refl A).bA om
   have a7:A.get K=aZ [.fn 65 [] []]:=by rw[oC K om om];exact j.k
   by_cases hl:ls.length=0
   ·have d1:decide ((ls.length:Int)>0)=false:=bH om
    have l0:l= []:=WJ om
    simp(disch:=omega)only[go_sem,H.aF b0,lv,d1]
    exact .inl ⟨aB rfl,fb,λe he=>by rw[l0] at he;cases he⟩
   ·have d1:decide ((ls.length:Int)>0)=true:=oQ om
    have hi:ls.length- 1<ls.length:=om
    obtain⟨ri,ro,c6,rC⟩:=Lw sv hi
    have gl:=aM.get al (ls.length- 1) hi om
    obtain⟨Gl,a6,a9⟩:=gl
    have em:((ls.length:Nat):Int)- 1=((ls.length- 1:Nat):Int):=om
    have J:l[ls.length- 1]? =some (l[ls.length- 1]'om):=dD om
    generalize (ls[ls.length- 1]'hi)=pl at a6 rC
    generalize (l[ls.length- 1]'om)=e0 at a6 a9 J
    rw[la] at J
    have c8:=a9.size W.dN W.isc (s.la e0 J)
    simp(disch:=omega)only[go_sem,H.aF b0,lv,d1,H.aF a7,em,c6.ixa,rC,aI a3]
    refine (vW _ n e0.1 e0.2 Gl _ ((a6.go fx λ_ _ h=>h).mono fb)).mono ?_
    rintro _ h5 ⟨rfl,f5⟩
    have F5:=fb.trans f5
    have ec:dE t.1 t.1=true/\dE t.2 t.2=true:=by
     obtain⟨_,_,_,_,e,sO,_,_,sR,_,_⟩:=gc.cw;simp only[V.agg.injEq,List.cons.injEq,true_and,and_true] at e;rw[e.1,e.2];exact⟨SV.dE sO,SV.dE sR⟩
    simp(disch:=omega)only[go_sem,aI (show h5.get X=_ from (F5.get X om).trans a3),H.aF (show h5.get K=_ from (F5.get K om).trans a7),ec.1,ec.2,show dE (.fn 65 [] []) (.fn 65 [] [])=true from rfl]
    refine (vW _ n d.1 d.2 Gd _ ((gc.go fx λ_ _ h=>h).mono F5)).mono ?_
    rintro _ h6 ⟨rfl,f6⟩
    have F6:=F5.trans f6
    by_cases hs:kI e0.1 n 0=kI d.1 n 0
    ·have d2:decide (((kI e0.1 n 0:Nat):Int)=((kI d.1 n 0:Nat):Int))=true:=oQ (by rw[hs])
     simp(disch:=omega)only[go_sem,d2]
     obtain⟨hz,L⟩: ∃x,h6.set id (some (.loop (tX r (.exit 0))))=x:=⟨_,rfl⟩
     have nz:hz.next=h6.next:=by rw[←L];rfl
     have n6:=F6.next
     have oz: ∀q,q≠id->q<X->hz.get q=O.get q:=λq a h2=>by rw[←L,H.aG _ a,F6.get q om,oC q a om]
     have fz:Fx (WO y P id f) O hz:=⟨om,λq a h2=>oz q (λe=>h2 (.inr (.inr (.inl e)))) om⟩
     refine .inr ⟨λe=>(by cases e),DS (by rw[F6.get id om];exact b3) ?_⟩
     rw[L]
     exact .inr ⟨rfl,f,ls,l,by rw[oz P om om];exact gP,⟨ow.mono om λq o m U e _ a=>oz q (R q ⟨o,m,U,e⟩).2.2.2.2.2.1 om,λq h=>(R q h).2.2.2.2.2.1⟩,aM.mono (λ_ _ x=>x.go fz λ_ _ h=>h) al,s.done (λe=>hl (by rw[la,e];rfl)) (by rw[J,c8.2 hs.symm]),⟨om,λq B=>by rw[oz q om om];exact j.fr.get q B⟩,by rw[←L,H.aS],om⟩
    ·have d2:decide (((kI e0.1 n 0:Nat):Int)=((kI d.1 n 0:Nat):Int))=false:=bH om
     simp(disch:=omega)only[go_sem,d2]
     exact .inl ⟨aB rfl,F6,λe he c1=>by rw[J] at he;cases he;exact hs (by rw[c1])⟩
  ·rintro a1 hf ⟨⟨g,rfl⟩,ff,b4⟩
   have nf:=ff.next
   have of: ∀q,q≠id->q<X->hf.get q=O.get q:=λq a h2=>by rw[ff.get q om,oC q a om]
   obtain⟨S,hS⟩:=exI hf.next
   obtain⟨a,e1,n1,g1,o1,f1⟩:=dF hS [aC n,t.1,t.2]
   have c0:cY a f 3 (Kr n ls) 0:=ow.mono om λq o m U e _ B=>by rw[o1 q om,of q (R q ⟨o,m,U,e⟩).2.2.2.2.2.1 om]
   have c9:SV a (.sl S 0 1 (.kn 1)) 3 [aC n,t.1,t.2]:=SV.all rfl om g1 _
   obtain⟨h2,e2,pu⟩:=c0.push (bytes:=56) c9 (n:=ls.length) (m:=1) (lC n ls) rfl om om om
   have n2:=pu.next
   obtain⟨v2,G⟩: ∃x,V.sl a.next 0 (ls.length+1) (.un 3)=x:=⟨_,rfl⟩
   have c7: ∀q,¬dO f q->dL f q:=λq h i o m U e B=>h ⟨o,m,U,by rw[B];exact e⟩
   have o2: ∀q,q≠a.next-> ¬dO f q->h2.get q=a.get q:=λq a h2=>pu.old q a (c7 q h2)
   have b9:h2.get P=aZ [f]:=by rw[o2 P om (λh=>(R P h).2.2.2.2.1 rfl),o1 P om,of P om om];exact gP
   obtain⟨h3,e3,n3,g3,o3⟩:=pJ h2 P [v2]
   have c4:Wj h2 1 (.ptr P 0) v2=some h3:=by rw[←G,OV,b9,bN (by show 0<1;omega),G];exact congrArg some e3
   rw[G] at e2
   simp(disch:=omega)only[go_sem,H.aF (show hf.get P=_ from (of P om om).trans gP),aI (show hf.get X=_ from (ff.get X om).trans a3),Vj hf a8 b1,hS,e1,e2,c4]
   obtain⟨hz,L⟩: ∃x,h3.set id (some (.loop r))=x:=⟨_,rfl⟩
   have nz:hz.next=a.next+1:=by rw[←L];show h3.next=_;omega
   have N: ∀q,q<X->(¬dO f q->q≠id->q≠P->hz.get q=O.get q):=λq a h2 h3 Y=>by
    rw[←L,H.aG _ h3,o3 q Y,o2 q om h2,o1 q om,of q h3 a]
   have a0: ¬dO f y/\ ¬dO f Q/\ ¬dO f K/\ ¬dO f id:=⟨λh=>(R y h).2.1 rfl,λh=>(R Q h).2.2.1 rfl,λh=>(R K h).2.2.2.1 rfl,λh=>(R id h).2.2.2.2.2.1 rfl⟩
   have fz:Fx (WO y P id f) O hz:=⟨om,λq a h2=>N q om (λh=>h2 (.inr (.inr (.inr h)))) (λe=>h2 (.inr (.inr (.inl e)))) (λe=>h2 (.inr (.inl e)))⟩
   have b2: ∀q,dO v2 q->q=a.next:=λq ⟨_,_,_,e⟩=>by rw[←G] at e;cases e;rfl
   have hw: ∀q,q<O.next->WO y P id v2 q->WO y P id f q:=λq a h2=>by
    rcases h2 with h|h|h|h
    ·exact .inl h
    ·exact .inr (.inl h)
    ·exact .inr (.inr (.inl h))
    ·have:=b2 q h;omega
   refine oX iP b8 (by rw[o3 id om,o2 id om a0.2.2.2,o1 id om,ff.get id om];exact b3) ?_
   rw[L]
   refine .inl ⟨rfl,⟨⟨v2,ls++ [t],t,?_,?_,?_,?_,?_,?_⟩,?_,?_,?_,?_,?_⟩,b4⟩
   ·rw[←L,H.aG _ om];exact g3
   ·rw[Tt,←G]
    refine (pu.own (b:=0) (lC n ls) rfl om).mono om λq o m U e _ B=>?_
    cases e
    rw[←L,H.aG _ om,o3 _ om]
   ·intro q B
    have:=b2 q B
    omega
   ·exact aM.append (aM.mono (λ_ _ x=>x.go fz hw) al) ⟨a4.go fz hw,trivial⟩
   ·rw[N y om a0.1 om om];exact a2
   ·exact a4.go fz hw
   ·rw[N K om a0.2.2.1 om om];exact j.k
   ·rw[N Q om a0.2.1 om om];exact j.c2
   ·rw[←L,H.aS]
   ·refine⟨om,λq B=>?_⟩
    rw[N q om (λh=>?_) om om]
    ·exact j.fr.get q B
    ·have:=(R q h).1;omega
   ·omega
 ·rintro _ O ⟨f,ls,l,gP,⟨ow,bi⟩,al,s,F,gr,nx⟩
  refine⟨_,gr,by simp [tX],?_⟩
  have en:(tX r (.exit 0)).pend.getD .norm= .exit 0:=rfl
  rw[en]
  have d0:(O.set id (some (.loop {tX r (.exit 0) with st:= .out}))).get P=aZ [f]:=by rw[H.aG _ om];exact gP
  simp(disch:=omega)only[go_sem,H.aF d0]
  have n0:=F.next
  refine⟨ls,l,?_,?_,s,⟨?_,λq B=>?_⟩⟩
  ·refine cY.sv (b:=0) ?_
   exact ow.mono (fM _) λq o m U e _ a=>H.aG _ (bi q ⟨o,m,U,e⟩) _
  ·exact aM.mono (λ_ _ x=>x.go ⟨fM _,λq a h2=>H.aG _ (λe=>h2 (.inr (.inr (.inl e)))) _⟩ λ_ _ h=>h.elim) al
  ·exact n0
  ·rw[H.aG _ (by have:=f0.next;omega)]
   exact F.get q B
section
variable {W:Nat->Prop} {n:Nat} {w:Bool}
theorem Pc (h:H){a b c:V}(f:V)(s:a.one=true)(m:b.one=true)(F:c.one=true)(z:f.one=true)(d:f.cells= [f]):
  Ev T 76 [.agg [a,b,c],f] h (λv h'=>v= .fn 120 [] [.ptr h.next 0,.ptr (h.next+1) 0]/\h'.get h.next=aZ [a,b,c]/\h'.get (h.next+1)=aZ [f]/\h'.next=h.next+2/\Fr h h'):=by
 refine cV wM rfl ?_
 obtain⟨B,i⟩:=exI h.next
 obtain⟨A,t,j,r,J,q⟩:=dF i [a,b,c]
 obtain⟨G,l,p,o,y,k⟩:=dF j [f]
 simp(disch:=omega)only[go_sem,wM,aD,bM h (v:=a) (u:=b) (w:=c) s m F,i,t,mF (x:=f) d z A,j,l]
 exact⟨by rw[y B om];exact r,o,p,q.trans k⟩
def ahB (n:Nat)(w:Bool)(c:nE)(G:List Nat->Prop)(h:H)(v:V)(h':H):Prop:= ∃vl ls l,v= .tup [vl,aC 0]/\SV h' vl 3 (Kr n ls)/\aM (GD (λ_=>False) h' n w G) ls l/\uC n w c l/\Fr h h'
theorem Eu (r:V)(n:Nat)(O:LN)(R:jI)(G:List Nat->Prop)(h:H)(k:GC W h r n O R G):
  Ev T 18 [r] h (ahB n false (O,R) G h):=by
 obtain⟨d,b,rfl,q,p⟩:=k.shape
 refine cV wI rfl ?_
 obtain⟨B,m⟩:=exI h.next
 obtain⟨P,K,Z,o,Q,j⟩:=dF m [aC n,d,b]
 simp(disch:=omega)only[go_sem,wI,aD,bM h (v:= aC n) (u:=d) (w:=b) rfl q p,m,K,aI o]
 refine (Yb _ n O R G P (k.mono j)).mono ?_
 rintro _ a ⟨rfl,f⟩
 have i:a.get B=aZ [aC n,d,b]:=by rw[f.get B om];exact o
 have A:decide ((0:Int)≠0)=false:=rfl
 simp(disch:=omega)only[go_sem,A,aI i]
 refine (Pc a (.fn 77 [] []) rfl q p rfl rfl).mono ?_
 rintro _ J ⟨rfl,F,y,U,x⟩
 simp(disch:=omega)only[go_sem]
 refine (Rd (c:=(O,R)) a J a.next (a.next+1) 77 [] n false G d b x (fM _) om om om om F y (k.mono (j.trans f)) (QU n (O,R) a)).mono ?_
 rintro N Y ⟨L,l,sv,t,s,z⟩
 simp(disch:=omega)only[go_sem]
 exact⟨N,L,l,rfl,sv,t,s,(j.trans f).trans z⟩
theorem Nq (q:V)(n:Nat)(O:LN)(R:jI)(G:List Nat->Prop)(h:H)(j:GC W h q n O R G):
  Ev T 20 [q] h (ahB n true (O,R) G h):=by
 obtain⟨i,d,rfl,p,r⟩:=j.shape
 refine cV Av rfl ?_
 obtain⟨B,m⟩:=exI h.next
 obtain⟨F,z,n1,o,Q,k⟩:=dF m [aC n,i,d]
 simp(disch:=omega)only[go_sem,Av,aD,bM h (v:= aC n) (u:=i) (w:=d) rfl p r,m,z,aI o]
 refine (Yb _ n O R G F (j.mono k)).mono ?_
 rintro _ a ⟨rfl,f⟩
 have U:=f.next
 have b:a.get B=aZ [aC n,i,d]:=by rw[f.get B om];exact o
 have J:decide ((0:Int)≠0)=false:=rfl
 simp(disch:=omega)only[go_sem,J,aI b]
 refine (Pc a (.fn 81 [] [.ptr B 0]) rfl p r rfl rfl).mono ?_
 rintro _ y ⟨rfl,x,L,Y,K⟩
 simp(disch:=omega)only[go_sem]
 refine (Rd (c:=(O,R)) a y a.next (a.next+1) 81 [.ptr B 0] n true G i d K (fM _) om om om om x L (j.mono (k.trans f)) (UL n (O,R) a B i d G b om (j.mono (k.trans f)))).mono ?_
 rintro A Z ⟨P,l,sv,t,s,N⟩
 simp(disch:=omega)only[go_sem]
 exact⟨A,P,l,rfl,sv,t,s,(k.trans f).trans N⟩
def ajS (n:Nat)(l:List nE):Bool:=match l[l.length- 1]? with|none=>false|some e=>decide (kI e.1 n 0=1)
theorem uC.pos {c:nE}{l:List nE}(s:uC n w c l):0<l.length:=by
 have:=(Ax.1 s.hd).1;omega
theorem uC.short {h:H}{c:nE}{d:List Nat->Prop}{ls:List (V×V)}{l:List nE}(s:uC n w c l)(o:iX n d)(t:bC n d c.1 c.2)(al:aM (GD W h n w d) ls l):l.length<=6000:=by
 have x:=aM.length al
 have f: ∀k e,l[k]? =some e->k+kI e.1 n 0<=5999:=by
  intro k
  induction k with
  |zero=>
   intro e b;obtain⟨a,rfl⟩:=Ax.1 b;obtain⟨_,q,_⟩:=aM.get al 0 om a;have:=jH q;omega
  |succ k ih=>
   intro e b;have a:k<l.length:=by have:=(Ax.1 b).1;omega
   have j:l[k]? =some l[k]:=dD a;obtain⟨v,_,i⟩:=aM.get al k om a;obtain⟨r,m⟩:=s.st k _ _ j b;have p:=i.size o t r;have u:=ih _ j;have:kI e.1 n 0≠kI l[k].1 n 0:=λh=>m (p.2 h)
   omega
 by_cases h:l.length=0
 ·omega
 ·have:=f (l.length- 1) _ (dD om)
  omega
theorem alG {c:nE}{G:List Nat->Prop}{ls:List (V×V)}{l:List nE}(j:V)(h:H)(sv:SV h j 3 (Kr n ls))(al:aM (GD W h n w G) ls l)(s:uC n w c l)(q:iX n G)(x:bC n G c.1 c.2):
  Ev T 82 [j,aC 0] h (λr h'=>r= .tup [.bool (ajS n l),aC 0]/\Fr h h'):=by
 refine cV FF rfl ?_
 have t:=aM.length al
 have y:=s.pos
 have m:bT j=some (aC (ls.length:Int)):=by unfold bT;rw[SV.len sv (n:=ls.length) (lC n ls) om];rfl
 have hi:ls.length- 1<ls.length:=om
 obtain⟨B,z,i,k⟩:=Lw sv hi
 obtain⟨o,b,f⟩:=aM.get al (ls.length- 1) hi om
 have a:l[ls.length- 1]? =some (l[ls.length- 1]'om):=dD om
 generalize (ls[ls.length- 1]'hi)=pl at b k
 generalize (l[ls.length- 1]'om)=d at b f a
 have u:((ls.length:Nat):Int)- 1=((ls.length- 1:Nat):Int):=om
 have F:=s.short q x al
 have v:decide ((0:Int)≠0)=false:=rfl
 simp(disch:=omega)only[go_sem,FF,aD,v,m,u,i.ixa,k]
 refine (vW _ n d.1 d.2 o _ b).mono ?_
 rintro _ A ⟨rfl,p⟩
 simp(disch:=omega)only[go_sem]
 refine⟨?_,p⟩
 rw[t] at a
 unfold ajS
 rw[a]
 rw[show decide (((kI d.1 n 0:Nat):Int)=1)=decide (kI d.1 n 0=1) from by
  by_cases e:kI d.1 n 0=1
  ·rw[oQ e,oQ om]
  ·rw[bH e,bH om]]
theorem aiX (i:V)(n:Nat)(O:LN)(R:jI)(G:List Nat->Prop)(h:H)(a:GC W h i n O R G):
  Ev T 22 [i] h (λv h'=> ∃l,uC n false (O,R) l/\v= .tup [.bool (ajS n l),aC 0]/\Fr h h'):=by
 obtain⟨f,d,rfl,y,r⟩:=a.shape
 refine cV Oj rfl ?_
 obtain⟨B,b⟩:=exI h.next
 obtain⟨x,q,A,p,z,c⟩:=dF b [aC n,f,d]
 simp(disch:=omega)only[go_sem,Oj,aD,bM h (v:= aC n) (u:=f) (w:=d) rfl y r,b,q,aI p]
 refine (Eu _ n O R G x (a.mono c)).mono ?_
 rintro _ k ⟨t,J,l,rfl,sv,j,s,m⟩
 simp(disch:=omega)only[go_sem]
 refine (alG t k sv j s a.dN a.isc).mono ?_
 rintro _ F ⟨rfl,o⟩
 simp(disch:=omega)only[go_sem]
 exact⟨l,s,rfl,(c.trans m).trans o⟩
theorem PS (i:V)(n:Nat)(O:LN)(R:jI)(G:List Nat->Prop)(h:H)(a:GC W h i n O R G):
  Ev T 24 [i] h (λv h'=> ∃l,uC n true (O,R) l/\v= .tup [.bool (ajS n l),aC 0]/\Fr h h'):=by
 obtain⟨f,d,rfl,y,r⟩:=a.shape
 refine cV sL rfl ?_
 obtain⟨B,b⟩:=exI h.next
 obtain⟨x,q,A,p,z,c⟩:=dF b [aC n,f,d]
 simp(disch:=omega)only[go_sem,sL,aD,bM h (v:= aC n) (u:=f) (w:=d) rfl y r,b,q,aI p]
 refine (Nq _ n O R G x (a.mono c)).mono ?_
 rintro _ k ⟨t,J,l,rfl,sv,j,s,m⟩
 simp(disch:=omega)only[go_sem]
 refine (alG t k sv j s a.dN a.isc).mono ?_
 rintro _ F ⟨rfl,o⟩
 simp(disch:=omega)only[go_sem]
 exact⟨l,s,rfl,(c.trans m).trans o⟩
end
theorem Me (u:V)(a:List Nat)(h:H)(U:a.length<=1000)(K: ∀x∈a,x<256)(z:SI h u (zi a)):
  Ev T 99 [u] h (λv h'=>v= .str a/\Fr h h'):=by
 refine cV Db rfl ?_
 obtain⟨n,s⟩:=exI a.length
 have N:=z.lens
 rw[aQ,s] at N
 obtain⟨id,off,y,p,B⟩:=z.open
 rw[aQ,s] at y p B
 simp(disch:=omega)only[go_sem,Db,aD,N,Qp h n om]
 have o:Fr h (h.new (.cells false (rc n λ_=> .int .u8 0))):=(Fr.refl h).new _
 have d:(h.new (.cells false (rc n λ_=> .int .u8 0))).get h.next=some (.cells false (rc n λ_=> .int .u8 0)):=H.aL ..
 have c:(h.new (.cells false (rc n λ_=> .int .u8 0))).next=h.next+1:=H.aU ..
 generalize h.new (.cells false (rc n λ_=> .int .u8 0))=W at*
 obtain⟨S,G⟩:=exI h.next
 rw[G] at d c
 rw[G]
 refine aH (λO b w=> ∃(i:Nat),(∃j:Nat->V,b= [u,j 1,.sl S 0 n (.kn n),j 3,j 4,u,aC n,aC i,j 8])/\i<=n/\
   w.get S=some (.cells false (rc n λj=>if j<i then .int .u8 ((a.getD j 0:Nat):Int) else .int .u8 0))/\w.next=S+1/\Fr h w/\O=n-i) n
  ⟨0,aB rfl,iJ _,by rw[d];rfl,c,o,rfl⟩ ?_
 clear d o c
 rintro O b l ⟨i,⟨Y,rfl⟩,hi,P,R,F,rfl⟩
 simp(disch:=omega)only[go_sem]
 by_cases m:(i:Int)<(n:Int)
 ·rw[oQ m]
  have f:i<n:=om
  have ci:l.cell id (off+i)=some (aC (a.getD i 0:Nat)):=by rw[F.cell (p om),B i f];congr 2;simp [zi,s,f]
  have r:=K (a.getD i 0) (bD om)
  generalize Q:a.getD i 0=k at ci r
  have A:=bN (vs:=rc n λj=>if j<i then .int .u8 ((a.getD j 0:Nat):Int) else .int .u8 0) (off:=i) (by rw[Df];exact f) l S (.int .u8 (k:Int))
  rw[mS] at A
  simp(disch:=omega)only[go_sem,y.ixa,ci,P,yH,A]
  rw[eJ i]
  refine⟨n-(i+1),om,i+1,aB rfl,om,?_,R,F.set om _,rfl⟩
  congr 2
  refine dB λj L=>?_
  by_cases e:j=i
  ·rw[bF e,bF om,e,Q]
  ·rw[bI e]
   by_cases J:j<i
   ·rw[bF J,bF om]
   ·rw[bI J,bI om]
 rw[bH m]
 obtain rfl:i=n:=om
 have q:l.row S 0 i=some (a.map λ(x:Nat)=>V.int .u8 (x:Int)):=by
  have e:(rc i λj=>if j<i then V.int .u8 ((a.getD j 0:Nat):Int) else .int .u8 0)=a.map λ(x:Nat)=>V.int .u8 (x:Int):=Kq (by rw[jV,s]) λj L=>by
   rw[bF L,Ol,dD om,List.getD,dD om];rfl
  unfold H.row;rw[P,e];simp only[sub];rw[bF (by rw[jV];omega)];rw[List.drop_zero,Tn (by rw[jV];omega)]
 have t:JA l (.sl S 0 i (.kn i))=some (.str a):=by
  show (match l.row S 0 i with|some ys=>(qH ys).map V.str|none=>none)=_;rw[q];show (qH (a.map λ(x:Nat)=>V.int .u8 (x:Int))).map V.str=_;rw[Ee a K];rfl
 simp(disch:=omega)only[go_sem,GH,t]
 exact F
structure WM (n:Nat)(O:LN)(R:jI)(G:List Nat->Prop)(L:LN)(K:List Nat)(h:H)(p:Nat):Prop where
 ex: ∃vO vR M vr,h.get p=some (.cells false [aC n,vO,vR,.mp M,vr])/\h.get M=some (.wmap .str (Ie L L.length))/\GC (λ_=>False) h (.agg [aC n,vO,vR]) n O R G/\SP h vr (K.map λr=>L.getD r [])/\M<h.next
 hL:cZ O R n 0 (bL n)=L
 isK:Cm n G L K
 nx:p<h.next
theorem WM.mono {n:Nat}{O:LN}{R:jI}{G:List Nat->Prop}{L:LN}{K:List Nat}{h h':H}{p:Nat}(l:WM n O R G L K h p)(f:Fr h h'):WM n O R G L K h' p:=by
 obtain⟨j,b,M,c,g,d,i,sp,a⟩:=l.ex;have nx:=l.nx;exact⟨⟨j,b,M,c,by rw[f.get p nx];exact g,by rw[f.get M a];exact d,i.mono f,sp.mono f,iW a f.next⟩,l.hL,l.isK,iW nx f.next⟩
theorem aaR {a b c m:V}(h:a.one=true)(i:b.one=true)(j:c.one=true)(f:m.cells= [m])(d:m.one=true):rO [aC 0,.aE,.aE,.nilm,.aE] [(0,3,.agg [a,b,c]),(3,1,m)]=some (.agg [a,b,c,m,.aE]):=by
 simp [rO,iS,putAt,h,i,j,f,d,show (V.agg [a,b,c]).cells= [a,b,c] from rfl]
theorem aoO {a b:V}(d:a.one=true)(c:b.one=true)(n:Int)(M:Nat)(h:H):Cv h (.agg [aC n,a,b,.mp M,.aE])=some (.ptr h.next 0,h.new (.cells false [aC n,a,b,.mp M,.aE])):=tL h _ (by simp [d,c,show (aC n).one=true from rfl,show (V.mp M).one=true from rfl,show V.aE.one=true from rfl])
theorem SI.zC {h h':H}{v:V}{l:List Int}{q:Nat}{n:Int}{a b m x y:V}(s:SI h v l)(G:l≠ [])(g:h.get q=aZ [aC n,a,b,m,x])(g':h'.get q=aZ [aC n,a,b,m,y])(B: ∀z,a≠ aC z)(F: ∀z,b≠ aC z)(K: ∀z,m≠ aC z)(nx: ∀z,x≠ aC z)(f:Fx (· =q) h h'):SI h' v l:=by
 rcases s with s|⟨id,off,len,i,J,L,p,A,w,u,j,d⟩
 ·exact .inl s
 ·by_cases e:id=q
  ·subst e
   rw[g] at u;cases u
   cases l with
   |nil=>exact absurd rfl G
   |cons z r=>
    have o: ∀(c:V) (t:List V),(∀z,c≠ aC z)->c::t≠ints (z::r):=λc t N e=>N z (List.cons.inj e).1
    match off,len,p,j,d with
    |off,0,_,_,d=>simp [ints] at d
    |0,1,p,j,d=>exact .inr ⟨id,0,1,i,false,_,p,A,iW w f.next,g',j,d⟩
    |0,k+2,_,_,d=>
     exfalso
     cases r with
     |nil=>
      have:=congrArg List.length d;simp [ints] at this
      try omega
     |cons z2 r2=>
      have:=congrArg (λl:List V=>l[1]?) d;simp [ints] at this;exact B z2 this
    |1,k+1,_,_,d=>exact absurd d (by simpa using o a _ B)
    |2,k+1,_,_,d=>exact absurd d (by simpa using o b _ F)
    |3,k+1,_,_,d=>exact absurd d (by simpa using o m _ K)
    |4,k+1,_,_,d=>exact absurd d (by simpa using o x _ nx)
    |off+5,k+1,_,_,d=>simp [ints] at d
  ·exact .inr ⟨id,off,len,i,J,L,p,A,iW w f.next,by rw[f.get id w e];exact u,j,d⟩
theorem FX {W0:Nat->Prop}(vc:V)(n:Nat)(O:LN)(R:jI)(G:List Nat->Prop)(h:H)(gc:GC W0 h vc n O R G):
  Ev T 46 [vc] h (λv h'=> ∃p L K,v= .tup [.ptr p 0,aC 0]/\WM n O R G L K h' p/\Fr h h'):=by
 obtain⟨l,y,rfl,a5,a4⟩:=gc.shape
 refine cV rZ rfl ?_
 obtain⟨A,hA⟩:=exI h.next
 obtain⟨J,e1,n1,g1,o1,f1⟩:=dF hA [aC n,l,y]
 have bx:=bM h (v:= aC n) (u:=l) (w:=y) rfl a5 a4
 have rB:=aI g1
 obtain⟨L,hL⟩:=exI (cZ O R n 0 (bL n))
 obtain⟨E,ll⟩:=dM gc.dN gc.isc
 have g3:=jH gc
 rw[hL] at E ll
 have hG:=gc.dN
 have n7:=gc.n7
 have n0:=gc.n0
 simp(disch:=omega)only[go_sem,rZ,aD,bx,hA,e1,rB]
 refine (Wc _ n O R G J (gc.mono f1)).mono ?_
 rw[hL]
 rintro _ j ⟨vL,rfl,nw⟩
 obtain⟨wL,W,c8,c3,g2,W1⟩:=nw.ex
 have c7:=aM.length c3
 obtain⟨m,hm⟩:=exI L.length
 rw[hm] at c7
 have f4:=cY.lens c8 c7
 have f2:=nw.fr
 have d7:j.row A 0 3=some [aC n,l,y]:=aI (by rw[f2.get A om];exact g1)
 simp(disch:=omega)only[go_sem]
 refine aW (λhc=>(hc rfl).elim) (λ_=>?_)
 obtain⟨X,hX⟩:=exI j.next
 simp(disch:=omega)only[go_sem,d7,f4,hX,aaR (a:= aC n) (b:=l) (c:=y) (m:= .mp (X+3)) rfl a5 a4 rfl rfl,aoO a5 a4]
 obtain⟨h3,Y⟩: ∃h3:H,h3=H.mk ((H.mk ((H.mk j.tr (X+3)).new (Ob.wmap Cy.str [])).tr (X+5)).new (Ob.cells false [aC n,l,y,.mp (X+3),.aE])).tr (X+7):=⟨_,rfl⟩
 rw[←Y]
 have n3:h3.next=X+7:=by rw[Y]
 have gB:h3.get (X+5)=aZ [aC n,l,y,.mp (X+3),.aE]:=by rw[Y];exact H.aL (H.mk _ (X+5)) _
 have gM:h3.get (X+3)=some (.wmap .str (Ie L 0)):=by
  rw[Y];exact (H.bG (H.mk _ (X+5)) (show X+3≠X+5 by omega) _).trans (H.aL (H.mk _ (X+3)) _)
 have f3:Fr j h3:=⟨om,λq hq=>by
  rw[Y]
  exact (H.bG (H.mk _ (X+5)) (show q≠X+5 by omega) _).trans (H.bG (H.mk _ (X+3)) (show q≠X+3 by omega) _)⟩
 clear Y
 have U: ∀i,i<m->(L.getD i []).length<=1000/\ ∀x∈L.getD i [],x<256:=λi hi=>by
  have P:=lY hG E (show i<L.length by omega);exact⟨by rw[P.len];omega,λx hx=>by have:=P.lt x hx;omega⟩
 obtain⟨f6,d1,d6,d2,f9⟩:=SV.shape c8.sv m om om
 have f8: ∀i,i<m-> ∃vx,(∀h',Fr j h'->h'.cell f6 (d1+i)=some vx)/\SI j vx (zi (L.getD i [])):=λi hi=>by
  obtain⟨v,J,d3⟩:=fW.at c3 (i:=i) om;exact⟨v,λh' f=>by rw[f.cell (d2 om),f9 i om,J],d3.si⟩
 have hK: ∀i,i<m->isKey .str (.str (L.getD i []))=true:=λi hi=>xY (U i hi).1 (U i hi).2
 refine bJ (λvs F=>(∃g:Nat->V,vs= [g 0,.ptr A 0,.nilp,aC 0,vL,g 5,.ptr (X+5) 0,g 7,g 8,g 9,g 10,g 11,g 12,g 13,g 14,g 15,g 16,g 17,g 18,g 19])/\F.get (X+3)=some (.wmap .str (Ie L m))/\Fx (· =X+3) h3 F) ?_ ?_
 ·refine aH (λk' vs F=> ∃(i:Nat),(∃g:Nat->V,vs= [g 0,.ptr A 0,.nilp,aC 0,vL,g 5,.ptr (X+5) 0,g 7,g 8,g 9,g 10,g 11,vL,aC m,aC i,g 15,g 16,g 17,g 18,g 19])/\i<=m/\F.get (X+3)=some (.wmap .str (Ie L i))/\Fx (· =X+3) h3 F/\k'=m-i) m
   ⟨0,aB rfl,iJ _,gM,Fx.refl _ h3,rfl⟩ ?_
  rintro k' b4 h4 ⟨i,⟨g,rfl⟩,hi,a8,F4,rfl⟩
  by_cases a0:(i:Int)<(m:Int)
  case neg=>
   have d4:=bH a0;obtain rfl:i=m:=om
   simp(disch:=omega)only[go_sem,d4];exact⟨aB rfl,a8,F4⟩
  have d4:=oQ a0
  have s:i<m:=om
  have b1:Fr j h4:=⟨by have:=F4.next;omega,λq hq=>by rw[F4.get q om om];exact f3.get q hq⟩
  have b5:h4.get (X+5)=aZ [aC n,l,y,.mp (X+3),.aE]:=by rw[F4.get _ om om];exact gB
  obtain⟨vx,cx,sx⟩:=f8 i s
  have c9:h4.cell (X+5) 3=some (.mp (X+3)):=by rw[H.aF b5];rfl
  simp(disch:=omega)only[go_sem,d4,d6.ixa,cx h4 b1,c9]
  refine (Me vx (L.getD i []) _ (U i s).1 (U i s).2 (sx.mono (b1.trans ((Fr.refl h4).bA om)))).mono ?_
  rintro _ B ⟨rfl,f5⟩
  have a9:Fr h4 B:=((Fr.refl h4).bA om).trans f5
  have n4:=F4.next
  have c0:B.get (X+3)=some (.wmap .str (Ie L i)):=by rw[a9.get _ om];exact a8
  have e6:B.cell (X+5) 3=some (.mp (X+3)):=by rw[a9.cell om];exact c9
  have pt:=λF=>Xx E.nodup (show i<L.length by omega) (hK i s) F (X+3)
  simp(disch:=omega)only[go_sem,e6,c0,pt]
  rw[eJ i]
  refine⟨by simp [dE],m-(i+1),om,i+1,aB rfl,om,rfl,⟨by have:=a9.next;show h3.next<=B.next;omega,λq J j=>by rw[H.aG _ (λe=>j e),a9.get q om];exact F4.get q J j⟩,rfl⟩
 rintro b4 h4 ⟨⟨g,rfl⟩,a8,F4⟩
 have n4:=F4.next
 have b1:Fr j h4:=⟨om,λq hq=>by rw[F4.get q om om];exact f3.get q hq⟩
 have b5:h4.get (X+5)=aZ [aC n,l,y,.mp (X+3),.aE]:=by rw[F4.get _ om om];exact gB
 have b8:=f2.trans b1
 have rA:=aI (h:=h4) (id:=A) (ro:=false) (by rw[b8.get _ om];exact g1)
 simp(disch:=omega)only[go_sem,rA]
 refine (PY _ n O R G h4 (gc.mono (f1.trans b8)) L hL).mono ?_
 rintro _ B ⟨vl,K,Z,rfl,ik,sl,al,f5⟩
 have lk:=aM.length al
 have kl:K.length<=5040:=mT (List.Nodup.length_le_of_subset ik.nd (l₂:=List.range L.length) λx hx=>Gu.2 (ik.lt hx)) (by rw[NM];omega)
 have e9:bT vl=some (aC (K.length:Int)):=by unfold bT;rw[SV.len sl (n:=K.length) (by rw[sU,lk]) om];rfl
 have n5:=f5.next
 have b6:B.get (X+5)=aZ [aC n,l,y,.mp (X+3),.aE]:=by rw[f5.get _ om];exact b5
 obtain⟨a7,UY,e3,c4,a6⟩:=SV.shape sl K.length (by rw[sU,lk]) om
 have b0:=b8.trans f5
 obtain⟨nO,nR⟩:(∀k z,l≠ .int k z)/\ ∀k z,y≠ .int k z:=by
  obtain⟨_,_,_,_,ev,sO,_,_,sR,_,_⟩:=gc.cw;simp only[V.agg.injEq,List.cons.injEq,true_and,and_true] at ev;rw[←ev.1] at sO;rw[←ev.2] at sR;refine⟨λk z e=>?_,λk z e=>?_⟩
  ·rw[e] at sO
   rcases sO with ⟨h|⟨_,h⟩,_⟩|⟨_,_,_,_,_,_,h,_⟩<;>cases h
  ·rw[e] at sR
   rcases sR with ⟨h|⟨_,h⟩,_⟩|⟨_,_,_,_,_,_,h,_⟩<;>cases h
 simp(disch:=omega)only[go_sem,e9]
 refine aH (λk' vs F=> ∃(i:Nat) (vr:V) (wr:List V),(∃g:Nat->V,vs= [g 0,g 1,g 2,aC 0,g 4,g 5,.ptr (X+5) 0,g 7,g 8,g 9,g 10,g 11,g 12,g 13,g 14,g 15,vl,aC (K.length:Int),aC i,g 19])/\i<=K.length/\F.get (X+5)=aZ [aC n,l,y,.mp (X+3),vr]/\cY F vr 1 wr B.next/\aM (λv r=>SI B v (zi (L.getD r []))) wr (K.take i)/\Fx (· =X+5) B F/\k'=K.length-i) K.length
  ⟨0,.aE, [],aB rfl,iJ _,b6,cY.aE _ _ _,trivial,Fx.refl _ B,rfl⟩ ?_
 rintro k' b4 h6 ⟨i,vr,wr,⟨g,rfl⟩,hi,b3,ow,aw,F6,rfl⟩
 have n6:=F6.next
 by_cases a0:(i:Int)<(K.length:Int)
 case neg=>
  have d4:=bH a0;obtain rfl:i=K.length:=om
  have e5:Fr h h6:=⟨by have:=f1.next;have:=b0.next;omega,λq hq=>by rw[F6.get q (by have:=b0.next;omega) (by have:=f2.next;omega),b0.get q om];exact f1.get q hq⟩
  have e0: ∀q,q<B.next->q≠X+5->h6.get q=B.get q:=λq J j=>F6.get q J j
  simp(disch:=omega)only[go_sem,d4];rw[List.take_length] at aw;have c0:B.get (X+3)=some (.wmap .str (Ie L L.length)):=by rw[f5.get _ om,a8,hm]
  have Lp: ∀r∈K,zi (L.getD r [])≠ []:=λr hr e=>by
   have P:=lY hG E (ik.lt hr);have:=congrArg List.length e;rw[aQ,P.len] at this;exact absurd this (by show n≠0;omega)
  have f0:SP h6 vr (K.map λr=>L.getD r []):=by
   refine fW.KI (W:=λ_=>False) ow.sv (aM.mQ (by rw[jV];exact aM.length aw) λt J j=>?_);rw[jV] at j;rw[List.getElem_map];exact⟨SI.zC (aM.get aw t J j) (Lp _ (zG _)) b6 b3 (nO _) (nR _) (λ_ e=>(by cases e)) (λ_ e=>(by cases e)) F6,Bc _⟩
  have e4:GC (λ_=>False) h6 (.agg [aC n,l,y]) n O R G:=by
   refine (((gc.mono f1).Fo (W':=λq=>q=X+5) λq hq h=>?_).mono b0).go (W':=λ_=>False) (h':=h6) F6 λq _ h=>h.elim
   have:=f2.next;omega
  exact⟨X+5,L,K,rfl,⟨⟨l,y,X+3,vr,b3,by rw[e0 _ om om];exact c0,e4,f0,om⟩,hL,ik,om⟩,e5⟩
 have d4:=oQ a0
 have s:i<K.length:=om
 have b7:i<Z.length:=om
 have d8:a7≠X+5:=λe=>by
  obtain⟨_,c1,_⟩:=Ye b7;have c2:=a6 (i*3+1) (by rw[sU];omega);rw[c1,e,H.aF b6] at c2
  match ho:UY+(i*3+1),c2 with
  |0,_=>omega
  |1,c2=>exact nO _ _ (Option.some.inj c2)
  |2,c2=>exact nR _ _ (Option.some.inj c2)
  |3,c2=>cases c2
  |4,c2=>cases c2
  |k+5,c2=>cases c2
 obtain⟨q1,q2,q3⟩:=Ye b7
 have r5:B.row a7 (UY+i*3) 3=some [Z[i].rep,aC (Z[i].ord:Int),aC (Z[i].size:Int)]:=by
  have ll:=sU Z;refine akP ((a6 (i*3) om).trans q1) ?_ ?_
  ·have:=(a6 (i*3+1) om).trans q2
   rwa [←Nat.add_assoc] at this
  ·have:=(a6 (i*3+2) om).trans q3
   rwa [←Nat.add_assoc] at this
 have r6:h6.row a7 (UY+i*3) 3=some [Z[i].rep,aC (Z[i].ord:Int),aC (Z[i].size:Int)]:=by
  rw[←r5];unfold H.row;rw[F6.get a7 (c4 om) d8]
 have kr:=(aM.get al i b7 s).rep
 have N:=Z[i].hrep
 generalize Z[i].rep=rp at r6 kr N
 generalize ((Z[i].ord:Nat):Int)=a1 at r6
 generalize ((Z[i].size:Nat):Int)=a2 at r6
 obtain⟨D,hD⟩:=exI h6.next
 obtain⟨h7,e7,g0,g7,o7,f7⟩:=dF hD [.aE,aC 0,aC 0]
 obtain⟨Q,e8,n8,g8,o8⟩:=pJ h7 D [rp,aC a1,aC a2]
 have d9:Q.get (X+5)=aZ [aC n,l,y,.mp (X+3),vr]:=by rw[o8 _ om,o7 _ om];exact b3
 simp(disch:=omega)only[go_sem,d4,e3.ixa,r6,hD,e7,bW h7 D 0 (v:=rp) (u:= aC a1) (w:= aC a2) N.2.1 rfl rfl,g7,cF,e8,H.aF d9,H.aF g8,cT (H.mk Q.tr (Q.next+7)) (z:= .aE) N.1 N.2.1]
 obtain⟨h9,a3⟩: ∃h9:H,h9=H.mk ((H.mk Q.tr (Q.next+7)).new (Ob.cells false [rp])).tr (Q.next+12):=⟨_,rfl⟩
 rw[←a3]
 have g9:h9.get (Q.next+7)=aZ [rp]:=by rw[a3];exact H.aL (H.mk Q.tr (Q.next+7)) _
 have n9:h9.next=Q.next+12:=by rw[a3]
 have o9: ∀k,k≠Q.next+7->h9.get k=Q.get k:=λk hk=>by rw[a3];exact H.bG (H.mk Q.tr (Q.next+7)) hk _
 clear a3
 have b9: ∀k,k<h6.next->h9.get k=h6.get k:=λk hk=>by rw[o9 k om,o8 k om,o7 k om]
 have lw:=aM.length aw
 rw[Fj,Nat.min_eq_left om] at lw
 obtain⟨c6,d5,b2⟩:=(ow.mono (h':=h9) om λq o m c e _ J=>b9 q J).push (bytes:=24) (SV.one om g9 (.kn 1)) (n:=i) (m:=1) om rfl om om om
 have g4:=b2.next
 have d0: ∀k,k<B.next->dL vr k:=λk hk id o m c e e2=>by have:=(ow.in _ _ _ _ e).2.1;omega
 have c5:c6.get (X+5)=aZ [aC n,l,y,.mp (X+3),vr]:=by rw[b2.old _ om (d0 _ om),b9 _ om];exact b3
 have pt: ∀(F:H) (x:V),dX (aZ [aC n,l,y,.mp (X+3),vr]) F (X+5) 4 [x]=some (F.set (X+5) (aZ [aC n,l,y,.mp (X+3),x])):=λF x=>bN (by simp) F _ x
 simp(disch:=omega)only[go_sem,d5,c5,pt]
 rw[eJ i]
 refine⟨K.length-(i+1),om,i+1,_,_,aB rfl,om,rfl,(b2.own om rfl om).mono (fM _) λq o m c e _ J=>H.aG _ (by cases e;omega) _,?_,⟨by show B.next<=c6.next;omega,λq J j=>?_⟩,rfl⟩
 ·rw[cE 0 s]
  exact aM.append aw ⟨by rw[←rN (d:=0) s];exact kr,trivial⟩
 ·rw[H.aG _ j,b2.old q om (d0 q J),b9 q om]
  exact F6.get q J j
section
variable {a b c d:V}
structure Rk (L:LN)(Gd:List Nat->Prop)(r:List Nat):Prop where
 asc:r.Pairwise (· < ·)
 mem: ∀i,i∈r↔i<L.length/\Gd (L.getD i [])
theorem kL (h:H)(id off:Nat)(j:a.one=true)(f:b.one=true)(k:c.one=true)(i:d.one=true):Wj h 4 (.ptr id off) (.agg [a,b,c,d])=dX (h.get id) h id off [a,b,c,d]:=Cd h id off 4 _ rfl (by simp [j,f,k,i])
theorem jS {x y z t:V}(h:H)(id:Nat):dX (some (.cells false [x,y,z,t])) h id 0 [a,b,c,d]=some (h.set id (some (.cells false [a,b,c,d]))):=by
 simp [dX,putAt]
theorem gU {h:H}{id:Nat}{ro:Bool}(f:h.get id=some (.cells ro [a,b,c,d])):h.row id 0 4=some [a,b,c,d]:=by
 simp [H.row,f,sub]
theorem acC (h:a.one=true)(f:b.one=true)(i:c.one=true):rO [aC 0,.aE,.aE,.aE] [(0,3,.agg [a,b,c])]=some (.agg [a,b,c,.aE]):=by
 simp [rO,iS,putAt,h,f,i,show (V.agg [a,b,c]).cells= [a,b,c] from rfl]
theorem ahH {G n:List Nat->Prop}{L l:LN}(t:dW G L)(E:dW n l)(le: ∀x,n x->G x){f:List Int}(p:f.Perm (zi (l.map λx=>L.idxOf x)))(s:f.Pairwise (· <= ·)): ∃r,f=zi r/\Rk L n r:=by
 have j: ∀x∈l,x∈L:=λx m=>(t.mem x).2 (le x ((E.mem x).1 m))
 have e:zi (f.map Int.toNat)=f:=by
  unfold zi;rw[List.map_map];refine (Vy λz y=>?_).trans (List.map_id _);have:=p.mem_iff.1 y;unfold zi at this;obtain⟨k,_,rfl⟩:=uF.1 this
  rfl
 have nd:(l.map λx=>L.idxOf x).Nodup:=by
  refine List.pairwise_map.2 (List.Pairwise.imp_of_mem (λ{a b} B w ne e=>ne ?_) E.nodup);have F:=List.getElem_idxOf (List.idxOf_lt_length_of_mem (j a B));have v:=List.getElem_idxOf (List.idxOf_lt_length_of_mem (j b w));rw[←F,←v];congr 1
 have u:(f.map Int.toNat).Perm (l.map λx=>L.idxOf x):=by
  have:=p.map Int.toNat;refine this.trans (List.Perm.of_eq ?_);unfold zi;rw[List.map_map];exact (Vy λz _=>rfl).trans (List.map_id _)
 refine⟨_,e.symm,?_,λi=>?_⟩
 ·have o:=u.nodup_iff.2 nd
  have A:(f.map Int.toNat).Pairwise (· <= ·):=List.pairwise_map.2 (s.imp λh=>Int.toNat_le_toNat h);exact (List.pairwise_and_iff.2 ⟨A,o⟩).imp λh=>Nat.lt_of_le_of_ne h.1 h.2
 ·rw[u.mem_iff,uF]
  constructor
  ·rintro⟨x,m,rfl⟩
   have q:=List.idxOf_lt_length_of_mem (j x m);refine⟨q,?_⟩;rw[List.getD,dD q,Option.getD_some,List.getElem_idxOf q];exact (E.mem x).1 m
  ·rintro⟨hi,hg⟩
   refine⟨_,(E.mem _).2 hg,?_⟩;rw[List.getD,dD hi,Option.getD_some];exact t.nodup.idxOf_getElem i hi
theorem UC {W:Nat->Prop}(T0:Nat)(vd:V)(n:Nat)(O O':LN)(R R':jI)(G Gd:List Nat->Prop)(L:LN)(K:List Nat)(h:H)(zC:WM n O R G L K h T0)(gd:GC W h vd n O' R' Gd)(le: ∀x,Gd x->G x):
  Ev T 102 [.ptr T0 0,vd] h (λv h'=> ∃vO vR vr r,vd= .agg [aC n,vO,vR]/\v= .agg [aC n,vO,vR,vr]/\SI h' vr (zi r)/\Rk L Gd r/\Mq (λq=>q<h.next) vr/\Fr h h'):=by
 obtain⟨vO,vR,rfl,F,B⟩:=gd.shape
 obtain⟨lO,lR,M,lr,gT,gM,gc,_,nM⟩:=zC.ex
 refine cV sE rfl ?_
 obtain⟨E0,e3⟩:=dM gc.dN gc.isc
 rw[zC.hL] at E0
 obtain⟨E,ll⟩:=dM gd.dN gd.isc
 have e0:=jH gd
 have n7:=gd.n7
 obtain⟨J,b3⟩:=exI (cZ O' R' n 0 (bL n))
 rw[b3] at E ll
 have nT:=zC.nx
 obtain⟨A,hA⟩:=exI h.next
 obtain⟨h1,e1,n1,g1,o1,f1⟩:=dF hA [aC n,vO,vR]
 obtain⟨h2,e2,n2,g2,o2,f2⟩:=dF n1 [aC 0,.aE,.aE,.aE]
 have F2:=f1.trans f2
 have b2:h2.get A=some (.cells false [aC n,vO,vR]):=by rw[o2 A om];exact g1
 simp(disch:=omega)only[go_sem,sE,aD,bM h (v:= aC n) (u:=vO) (w:=vR) rfl F B,hA,e1,n1,e2,aI b2]
 refine (Wc _ n O' R' Gd h2 (gd.mono F2)).mono ?_
 rw[b3]
 rintro _ h3 ⟨vL,rfl,nw⟩
 obtain⟨wL,W,b7,b1,d9,W1⟩:=nw.ex
 have b6:=aM.length b1
 have d2:=cY.lens b7 b6
 have f3:=nw.fr
 have n3:=f3.next
 have d5:h3.get A=some (.cells false [aC n,vO,vR]):=by rw[f3.get A om];exact b2
 obtain⟨D,hD⟩:=exI h3.next
 obtain⟨h4,e4,n4,g4,o4,f4⟩:=dF hD [aC 0,.aE,.aE,.aE]
 obtain⟨Y,e5,n5,g5,o5⟩:=pJ h4 D [aC n,vO,vR,.aE]
 simp(disch:=omega)only[go_sem,aI d5,acC (a:= aC n) (b:=vO) (c:=vR) rfl F B,hD,e4,kL h4 D 0 (a:= aC n) (b:=vO) (c:=vR) (d:= .aE) rfl F B rfl,g4,jS,e5,d2]
 obtain⟨m,hm⟩:=exI J.length
 rw[hm] at b6
 have a4:Fr h3 Y:=⟨om,λq hq=>by rw[o5 q om,o4 q om]⟩
 obtain⟨d3,b9,c5,c0,d7⟩:=SV.shape b7.sv m om om
 have d6: ∀i,i<m-> ∃vx,(∀h',Fr h3 h'->h'.cell d3 (b9+i)=some vx)/\SI h3 vx (zi (J.getD i [])):=λi hi=>by
  obtain⟨v,h1,c2⟩:=fW.at b1 (i:=i) om;exact⟨v,λh' f=>by rw[f.cell (c0 om),d7 i om,h1],c2.si⟩
 have y: ∀i,i<m->(J.getD i []).length<=1000/\ ∀x∈J.getD i [],x<256:=λi hi=>by
  have P:=lY gd.dN E (show i<J.length by omega);exact⟨by rw[P.len];omega,λx hx=>by have:=P.lt x hx;omega⟩
 have d1: ∀x∈J,x∈L:=λx hx=>(E0.mem x).2 (le x ((E.mem x).1 hx))
 have a7:Fr h h3:=F2.trans f3
 obtain⟨Z,a1⟩: ∃Z:Nat->List Int,Z=λi=>zi ((J.take i).map λx=>L.idxOf x):=⟨_,rfl⟩
 have rl: ∀i,i<=m->(Z i).length=i:=λi hi=>by rw[a1];simp [aQ];omega
 refine bJ (λvs t=> ∃S,(∃g:Nat->V,vs= [g 0,g 1,g 2,.ptr (A+1) 0,g 4,.ptr D 0,g 6,g 7,g 8,g 9,g 10])/\t.get D=some (.cells false [aC n,vO,vR,.sl S 0 m (.un 1)])/\t.get S=some (.cells false (ints (Z m)))/\S<t.next/\Y.next<=S/\Fx (· =D) Y t) ?_ ?_
 ·refine aH (λk' vs t=> ∃(i:Nat) (vr:V),(∃g:Nat->V,vs= [.ptr T0 0,g 1,g 2,.ptr (A+1) 0,g 4,.ptr D 0,g 6,vL,aC m,aC i,g 10])/\i<=m/\t.get D=some (.cells false [aC n,vO,vR,vr])/\cY t vr 1 (ints (Z i)) Y.next/\(0<i-> ∃S,vr= .sl S 0 i (.un 1)/\t.get S=some (.cells false (ints (Z i)))/\S<t.next/\Y.next<=S)/\Fx (· =D) Y t/\k'=m-i) m
   ⟨0,.aE,by rw[hm];exact aB rfl,iJ _,g5,by rw[a1];exact cY.aE _ _ _,λh=>absurd h om,Fx.refl _ Y,rfl⟩ ?_
  rintro k' b0 l ⟨i,vr,⟨g,rfl⟩,hi,s,ow,hS,F6,rfl⟩
  have n6:=F6.next
  by_cases a8:(i:Int)<(m:Int)
  case neg=>
   have d4:=bH a8;obtain rfl:i=m:=om
   have mp:0<i:=by
    have:=HJ ((E.mem _).2 gd.dN.one);omega
   obtain⟨S,rfl,gS,s1,s2⟩:=hS mp;simp(disch:=omega)only[go_sem,d4];exact⟨S,aB rfl,s,gS,s1,s2,F6⟩
  have d4:=oQ a8
  have U:i<m:=om
  have a6:Fr h3 l:=⟨om,λq hq=>by rw[F6.get q om om];exact a4.get q hq⟩
  have a3:Fr h l:=a7.trans a6
  obtain⟨vx,cx,sx⟩:=d6 i U
  have b5:l.get T0=some (.cells false [aC n,lO,lR,.mp M,lr]):=by rw[a3.get T0 nT];exact gT
  have d0:dE vr vr=true:=ow.sv.dE
  obtain⟨j,hj⟩:=exI (L.idxOf (J.getD i []))
  have xL:J.getD i []∈L:=d1 _ (bD om)
  have jl:j<L.length:=hj▸List.idxOf_lt_length_of_mem xL
  have lj:L.getD j []=J.getD i []:=by
   rw[List.getD,dD jl,Option.getD_some];subst hj;exact List.getElem_idxOf _
  have c6:isKey .str (.str (J.getD i []))=true:=xY (y i U).1 (y i U).2
  have lk:=λz=>Np E0.nodup jl (by rw[lj];exact c6) z
  rw[lj] at lk
  have fb:Fr l (H.mk l.tr (l.next+13)):=(Fr.refl l).bA om
  simp(disch:=omega)only[go_sem,d4,c5.ixa,cx l a6,H.aF s,H.aF b5]
  refine (Me vx (J.getD i []) _ (y i U).1 (y i U).2 (sx.mono (a6.trans fb))).mono ?_
  rintro _ p ⟨rfl,f7⟩
  have a0:=fb.trans f7
  have c1:l.next+13<=p.next:=f7.next
  have a2:p.get D=some (.cells false [aC n,vO,vR,vr]):=by rw[a0.get D om];exact s
  have c3:p.get T0=some (.cells false [aC n,lO,lR,.mp M,lr]):=by rw[a0.get T0 (by have:=a3.next;omega)];exact b5
  have c7:p.get M=some (.wmap .str (Ie L L.length)):=by rw[(a3.trans a0).get M nM];exact gM
  simp(disch:=omega)only[go_sem,H.aF a2,H.aF c3,d0,c7,lk,show dE (.mp M) (.mp M)=true from by simp [dE],cT (H.mk p.tr (l.next+9)) (z:= aC 0) (v:= aC j) rfl rfl]
  obtain⟨h8,N⟩: ∃h8:H,h8=H.mk ((H.mk p.tr (l.next+9)).new (Ob.cells false [aC j])).tr p.next:=⟨_,rfl⟩
  rw[←N]
  have g8:h8.get (l.next+9)=some (.cells false [aC j]):=by rw[N];exact H.aL (H.mk p.tr (l.next+9)) _
  have n8:h8.next=p.next:=by rw[N]
  have o8: ∀k,k≠l.next+9->h8.get k=p.get k:=λk hk=>by rw[N];exact H.bG (H.mk p.tr (l.next+9)) hk _
  clear N
  have a5: ∀k,k<l.next->h8.get k=l.get k:=λk hk=>by rw[o8 k om,a0.get k hk]
  have li:=rl i om
  obtain⟨h9,a9,p9⟩:=(ow.mono (h':=h8) om λq o m c e _ h1=>a5 q h1).push (bytes:=8) (SV.one om g8 (.kn 1)) (n:=i) (m:=1) (by rw[fT];omega) rfl om om om
  have n9:=p9.next
  have b8: ∀k,k<Y.next->dL vr k:=λk hk id o m c e e2=>by have:=(ow.in _ _ _ _ e).2.1;omega
  have c4:h9.get D=some (.cells false [aC n,vO,vR,vr]):=by rw[p9.old _ om (b8 _ om),a5 _ om];exact s
  have pt: ∀(t:H) (x:V),dX (some (.cells false [aC n,vO,vR,vr])) t D 3 [x]=some (t.set D (some (.cells false [aC n,vO,vR,x]))):=λt x=>bN (by simp) t _ x
  simp(disch:=omega)only[go_sem,a9,c4,pt]
  rw[eJ i]
  have er:ints (Z i)++ [aC j]=ints (Z (i+1)):=by
   rw[a1];simp only;rw[cE [] om,List.map_append,List.map_singleton,hj];simp [zi,ints]
  have pg:=p9.get
  have po:=p9.own (b:=Y.next) (by rw[fT];omega) rfl om
  rw[er] at pg po
  refine⟨m-(i+1),om,i+1,_,aB rfl,om,rfl,po.mono (fM _) λq o m c e _ h1=>H.aG _ (by cases e;omega) _,λ_=>⟨_,rfl,(H.aG _ om _).trans pg,by show h8.next<h9.next;omega,om⟩,⟨by show Y.next<=h9.next;omega,λq h1 h2=>?_⟩,rfl⟩
  rw[H.aG _ h2,p9.old q om (b8 q h1),a5 q om]
  exact F6.get q h1 h2
 rintro b0 l ⟨S,⟨g,rfl⟩,s,gS,s1,s2,F6⟩
 have n6:=F6.next
 simp(disch:=omega)only[go_sem,H.aF s]
 have b4:=rl m (fM _)
 refine Ev.mono (Q:=λ_ h'=> ∃l',h'.get S=some (.cells false (ints l'))/\l'.Perm (Z m)/\l'.Pairwise (· <= ·)/\Fx (· =S) l h') (by have:=Lm l S (Z m) (.un 1) om gS s1;rwa [b4] at this) ?_
 rintro _ p ⟨l',d8,pm,so,F7⟩
 have a2:p.get D=some (.cells false [aC n,vO,vR,.sl S 0 m (.un 1)]):=by rw[F7.get D om om];exact s
 obtain⟨r,rfl,rk⟩:=ahH E0 E le (by rw[a1] at pm;simp only[←hm,List.take_length] at pm;exact pm) so
 have c9:(zi r).length=m:=by rw[pm.length_eq,b4]
 have c1:=F7.next
 have c8:p.get (A+1)=some (.cells false [aC 0,.aE,.aE,.aE]):=by rw[F7.get _ om om,F6.get _ om om,a4.get _ om,f3.get _ om];exact g2
 obtain⟨h8,e8,n8,g8,o8⟩:=pJ p (A+1) [aC n,vO,vR,.sl S 0 m (.un 1)]
 simp(disch:=omega)only[go_sem,gU a2,kL p (A+1) 0 (a:= aC n) (b:=vO) (c:=vR) (d:= .sl S 0 m (.un 1)) rfl F B rfl,c8,jS,e8,gU g8]
 refine⟨vO,vR,_,r,rfl,rfl,SV.all (by rw[fT,c9,uW]) om (by rw[o8 S om];exact d8) _,rk,λ(e:S<A)=>by have:=a7.next;omega,⟨om,λq hq=>?_⟩⟩
 rw[o8 q om,F7.get q om om,F6.get q om om,a4.get q om]
 exact a7.get q hq
end
set_option maxRecDepth 100000
theorem dbl {n:Nat}{G K:List Nat->Prop}{L M:LN}(d:iX n G)(j:iX n K)(E:dW G L)(F:dW K M)(h: ∀y,G y->K y){x:List Nat}(k:K x)(nx: ¬G x):2*L.length<=M.length:=by
 have X:=j.cU k
 have nd:(L++L.map (aX x)).Nodup:=by
  refine List.nodup_append.2 ⟨E.nodup,?_,λa i b f e=>?_⟩
  ·refine List.pairwise_map.2 (List.Pairwise.imp_of_mem (λ{a b} i f ne e=>ne ?_) E.nodup)
   exact zN (d.cU ((E.mem a).1 i)) (d.cU ((E.mem b).1 f)) X e
  ·obtain⟨y,c,rfl⟩:=uF.1 f
   have Y:=(E.mem y).1 c;have A:=(E.mem a).1 i;rw[e] at A;have:=d.mul A (d.inv Y);rw[aV X (d.cU Y) (d.cU Y).inv,fC (d.cU Y),bZ X] at this;exact nx this
 have:=List.Nodup.length_le_of_subset nd (l₂:=M) λy c=>(F.mem y).2 (by
  rcases pH.1 c with c|c
  ·exact h y ((E.mem y).1 c)
  ·obtain⟨z,l,rfl⟩:=uF.1 c
   exact j.mul k (h z ((E.mem z).1 l)))
 rw[jZ,jV] at this;omega
def Lb (n:Nat)(G K:List Nat->Prop)(x:List Nat):List Nat->Prop:=NC n (λa=>K a∨a=x) G
def RG (L:LN)(r:List Nat)(x:List Nat):Prop:= ∃i,i∈r/\L.getD i []=x
section
variable {n:Nat} {G K K':List Nat->Prop} {O O':LN} {R R':jI} {x y:List Nat} {L:LN} {r r':List Nat}
theorem Lb.dN (c:iX n G)(le: ∀x,K x->G x)(d:G x):iX n (Lb n G K x):=
 NC.dN (λa h=>c.cU (h.elim (le a) λe=>by rw[e];exact d)) λb h=>c.cU h
theorem Lb.le (c:iX n G)(le: ∀x,K x->G x)(f:G x)(h:Lb n G K x y):G y:=
 NC.le h c (λa h=>h.elim (le a) λe=>by rw[e];exact f) λy b i d=>c.mul (c.mul (c.inv d) i) d
theorem abT (j:iX n G)(c:bC n G O R)(o:iX n K)(d:bC n K O' R')(le: ∀x,K x->G x)(m:G x)(y:List Nat):NC n (· ∈bQ R'++ [x]) (· ∈bQ R) y↔Lb n G K x y:=by
 have s: ∀a,a∈bQ R'++ [x]->bE n a:=λa k=>(pH.1 k).elim (λh=>o.cU (bV d h)) λh=>by rw[List.mem_singleton.1 h];exact j.cU m
 have p: ∀b,b∈bQ R->bE n b:=λb h=>j.cU (bV c h)
 constructor
 ·intro h
  exact NC.le h (Lb.dN j le m) (λa k=>(pH.1 k).elim (λh=>NC.of (.inl (bV d h))) λh=>NC.of (.inr (List.mem_singleton.1 h))) λy b i f=>NC.cj i (bV c f)
 ·intro h
  have l:=NC.dN s p;refine NC.le h l ?_ λy b i f=>Xw l p (λy b i f=>NC.cj i f) (nJ j c f) y i
  rintro a (h|rfl)
  ·exact bX.le l (λg q=>NC.of (pH.2 (.inl q))) (nJ o d h)
  ·exact NC.of (pH.2 (.inr (List.mem_singleton.2 rfl)))
theorem Lb.iff (e: ∀x,K x↔K' x)(y:List Nat):Lb n G K x y↔Lb n G K' x y:=by
 have:K=K':=funext λx=>propext (e x)
 rw[this]
theorem Rk.uniq (a:Rk L K r)(b:Rk L K r'):r=r':=VD a.asc b.asc λi=>(a.mem i).trans (b.mem i).symm
theorem Rk.iff (E:dW G L)(le: ∀x,K x->G x)(a:Rk L K r)(x:List Nat):K x↔RG L r x:=by
 constructor
 ·intro h
  obtain⟨i,hi,rfl⟩:=zF.1 ((E.mem x).2 (le x h));have e:L.getD i []=L[i]:=by rw[List.getD,dD hi];rfl
  exact⟨i,(a.mem i).2 ⟨hi,by rw[e];exact h⟩,e⟩
 ·rintro⟨i,hi,rfl⟩
  exact ((a.mem i).1 hi).2
theorem Rk.self (a:Rk L K r)(E:dW G L):Rk L (RG L r) r:=⟨a.asc,λi=>⟨λh=>⟨((a.mem i).1 h).1,i,h,rfl⟩,λ⟨hi,j,hj,e⟩=>by
 have b:=((a.mem j).1 hj).1;rw[List.getD,dD b,List.getD,dD hi] at e;have:j=i:=(List.getElem_inj E.nodup).1 e
 rw[←this];exact hj⟩⟩
theorem Rk.len (c:iX n K)(d:bC n K O' R')(E:dW G L)(le: ∀x,K x->G x)(a:Rk L K r):r.length=kI O' n 0:=by
 obtain⟨F,e⟩:=dM c d;rw[←e]
 have p:(r.map λi=>L.getD i []).Perm (cZ O' R' n 0 (bL n)):=by
  refine (List.perm_ext_iff_of_nodup ?_ F.nodup).2 λx=>?_
  ·refine List.pairwise_map.2 (List.Pairwise.imp_of_mem (λ{i j} hi f (ne:i<j) e=>?_) a.asc)
   have h:=((a.mem i).1 hi).1;have b:=((a.mem j).1 f).1;rw[List.getD,dD h,List.getD,dD b] at e;have:=(List.getElem_inj E.nodup).1 e;omega
  ·rw[F.mem,a.iff E le,uF]
   rfl
 have:=p.length_eq;rwa [jV] at this
end
open Classical in
noncomputable def Pz (L:LN)(K:List Nat->Prop):List Nat:=(List.range L.length).filter λi=>decide (K (L.getD i []))
open Classical in
theorem Dy (L:LN)(K:List Nat->Prop):Rk L K (Pz L K):=⟨List.pairwise_lt_range.filter _,λi=>by
 unfold Pz
 rw[CH,Gu,Qf]⟩
noncomputable def yR (n:Nat)(G:List Nat->Prop)(L:LN)(r:List Nat)(i:Nat):List Nat:=Pz L (Lb n G (RG L r) (L.getD i []))
def tF (l:LN)(a:List Nat):LN:=if a∈l then l else l++ [a]
noncomputable def XC (n:Nat)(G:List Nat->Prop)(L:LN)(r:List Nat)(K:List Nat):LN:=K.foldl (λl i=>if i∈r then l else tF l (yR n G L r i)) []
def Yc (l:LN)(a:List Nat):Bool:=l.any λb=>decide (b.length<a.length)&&b.all λi=>decide (i∈a)
def IN (l:LN):LN:=l.filter λa=>!Yc l a
def kP:List Nat->List Nat->Bool
 | [], []=>false
 | [],_::_=>true
 |_::_, []=>false
 |a::l,b::m=>if a=b then kP l m else decide (a<b)
def NH:LN->List Nat
 | []=> []
 |a::l=>l.foldl (λm x=>if kP x m then x else m) a
noncomputable def Pw (n:Nat)(G:List Nat->Prop)(L:LN)(K:List Nat)(r:List Nat):List Nat:=NH (IN (XC n G L r K))
theorem wF {l:LN}{a x:List Nat}:x∈tF l a↔x∈l∨x=a:=by
 unfold tF;split
 ·rename_i h
  exact⟨.inl,λk=>k.elim id λe=>by rw[e];exact h⟩
 ·simp
theorem Ft {n:Nat}{G:List Nat->Prop}{L:LN}{r K:List Nat}{x:List Nat}:x∈XC n G L r K↔ ∃i,i∈K/\i∉r/\x=yR n G L r i:=by
 have d: ∀(K:List Nat) (l:LN),x∈K.foldl (λl i=>if i∈r then l else tF l (yR n G L r i)) l↔x∈l∨ ∃i,i∈K/\i∉r/\x=yR n G L r i:=by
  intro K
  induction K with
  |nil=>intro l;simp
  |cons k K ih=>
   intro l;rw[List.foldl_cons,ih];split
   ·rename_i h
    refine or_congr_right ⟨λ⟨i,a,b,c⟩=>⟨i,Cu _ a,b,c⟩,λ⟨i,a,b,c⟩=>?_⟩;rcases zH.1 a with rfl|a
    ·exact absurd h b
    ·exact⟨i,a,b,c⟩
   ·rename_i h
    rw[wF,or_assoc];refine or_congr_right ⟨?_,λ⟨i,a,b,c⟩=>?_⟩
    ·rintro (e|⟨i,a,b,c⟩)
     ·exact⟨k,Ab,h,e⟩
     ·exact⟨i,Cu _ a,b,c⟩
    ·rcases zH.1 a with rfl|a
     ·exact .inl c
     ·exact .inr ⟨i,a,b,c⟩
 exact (d K []).trans (by simp)
theorem aaS: ∀{l:LN},l≠ []->NH l∈l
 |a::l,_=>by
  have c: ∀(l:LN) (a:List Nat),l.foldl (λm x=>if kP x m then x else m) a=a∨l.foldl (λm x=>if kP x m then x else m) a∈l:=by
   intro l
   induction l with
   |nil=>exact λa=> .inl rfl
   |cons b l ih=>
    intro a;rw[List.foldl_cons];split
    ·exact .inr ((ih b).elim (λe=>by rw[e];exact Ab) (Cu _))
    ·exact (ih a).imp id (Cu _)
  show l.foldl _ a∈_;exact (c l a).elim (λe=>by rw[e];exact Ab) (Cu _)
theorem TM {l:LN}(h:l≠ []):IN l≠ []:=by
 have c: ∀(k:Nat) (a:List Nat),a∈l->a.length<=k->IN l≠ []:=by
  intro k
  induction k with
  |zero=>
   intro a d j e
   have:a∈IN l:=CH.2 ⟨d,by
    rw[Bool.not_eq_true'];refine List.any_eq_false.2 λb f=>?_
    simp;omega⟩
   rw[e] at this;cases this
  |succ k ih=>
   intro a d j
   by_cases h:Yc l a=true
   ·obtain⟨b,f,i⟩:=List.any_eq_true.1 h
    simp only[vN,Qf] at i;exact ih b f om
   ·intro e
    have:a∈IN l:=CH.2 ⟨d,by simp [h]⟩;rw[e] at this;cases this
 cases l with
 |nil=>exact absurd rfl h
 |cons a l=>exact c _ a Ab (fM _)
theorem QQ {W:Nat->Prop}(vc x:V)(n:Nat)(O:LN)(R:jI)(G:List Nat->Prop)(l:LN)(h:H)(c:GC W h vc n O R G)(hl:l.length<=4096)(sl:SP h x l)(hP: ∀g∈l,bE n g):
  Ev T 107 [vc,x] h (λv h'=> ∃vr O2 R2,v= .tup [vr,aC 0]/\GC (λq=>q<h.next) h' vr n O2 R2 (NC n (· ∈l) (· ∈bQ R))/\Fr h h'):=by
 obtain⟨Z,P,rfl,oO,oR⟩:=c.shape
 refine cV uU rfl ?_
 have n0:=c.n0
 have s:=c.n7
 have hG:=c.dN
 obtain⟨B,hB⟩:=exI h.next
 obtain⟨h1,e1,n1,g1,o1,f1⟩:=dF hB [aC n,Z,P]
 obtain⟨j,e2,n2,g2,o2,f2⟩:=dF n1 [aC 0,.aE,.aE]
 have F2:=f1.trans f2
 have r: ∀i,Fr j i->i.get B=aZ [aC n,Z,P]:=λi f=>by rw[f.get B om,o2 B om];exact g1
 have gA: ∀i,Fr j i->i.get (B+1)=aZ [aC 0,.aE,.aE]:=λi f=>by rw[f.get _ om];exact g2
 simp(disch:=omega)only[go_sem,uU,aD,bM h (v:= aC n) (u:=Z) (w:=P) rfl oO oR,hB,e1,n1,e2,aI (r j (Fr.refl _))]
 refine ((c.mono F2).check).mono ?_
 rintro _ h3 ⟨rfl,z⟩
 simp(disch:=omega)only[go_sem]
 refine aW (λY=>(Y rfl).elim) (λ_=>?_)
 simp(disch:=omega)only[go_sem,H.aF (r h3 z)]
 refine (Lo x n l h3 n0 s hl (sl.mono (F2.trans z)) hP).mono ?_
 rintro _ h4 ⟨vm,Om,Rm,rfl,gm,f4⟩
 obtain⟨mO,mR,rfl,K,J⟩:=gm.shape
 obtain⟨M,hM⟩:=exI h4.next
 obtain⟨h5,e5,n5,g5,o5,f5⟩:=dF hM [aC 0,.aE,.aE]
 obtain⟨d,e6,n6,g6,o6⟩:=pJ h5 M [aC n,mO,mR]
 simp(disch:=omega)only[go_sem,hM,e5,bW h5 M 0 (v:= aC n) (u:=mO) (w:=mR) rfl K J,g5,cF,e6]
 refine aW (λY=>(Y rfl).elim) (λ_=>?_)
 have y:Fr h4 d:=⟨om,λq hq=>by rw[o6 q om,o5 q om]⟩
 have b:=z.trans (f4.trans y)
 have fb: ∀k,d.next<=k->Fr d (H.mk d.tr k):=λk hk=>(Fr.refl d).bA hk
 simp(disch:=omega)only[go_sem,H.aF (r d b),aI (r d b)]
 refine (xV _ n O R G h _ c (F2.trans (b.trans (fb _ om)))).mono ?_
 rintro va t ⟨wA,L,pA,f7⟩
 have A:=(fb _ om).trans f7
 have a:=b.trans A
 have cB:okV (t.cell B 0) (aC n)=true:=by rw[H.aF (r t a)];simp [okV,dE]
 simp(disch:=omega)only[go_sem]
 refine⟨cB,?_⟩
 have sA:=qV hG c.isc
 have nn:n*n<=7*7:=Nat.mul_le_mul s s
 have F:SP t va (bQ R):=fW.KI (W:=λ_=>False) L.sv (aM.mono (λ_ _ p=>⟨p.si.mono (F2.trans a),Bc _⟩) pA)
 refine (Qx x va n l (bQ R) t n0 s hP (λg hg=>hG.cU (bV c.isc hg)) om om (sl.mono (F2.trans a)) F).mono ?_
 rintro _ Q ⟨D,rfl,hD,bd,f8⟩
 obtain⟨xO,xR,O2,R2,gD,o⟩:=bd.ex
 obtain⟨_,N,U⟩:=o.one
 have m:=a.trans f8
 obtain⟨h9,e9,n9,g9,o9⟩:=pJ Q (B+1) [aC n,xO,xR]
 simp(disch:=omega)only[go_sem,aI gD,bW Q (B+1) 0 (v:= aC n) (u:=xO) (w:=xR) rfl N U,gA Q m,cF,e9,aI g9]
 have q2:=a.next
 have q8:=f8.next
 refine⟨_,O2,R2,rfl,?_,⟨om,λq hq=>by rw[o9 q om,m.get q om];exact F2.get q hq⟩⟩
 exact o.go ⟨om,λq h1 j=>o9 q λe=>j (.inl om)⟩ λq _ h=> .inl om
structure Nm (W:Nat->Prop)(n:Nat)(L:LN)(h:H)(p:V×V×V)(r:List Nat):Prop where
 ch: ∃O R,GC W h (.agg [aC n,p.1,p.2.1]) n O R (RG L r)
 si:SI h p.2.2 (zi r)
 off:Mq W p.2.2
 rk:Rk L (RG L r) r
abbrev Zw (n:Nat)(p:V×V×V):V:= .agg [aC n,p.1,p.2.1,p.2.2]
section
variable {W W':Nat->Prop} {n:Nat} {L:LN} {h h':H} {p:V×V×V} {r:List Nat}
theorem Nm.go (m:Nm W n L h p r)(f:Fx W h h')(a: ∀q,q<h.next->W' q->W q):Nm W' n L h' p r:=by
 obtain⟨O,R,g⟩:=m.ch;exact⟨⟨O,R,g.go f a⟩,SV.fx m.si m.off f,Mq.Fo m.off m.si a,m.rk⟩
theorem Nm.mono (m:Nm W n L h p r)(f:Fr h h'):Nm W n L h' p r:=m.go (Fx.of f) λ_ _ h=>h
theorem Nm.one (m:Nm W n L h p r):p.1.one=true/\p.2.1.one=true/\p.2.2.one=true:=by
 obtain⟨O,R,g⟩:=m.ch;exact⟨g.one.2.1,g.one.2.2,(SV.cK m.si).2.1⟩
theorem Nm.eq (m:Nm W n L h p r):dE p.1 p.1=true/\dE p.2.1 p.2.1=true/\dE p.2.2 p.2.2=true:=by
 obtain⟨O,R,g⟩:=m.ch;obtain⟨_,_,_,_,e,a,_,_,b,_,_⟩:=g.cw;simp only[V.agg.injEq,List.cons.injEq,and_true,true_and] at e;rw[e.1,e.2];exact⟨SV.dE a,SV.dE b,SV.dE m.si⟩
theorem DL {h h':H}(f:Fr h h'){id off k:Nat}(a:id<h.next):h'.row id off k=h.row id off k:=by
 unfold H.row;rw[f.get id a]
theorem Rk.short (m:Rk L (RG L r) r):r.length<=L.length:=by
 have:=List.Nodup.length_le_of_subset (l₂:=List.range L.length) (m.asc.imp λh=>Nat.ne_of_lt h) λi hi=>Gu.2 ((m.mem i).1 hi).1
 rwa [NM] at this
end
theorem WM.few {n:Nat}{O:LN}{R:jI}{G:List Nat->Prop}{L:LN}{K:List Nat}{h:H}{p:Nat}(l:WM n O R G L K h p):L.length<=5040/\dW G L/\iX n G/\bC n G O R/\1<=n/\n<=7:=by
 obtain⟨i,b,M,c,g,f,a,sp,d⟩:=l.ex;obtain⟨E,e⟩:=dM a.dN a.isc;rw[l.hL] at E e;exact⟨by rw[e];exact jH a,E,a.dN,a.isc,a.n0,a.n7⟩
theorem fZ (h:H){a b c d:V}(j:a.one=true)(f:b.one=true)(k:c.one=true)(i:d.one=true):Cv h (.agg [a,b,c,d])=some (.ptr h.next 0,h.new (.cells false [a,b,c,d])):=tL h _ (by simp [j,f,k,i])
theorem GQ {W:Nat->Prop}(j:Nat)(p:V×V×V)(u:V)(n:Nat)(O:LN)(R:jI)(G:List Nat->Prop)(L:LN)(K r:List Nat)(i:Nat)(h:H)(zC:WM n O R G L K h j)(o:Nm W n L h p r)(hi:i<L.length)(A:SI h u (zi (L.getD i []))):
  Ev T 48 [.ptr j 0,Zw n p,u] h (λv h'=>v= .bool (decide (i∈r))/\Fr h h'):=by
 obtain⟨o1,o2,o3⟩:=o.one
 obtain⟨ll,E,hG,a0,n0,n7⟩:=zC.few
 obtain⟨Z,lR,M,U,gT,gM,gc,_,nM⟩:=zC.ex
 have nT:=zC.nx
 have rl:=o.rk.short
 refine cV qT rfl ?_
 obtain⟨B,J⟩:=exI h.next
 obtain⟨s,e1,n1,Y,q1,m⟩:=dF J [aC n,p.1,p.2.1,p.2.2]
 have P:=lY hG E hi
 have Q:(L.getD i []).length<=1000:=by rw[P.len];omega
 have N: ∀x∈L.getD i [],x<256:=λx A=>by have:=P.lt x A;omega
 have l:s.get j=some (.cells false [aC n,Z,lR,.mp M,U]):=by rw[m.get j nT];exact gT
 simp(disch:=omega)only[go_sem,qT,aD,fZ h (a:= aC n) (b:=p.1) (c:=p.2.1) (d:=p.2.2) rfl o1 o2 o3,J,e1,H.aF Y,H.aF l]
 refine (Me u (L.getD i []) _ Q N (A.mono (m.trans ((Fr.refl s).bA om)))).mono ?_
 rintro _ q ⟨rfl,f2⟩
 have f:=((Fr.refl s).bA (n:=s.next+15) om).trans f2
 have t:q.get B=some (.cells false [aC n,p.1,p.2.1,p.2.2]):=by rw[f.get B om];exact Y
 have y:q.get j=some (.cells false [aC n,Z,lR,.mp M,U]):=by rw[f.get j om];exact l
 have F:q.get M=some (.wmap .str (Ie L L.length)):=by rw[(m.trans f).get M nM];exact gM
 have lk:=λz=>Np E.nodup hi (xY Q N) z
 have w:dE p.2.2 p.2.2=true:=SV.dE o.si
 simp(disch:=omega)only[go_sem,H.aF t,H.aF y,F,lk,w,show dE (.mp M) (.mp M)=true from by simp [dE]]
 refine (Es p.2.2 r i q om o.rk.asc (o.si.mono (m.trans f))).mono ?_
 rintro _ h3 ⟨k,b,rfl,hb,_,f3⟩
 simp(disch:=omega)only[go_sem]
 refine⟨?_,m.trans (f.trans f3)⟩
 congr 1
 exact Py.2 (hb.trans Qf.symm)
theorem EU (t:Nat)(n:Nat)(O:LN)(R:jI)(G:List Nat->Prop)(L:LN)(K:List Nat)(h:H)(zC:WM n O R G L K h t):
  Ev T 47 [.ptr t 0] h (λv h'=> ∃p,v=Zw n p/\Nm (λq=>q<h.next) n L h' p (Pz L λx=>x=bL n)/\Fr h h'):=by
 obtain⟨ll,E,hG,a2,n0,n7⟩:=zC.few
 obtain⟨lO,lR,M,lr,gT,gM,gc,_,nM⟩:=zC.ex
 have nT:=zC.nx
 refine cV nV rfl ?_
 obtain⟨B,hB⟩:=exI h.next
 obtain⟨l,z,n1,g1,q1,Z⟩:=dF hB [aC 0,.aE,.aE,.aE]
 have Q:l.get t=some (.cells false [aC n,lO,lR,.mp M,lr]):=by rw[Z.get t nT];exact gT
 simp(disch:=omega)only[go_sem,nV,aD,hB,z,H.aF Q]
 refine (Lo .aE n [] l n0 n7 (by show 0<=4096;omega) ⟨[],SV.aE l 1,trivial⟩ (λg hg=>by cases hg)).mono ?_
 rintro _ y ⟨vm,Om,Rm,rfl,Y,m⟩
 obtain⟨k,j,rfl,s,o⟩:=Y.shape
 obtain⟨A,hA⟩:=exI y.next
 obtain⟨h3,e3,n3,g3,o3,f3⟩:=dF hA [aC 0,.aE,.aE]
 obtain⟨h4,e4,n4,g4,o4⟩:=pJ h3 A [aC n,k,j]
 have f:Fr y h4:=⟨om,λq hq=>by rw[o4 q om,o3 q om]⟩
 simp(disch:=omega)only[go_sem,hA,e3,bW h3 A 0 (v:= aC n) (u:=k) (w:=j) rfl s o,g3,cF,e4,aI g4]
 have z: ∀x,bX n (· ∈([]:LN)) x↔x=bL n:=λx=>⟨λh=>by
  have e: ∀g,g∈([]:LN)->g=bL n:=λg hg=>by cases hg
  have r:=bX.le (Vu n) e h
  exact r,λh=>by rw[h];exact .one⟩
 have F:=Z.trans (m.trans f)
 refine (UC t _ n O Om R Rm G _ L K h4 (zC.mono F) (((Y.Fo (W':=λ_=>False) λ_ _ h=>h.elim).mono f).congr z) (λx hx=>by rw[hx];exact hG.one)).mono ?_
 rintro _ J ⟨vO,vR,vr,r,e5,rfl,sr,P,a0,N⟩
 obtain⟨rfl,rfl⟩:k=vO/\j=vR:=by simpa using e5
 obtain rfl:=P.uniq (Dy _ _)
 have oR:=(SV.cK sr).2.1
 have gB:J.get B=some (.cells false [aC 0,.aE,.aE,.aE]):=by rw[N.get B (by have:=m.next;omega),f.get B (by have:=m.next;omega),m.get B om];exact g1
 obtain⟨h6,e6,n6,g6,o6⟩:=pJ J B [aC n,k,j,vr]
 simp(disch:=omega)only[go_sem,kL J B 0 (a:= aC n) (b:=k) (c:=j) (d:=vr) rfl s o oR,gB,jS,e6,gU g6]
 have a1:=m.next
 have a3:=N.next
 have Fb:Fx (· =B) J h6:=⟨om,λq l y=>o6 q y⟩
 have U:=((((Y.mono f).mono N).go (Fx.wide Fb λq (e:q=B)=>(by omega:q<l.next)) (W':=λq=>q<B) λq _ h=>(by have:q<B:=h;omega:q<l.next)).congr z).congr (P.iff E λx hx=>by rw[hx];exact hG.one)
 have i:=Mq.Fo (W':=λq=>q<B∨q=B) a0 sr λq _ h=>(by have:q<B∨q=B:=h;omega:q<h4.next)
 refine⟨(k,j,vr),rfl,⟨⟨Om,Rm,U⟩,SV.fx sr i (Fx.wide Fb λq h=> .inr h),Mq.Fo i sr λq _ h=> .inl h,P.self E⟩,⟨om,λq hq=>by rw[o6 q om,N.get q om,f.get q om,m.get q om];exact Z.get q hq⟩⟩
theorem Xn {W:Nat->Prop}(T0:Nat)(p:V×V×V)(vx:V)(n:Nat)(O:LN)(R:jI)(G:List Nat->Prop)(L:LN)(K r:List Nat)(i:Nat)(h:H)(zC:WM n O R G L K h T0)(nm:Nm W n L h p r)(hi:i<L.length)(F:SI h vx (zi (L.getD i []))):
  Ev T 50 [.ptr T0 0,Zw n p,vx] h (λv h'=> ∃q,v=Zw n q/\Nm (λq=>q<h.next) n L h' q (yR n G L r i)/\Fr h h'):=by
 obtain⟨o1,o2,o3⟩:=nm.one
 obtain⟨ll,E,hG,b4,n0,n7⟩:=zC.few
 obtain⟨lO,lR,M,lr,gT,gM,gc,_,nM⟩:=zC.ex
 obtain⟨_,oO,oR⟩:=gc.one
 have nT:=zC.nx
 obtain⟨Op,Rp,N⟩:=nm.ch
 refine cV pX rfl ?_
 obtain⟨B,hB⟩:=exI h.next
 obtain⟨h1,e1,n1,g1,q1,f1⟩:=dF hB [aC n,p.1,p.2.1,p.2.2]
 obtain⟨l,e2,n2,g2,q2,f2⟩:=dF n1 [aC 0,.aE,.aE,.aE]
 have F2:=f1.trans f2
 have gB: ∀j,Fr l j->j.get B=some (.cells false [aC n,p.1,p.2.1,p.2.2]):=λj f=>by rw[f.get B om,q2 B om];exact g1
 have gA: ∀j,Fr l j->j.get (B+1)=some (.cells false [aC 0,.aE,.aE,.aE]):=λj f=>by rw[f.get _ om];exact g2
 have Z: ∀j,Fr l j->j.get T0=some (.cells false [aC n,lO,lR,.mp M,lr]):=λj f=>by rw[f.get _ om,F2.get T0 nT];exact gT
 have b6: ∀{j:H} {id:Nat} {a b c d:V},j.get id=some (.cells false [a,b,c,d])->j.row id 0 3=some [a,b,c]:=λhg=>by simp [H.row,hg,sub]
 have a3: ∀{j:H} {id:Nat} {a b c d e:V},j.get id=some (.cells false [a,b,c,d,e])->j.row id 0 3=some [a,b,c]:=λhg=>by simp [H.row,hg,sub]
 simp(disch:=omega)only[go_sem,pX,aD,fZ h (a:= aC n) (b:=p.1) (c:=p.2.1) (d:=p.2.2) rfl o1 o2 o3,hB,e1,n1,e2,b6 (gB l (Fr.refl _))]
 refine (Qy _ n Op Rp _ l (N.mono F2)).mono ?_
 rintro _ k ⟨vs,rfl,nl⟩
 have f3:=nl.fr
 obtain⟨ws,W1,ow,pv,bk,lW⟩:=nl.ex
 have lw:=aM.length pv
 have sl:=qV N.dN N.isc
 have nn:n*n<=7*7:=Nat.mul_le_mul n7 n7
 have wx:=SV.cK F
 obtain⟨C,hC⟩:=exI k.next
 simp(disch:=omega)only[go_sem,a3 (Z k f3),cT (H.mk k.tr (k.next+6)) (z:= .aE) wx.1 wx.2.1]
 obtain⟨h4,e4,n4,g4,o4⟩:=LF k (k.next+6) (k.next+15) [vx]
 rw[e4]
 have a6:Fr k h4:=⟨om,λq J=>o4 q om⟩
 obtain⟨A,a5,p5⟩:=((ow.fr a6).le (iJ _)).push (bytes:=24) (SV.one om g4 (.kn 1)) (n:=(bQ Rp).length) (m:=1) om rfl om om om
 have n5:=p5.next
 have c0:=f3.next
 have vb: ∀id s m c,vs= .sl id s m c->l.next<=id:=λid s m c e=>(ow.in _ _ _ _ e).2.1
 have o:Fr l A:=⟨om,λq J=>by rw[p5.old q om (λid s m c e e2=>by have:=vb _ _ _ _ e;omega),o4 q om,f3.get q J]⟩
 have ec:dE lO lO=true/\dE lR lR=true:=by
  obtain⟨_,_,_,_,e,sO,_,_,sR,_,_⟩:=gc.cw;cases e;exact⟨SV.dE sO,SV.dE sR⟩
 simp(disch:=omega)only[go_sem,a5,a3 (Z A o),ec.1,ec.2]
 have a4:Fx W1 h4 A:=p5.fx λid s m c e=>bk _ _ _ _ e
 have sw:SP A (.sl h4.next 0 ((bQ Rp).length+1) (.un 1)) (bQ Rp++ [L.getD i []]):=fW.KI (W:=λ_=>False) (p5.own om rfl (iJ _)).sv (aM.append (aM.mono (λ_ _ p=>⟨SV.fx (p.si.mono a6) (W:=W1) p.off a4,Bc _⟩) pv) ⟨⟨F.mono (F2.trans o),Bc _⟩,trivial⟩)
 have le: ∀x,RG L r x->G x:=λx F=>by
  obtain⟨i,hi,rfl⟩:=F;exact (E.mem _).1 (bD ((nm.rk.mem i).1 hi).1)
 have t:G (L.getD i []):=(E.mem _).1 (bD hi)
 refine (QQ _ _ n O R G (bQ Rp++ [L.getD i []]) A (gc.mono (F2.trans o)) (by rw[jZ];show _+1<=4096;omega) sw (λg hg=>(pH.1 hg).elim (λh=>N.dN.cU (bV N.isc h)) λh=>by rw[List.mem_singleton.1 h];exact hG.cU t)).mono ?_
 rintro _ h6 ⟨vr,O2,R2,rfl,Q,f6⟩
 obtain⟨U,Y,rfl,a1,a2⟩:=Q.shape
 have n6:=f6.next
 obtain⟨h7,e7,b7,g7,o7⟩:=LF h6 (k.next+12) h6.next [aC 0,.aE,.aE]
 obtain⟨h8,e8,n8,g8,o8⟩:=pJ h7 (k.next+12) [aC n,U,Y]
 simp(disch:=omega)only[go_sem,e7,bW h7 (k.next+12) 0 (v:= aC n) (u:=U) (w:=Y) rfl a1 a2,g7,cF,e8,aI g8]
 have a0:Fr l h8:=⟨om,λq J=>by rw[o8 q om,o7 q om,f6.get q om,o.get q J]⟩
 have y:Fx (· =k.next+12) h6 h8:=⟨om,λq h1 l=>by rw[o8 q l,o7 q l]⟩
 have eN:=abT hG b4 N.dN N.isc le t
 refine (UC T0 _ n O O2 R R2 G _ L K h8 (zC.mono (F2.trans a0)) ((Q.go (Fx.wide y λq (e:q=k.next+12)=>(by omega:q<A.next)) (W':=λ_=>False) λ_ _ h=>h.elim).congr eN) (λx F=>Lb.le hG le t F)).mono ?_
 rintro _ h9 ⟨vO,vR,vr,r',e9,rfl,sr,rk,b5,f9⟩
 obtain⟨rfl,rfl⟩:U=vO/\Y=vR:=by simpa using e9
 obtain rfl:=rk.uniq (Dy _ _)
 have b0:=(SV.cK sr).2.1
 have P:=a0.trans f9
 obtain⟨b3,b1,c1,b2,a8⟩:=pJ h9 (B+1) [aC n,U,Y,vr]
 simp(disch:=omega)only[go_sem,kL h9 (B+1) 0 (a:= aC n) (b:=U) (c:=Y) (d:=vr) rfl a1 a2 b0,gA h9 P,jS,b1,gU b2]
 have b9:=P.next
 have b8:=f9.next
 have Fb:Fx (· =B+1) h9 b3:=⟨om,λq h1 l=>a8 q l⟩
 have a9: ∀x,Lb n G (RG L r) (L.getD i []) x->G x:=λx F=>Lb.le hG le t F
 have hw: ∀q,(q<B∨q=B+1)->q<h8.next:=λq J=>om
 have gq:=((((Q.go (Fx.wide y λq (e:q=k.next+12)=>(by omega:q<A.next)) (W':=λq=>q<B∨q=B+1) λq _ h=>(by have:q<B∨q=B+1:=h;omega:q<A.next)).mono f9).go (Fx.wide Fb λq h=> .inr h) (W':=λq=>q<B) λq _ h=> .inl h).congr eN).congr (rk.iff E a9)
 have a7:=Mq.Fo (W':=λq=>q<B∨q=B+1) b5 sr λq _ h=>hw q h
 refine⟨(U,Y,vr),rfl,⟨⟨O2,R2,gq⟩,SV.fx sr a7 (Fx.wide Fb λq h=> .inr h),Mq.Fo a7 sr λq _ h=> .inl h,rk.self E⟩,⟨om,λq J=>by rw[a8 q om,P.get q om];exact F2.get q J⟩⟩
section
variable {α:Type} {f:α->List V} {k:Nat}
theorem agV (b: ∀x,(f x).length=k): ∀ls:List α,(ls.flatMap f).length=ls.length*k
 | []=>by simp
 |a::l=>by rw[List.flatMap_cons,jZ,b,agV b l,List.length_cons,Nat.succ_mul];omega
theorem CD (b: ∀x,(f x).length=k): ∀(ls:List α) (i:Nat) (hi:i<ls.length),((ls.flatMap f).drop (i*k)).take k=f ls[i]
 |a::l,0,_=>by rw[List.flatMap_cons,Nat.zero_mul,List.drop_zero,←b a,List.take_left];rfl
 |a::l,i+1,hi=>by
  have:=CD b l i (by simpa using hi);rw[List.flatMap_cons,show (i+1)*k=(f a).length+i*k from by rw[b,Nat.succ_mul];omega,List.drop_append,List.drop_eq_nil_of_le om,List.nil_append,Nat.add_sub_cancel_left];exact this
theorem SV.rec {h:H}{v:V}(j:0<k)(n: ∀x,(f x).length=k){ls:List α}(s:SV h v k (ls.flatMap f)){i:Nat}(hi:i<ls.length): ∃id off,Sl v k ls.length id off/\h.row id (off+i*k) k=some (f ls[i])/\id<h.next:=by
 have c:=agV n ls;obtain⟨id,off,m,_,_⟩:=s.shape ls.length c j;refine⟨id,off,m,?_⟩;have p:(i+1)*k<=ls.length*k:=Nat.mul_le_mul_right k om;rw[Nat.succ_mul] at p;rcases s with ⟨_,s⟩|⟨d,b,len,u,w,z,rfl,l,t,o,y,r⟩
 ·rw[s] at c
  have:0=ls.length*k:=c;omega
 ·have e:=m.ixa .i64 0 om om
  obtain⟨rfl,rfl⟩:d=id/\b=off:=by
   have a:len=ls.length:=Nat.eq_of_mul_eq_mul_right j (l.symm.trans c);have q:0<len:=om
   simpa [Dz,q] using e
  have a:len=ls.length:=Nat.eq_of_mul_eq_mul_right j (l.symm.trans c);subst a;refine⟨?_,t⟩;unfold H.row;rw[o];simp only[sub];rw[bF om,←CD n ls i hi,←r,List.drop_take,List.take_take,Nat.min_eq_left om,List.drop_drop]
end
abbrev Bt (n:Nat)(p:V×V×V):List V:= [aC n,p.1,p.2.1,p.2.2]
def zB (n:Nat)(ps:List (V×V×V)):List V:=ps.flatMap (Bt n)
theorem mH (n:Nat)(ps:List (V×V×V)):(zB n ps).length=ps.length*4:=agV (k:=4) (f:=Bt n) (λ_=>rfl) ps
theorem Wh (n:Nat)(a b:List (V×V×V)):zB n (a++b)=zB n a++zB n b:=by unfold zB;rw[List.flatMap_append]
theorem Lu {h:H}{v:V}{n:Nat}{ps:List (V×V×V)}(s:SV h v 4 (zB n ps)){i:Nat}(hi:i<ps.length): ∃id off,Sl v 4 ps.length id off/\h.row id (off+i*4) 4=some [aC n,ps[i].1,ps[i].2.1,ps[i].2.2]/\id<h.next:=SV.rec (k:=4) (f:=Bt n) om (λ_=>rfl) s hi
theorem zP {h:H}{v:V}{n:Nat}{ps:List (V×V×V)}(s:SV h v 4 (zB n ps)):bT v=some (aC (ps.length:Int)):=by
 unfold bT;rw[SV.len s (n:=ps.length) (mH n ps) om];rfl
theorem FD (m:V)(F:Nat)(d:List V)(n:Nat)(ps:List (V×V×V))(P:Nat->Bool)(h:H)(sv:SV h m 4 (zB n ps))(y:ps.length<1000000)(w: ∀i (hi:i<ps.length) hh,Fr h hh->Ev T F (Zw n ps[i]::d) hh (λv h'=>v= .bool (P i)/\Fr hh h')):
  Ev T 108 [m,.fn F [] d] h (λv h'=> ∃k:Int,v= aC k/\((k= -1/\ ∀i,i<ps.length->P i=false)∨ ∃i,i<ps.length/\k=(i:Int)/\P i=true/\ ∀j,j<i->P j=false)/\Fr h h'):=by
 refine cV eM rfl ?_
 have s:=zP sv
 simp(disch:=omega)only[go_sem,eM,aD,s]
 refine aH (λr a hh=> ∃(i:Nat),(∃g:Nat->V,a= [m,.fn F [] d,g 2,g 3,aC (ps.length:Int),aC i,g 6,g 7])/\i<=ps.length/\(∀j,j<i->P j=false)/\Fr h hh/\r=ps.length-i) ps.length
  ⟨0,aB rfl,iJ _,λj q=>om,Fr.refl h,rfl⟩ ?_
 rintro r a hh ⟨i,⟨g,rfl⟩,hi,l,f,rfl⟩
 by_cases c:(i:Int)<(ps.length:Int)
 case neg=>
  have o:=bH c;simp(disch:=omega)only[go_sem,o];exact⟨_,rfl,.inl ⟨rfl,λj q=>l j om⟩,f⟩
 have o:=oQ c
 have b:i<ps.length:=om
 obtain⟨id,u,t,row,_⟩:=Lu (sv.mono f) b
 simp(disch:=omega)only[go_sem,o,t.ixa,row]
 refine (w i b hh f).mono ?_
 rintro _ x ⟨rfl,p⟩
 cases hP:P i with
 |true=>
  simp(disch:=omega)only[go_sem];exact⟨_,rfl,.inr ⟨i,b,rfl,hP,l⟩,f.trans p⟩
 |false=>
  simp(disch:=omega)only[go_sem];rw[eJ i]
  exact⟨ps.length-(i+1),om,i+1,aB rfl,om,λj q=>by
   by_cases e:j=i
   ·rw[e];exact hP
   ·exact l j om,f.trans p,rfl⟩
theorem FW (c:V)(F:Nat)(a:List V)(n:Nat)(ps:List (V×V×V))(P:Nat->Bool)(h:H)(sv:SV h c 4 (zB n ps))(m:ps.length<1000000)(o: ∀i (hi:i<ps.length) hh,Fr h hh->Ev T F (Zw n ps[i]::a) hh (λv h'=>v= .bool (P i)/\Fr hh h')):
  Ev T 54 [c,.fn F [] a] h (λv h'=>(∃b,v= .bool b/\(b=true↔ ∃i,i<ps.length/\P i=true))/\Fr h h'):=by
 refine cV dY rfl ?_
 simp(disch:=omega)only[go_sem,dY,aD]
 refine (FD c F a n ps P h sv m o).mono ?_
 rintro _ p ⟨k,rfl,j,f⟩
 simp(disch:=omega)only[go_sem]
 refine⟨⟨_,rfl,?_⟩,f⟩
 rcases j with ⟨rfl,l⟩|⟨i,hi,rfl,d,_⟩
 ·refine⟨λh=>by simp at h,λ⟨i,hi,e⟩=>by rw[l i hi] at e;cases e⟩
 ·exact⟨λ_=>⟨i,hi,d⟩,λ_=>oQ om⟩
theorem agP {a b:List Nat}:(zi a=zi b)=(a=b):=propext ⟨Vl,λh=>by rw[h]⟩
theorem WD (h:H){a b c d:V}(i:a.one=true)(j:b.one=true)(k:c.one=true)(f:d.one=true):lQ h 4 [aC 0,.aE,.aE,.aE] 1 [(0,4,.agg [a,b,c,d])]=some (.sl h.next 0 1 (.kn 1),h.new (.cells false [a,b,c,d])):=by
 have e:cX [aC 0,.aE,.aE,.aE] (1*4)= [aC 0,.aE,.aE,.aE]:=rfl;simp [lQ,iS,e,putAt,V.cells,i,j,k,f]
structure NmL (W:Nat->Prop)(n:Nat)(L:LN)(b:Nat)(h:H)(v:V)(rs:LN):Prop where
 ex: ∃ps,cY h v 4 (zB n ps) b/\aM (Nm (λq=>W q∨dO v q) n L h) ps rs/\ ∀id off m c,v= .sl id off m c->h.get id=some (.cells false (zB n ps))
theorem NmL.mono {W:Nat->Prop}{n:Nat}{L:LN}{b:Nat}{h h':H}{v:V}{rs:LN}(m:NmL W n L b h v rs)(f:Fr h h'):NmL W n L b h' v rs:=by
 obtain⟨j,o,a,e⟩:=m.ex;exact⟨j,o.fr f,aM.mono (λ_ _ x=>Nm.mono x f) a,λid i m c d=>by rw[f.get id (o.in _ _ _ _ d).1];exact e _ _ _ _ d⟩
theorem FQ {W:Nat->Prop}(n:Nat)(L:LN)(b Q:Nat)(k:V)(rs:LN)(p:V×V×V)(r:List Nat)(h:H)(m:NmL W n L b h k rs)(hb:b<=h.next)(Y:Nm (λq=>W q∨dO k q) n L h p r)(hQ:h.get Q=some (.cells false [k]))(J:Q<h.next)(a0: ¬dO k Q)(b0:W Q)(hL:L.length<=5040)(hl:rs.length<1000000):
  Ev T 49 [.ptr Q 0,Zw n p] h (λv h'=>v= .tup []/\ ∃vl',h'.get Q=some (.cells false [vl'])/\NmL W n L b h' vl' (tF rs r)/\Fx (λq=>q=Q∨dO k q) h h'/\ ∀q,dO vl' q->dO k q∨h.next<=q):=by
 obtain⟨s,ow,al,_⟩:=m.ex
 obtain⟨o1,o2,o3⟩:=Y.one
 have lp:=aM.length al
 refine cV uS rfl ?_
 obtain⟨B,hB⟩:=exI h.next
 obtain⟨F,e1,n1,g1,q1,G⟩:=dF hB [aC n,p.1,p.2.1,p.2.2]
 have a7:F.get Q=some (.cells false [k]):=by rw[G.get Q J];exact hQ
 simp(disch:=omega)only[go_sem,uS,aD,fZ h (a:= aC n) (b:=p.1) (c:=p.2.1) (d:=p.2.2) rfl o1 o2 o3,hB,e1,H.aF a7]
 have rl:=Y.rk.short
 refine (FW k 104 [.ptr B 0] n s (λi=>decide (rs.getD i []=r)) F (ow.sv.mono G) om λi hi t f=>?_).mono ?_
 ·have mi:=aM.get al i hi om
  obtain⟨a1,a2,a3⟩:=mi.one
  have ri:=mi.rk.short
  have gB:t.get B=some (.cells false [aC n,p.1,p.2.1,p.2.2]):=by rw[f.get B om];exact g1
  refine cV sG rfl ?_
  obtain⟨C,hC⟩:=exI t.next
  obtain⟨j,K,n2,g2,q2,A⟩:=dF hC [aC n,s[i].1,s[i].2.1,s[i].2.2]
  have a9:j.get B=some (.cells false [aC n,p.1,p.2.1,p.2.2]):=by rw[A.get B (by have:=f.next;omega)];exact gB
  simp(disch:=omega)only[go_sem,sG,aD,fZ t (a:= aC n) (b:=s[i].1) (c:=s[i].2.1) (d:=s[i].2.2) rfl a1 a2 a3,hC,K,H.aF g2,H.aF a9]
  refine (Wr _ _ (zi rs[i]) (zi r) j (mi.si.mono (G.trans (f.trans A))) (Y.si.mono (G.trans (f.trans A))) (by rw[aQ];omega) (by rw[aQ];omega)).mono ?_
  rintro _ R ⟨rfl,f3⟩
  simp(disch:=omega)only[go_sem]
  refine⟨?_,A.trans f3⟩
  congr 1
  rw[decide_eq_decide,agP,List.getD,dD om]
  rfl
 rintro _ j ⟨⟨c,rfl,hc⟩,A⟩
 have F2:=G.trans A
 have N:c=true↔r∈rs:=by
  rw[hc];constructor
  ·rintro⟨i,hi,e⟩
   rw[←of_decide_eq_true e];exact bD om
  ·intro hr
   obtain⟨i,hi,rfl⟩:=zF.1 hr;exact⟨i,om,oQ (by rw[List.getD,dD hi];rfl)⟩
 have y:j.get Q=some (.cells false [k]):=by rw[F2.get Q J];exact hQ
 cases c with
 |true=>
  simp(disch:=omega)only[go_sem];refine⟨rfl,k,y,?_,Fx.of F2,λq h=> .inl h⟩;unfold tF;rw[bF (N.1 rfl)];exact m.mono F2
 |false=>
  have hn:r∉rs:=λh=>by have:=N.2 h;cases this
  have r4:j.row B 0 4=some [aC n,p.1,p.2.1,p.2.2]:=gU (by rw[A.get B om];exact g1);obtain⟨R,e3,n3,g3,q3⟩:=LF j (j.next+6) (j.next+11) [aC n,p.1,p.2.1,p.2.2]
  have a5:Fr j R:=⟨om,λq hq=>q3 q om⟩
  obtain⟨U,a4,O⟩:=((ow.fr (F2.trans a5)).le (iJ _)).push (bytes:=80) (SV.all (sz:=4) (len:=1) (vs:=Bt n p) rfl om g3 (.kn 1)) (n:=s.length) (m:=1) (mH n s) rfl om om om;have n4:=O.next;have b1:=F2.next;have vb: ∀id l m c,k= .sl id l m c->b<=id/\id<h.next:=λid l m c e=>by have:=ow.in _ _ _ _ e;omega
  have a6:dL k Q:=λid l m c e K=>a0 (by rw[e,K];exact⟨_,_,_,rfl⟩)
  have a8:U.get Q=some (.cells false [k]):=by rw[O.old Q om a6,q3 Q om];exact y
  have pt: ∀(t:H) (u w:V),dX (some (.cells false [u])) t Q 0 [w]=some (t.set Q (some (.cells false [w]))):=λt u w=>bN (by simp) t _ _
  simp(disch:=omega)only[go_sem,H.aF y,r4,WD (H.mk j.tr (j.next+6)) (a:= aC n) (b:=p.1) (c:=p.2.1) (d:=p.2.2) rfl o1 o2 o3,e3,a4,a8,pt];obtain⟨P,z⟩:=exI (U.set Q (some (Ob.cells false [V.sl R.next 0 (s.length+1) (Kh.un 4)])));rw[z];have n5:P.next=U.next:=by rw[←z];rfl
  have Z: ∀q,q≠Q->P.get q=U.get q:=λq hq=>by rw[←z];exact H.aG _ hq _
  have fx:Fx (λq=>q=Q∨dO k q) h P:=⟨om,λq F j=>by
   rw[Z q λe=>j (.inl e),O.old q om (λid l m c e K=>j (.inr (by rw[e,K];exact⟨_,_,_,rfl⟩))),q3 q om,F2.get q F]⟩
  have fw:Fx (λq=>W q∨dO k q) h P:=Fx.wide fx λq h=>h.imp (λe=>by rw[e];exact b0) id
  have wk: ∀q,q<h.next->(W q∨dO (V.sl R.next 0 (s.length+1) (Kh.un 4)) q)->(W q∨dO k q):=λq F j=>j.elim .inl λ⟨l,m,c,e⟩=>by cases e;omega
  refine⟨rfl,_,rfl,?_,fx,λq ⟨l,m,c,e⟩=> .inr (by cases e;omega)⟩;unfold tF;rw[bI hn];refine⟨s++ [p],?_,aM.append (aM.mono (λ_ _ x=>Nm.go x fw wk) al) ⟨Y.go fw wk,trivial⟩,λid l m c e=>?_⟩
  rotate_left
  ·cases e
   rw[Z _ om,Wh];exact O.get
  rw[Wh];exact (O.own (mH n s) rfl om).mono om λq o m c e _ F=>Z q (by cases e;omega)
theorem KG (u:V)(ws:List V)(m:Nat)(h:H)(a:ws.length=m*4)(y:0<m)(r:m<1000000)(f:SV h u 4 ws):
  Ev T 52 [u] h (λv h'=> ∃id cap rest,v= .sl id 0 m cap/\(cap= .un 4∨cap= .kn m/\rest= [])/\h.next<=id/\id<h'.next/\h'.get id=some (.cells false (ws++rest))/\Fr h h'):=by
 refine cV fO rfl ?_
 have s:Hg false u=some (.bool false):=by
  rcases f with ⟨_,rfl⟩|⟨id,q,len,cap,z,B,rfl,i⟩
  ·simp at a;omega
  ·rfl
 have b:Fr h (h.new (.cells false [])):=(Fr.refl h).new _
 have l:cY (h.new (.cells false [])) (.sl h.next 0 0 (.kn 0)) 4 [] h.next:=cY.new h 4 0 _ [] rfl (fM _)
 obtain⟨x,i,w,A⟩:=l.app (bytes:=80) (by rw[H.aU];omega) (f.mono b) (n:=0) (m:=m) rfl a om om
 have p:lQ h 4 [aC 0,.aE,.aE,.aE] 0 []=some (.sl h.next 0 0 (.kn 0),h.new (.cells false [])):=rfl
 simp(disch:=omega)only[go_sem,fO,aD,s,p,w]
 have fr:=A.fr _ b (fM _)
 rcases A.own with ⟨_,e⟩|⟨id,k,cap,rest,rfl,d,o,t,j,c⟩
 ·rw[List.nil_append] at e
  rw[e] at a
  simp at a;omega
 ·rw[List.nil_append] at d c
  obtain rfl:k=m:=Nat.eq_of_mul_eq_mul_right (by omega:0<4) (d.symm.trans a)
  exact⟨id,cap,rest,rfl,o,t,j,c,fr⟩
def nY {α:Type}(P:Nat->Bool)(l:List α):List α:=l.zipIdx.filterMap λx=>if P x.2 then none else some x.1
section
variable {α β:Type} {P:Nat->Bool}
theorem IE (l:List α)(a:α):nY P (l++ [a])=nY P l++if P l.length then [] else [a]:=by
 unfold nY;rw[List.zipIdx_append,List.filterMap_append];congr 1;simp only[List.zipIdx_singleton,Nat.zero_add,List.filterMap_cons,List.filterMap_nil];split
 ·rename_i h
  split at h
  ·rename_i c;rw[bF c]
  ·cases h
 ·rename_i b h
  split at h
  ·cases h
  ·rename_i c
   cases h;rw[bI c]
theorem qJ {l:List α}{i:Nat}(hi:i<l.length):nY P (l.take (i+1))=nY P (l.take i)++if P i then [] else [l[i]]:=by
 rw[List.take_succ_eq_append_getElem hi,IE,Fj,Nat.min_eq_left om]
theorem Jk {l:List α}: ∀{i:Nat},i<=l.length->(∀j,j<i->P j=false)->nY P (l.take i)=l.take i
 |0,_,_=>rfl
 |i+1,hi,h=>by
  rw[qJ om,Jk om λj a=>h j om,bI (by rw[h i om];exact Bool.false_ne_true),List.take_succ_eq_append_getElem om]
theorem BD {R:α->β->Prop}{l:List α}{m:List β}(a:aM R l m):aM R (nY P l) (nY P m):=by
 have c:=aM.length a
 have b: ∀i,i<=l.length->aM R (nY P (l.take i)) (nY P (m.take i)):=by
  intro i
  induction i with
  |zero=>exact λ_=>trivial
  |succ i ih=>
   intro hi;rw[qJ om,qJ om];refine aM.append (ih om) ?_;split
   ·trivial
   ·exact⟨aM.get a i om om,trivial⟩
 have:=b l.length (fM _);rwa [List.take_length,c,List.take_length] at this
end
section
variable {rest:List V} {k:Nat}
def VU (h:H)(sz:Nat)(zero:List V):V->Option (V×H)
 | .aE=>some (V.undef,h)
 | .emp _=>some (V.undef,h)
 | .sl id off len _=>if len=0 then some (V.undef,h) else
   if zero.length=sz/\zero.all V.one=true then (h.put id off (cX zero (len*sz))).map (λh'=>(V.undef,h')) else none
 |_=>none
theorem HG (ρ:X->V)(h:H)(sz:Nat)(zero:List V)(x:X):cI ρ h (.clr sz zero x)=VU h sz zero (ρ x):=by
 simp only[cI,VU]
 rfl
section
variable {α:Type} {f:α->List V} {s:Nat} (hf: ∀x,(f x).length=s)
include hf
theorem GI {ps:List α}{i:Nat}(hi:i<ps.length):sub (ps.flatMap f++rest) (i*s) s=some (f ps[i]):=by
 have e:=CD hf ps i hi;have l:=agV hf ps;have a:(i+1)*s<=ps.length*s:=Nat.mul_le_mul_right s om;rw[Nat.succ_mul] at a;unfold sub;rw[bF (by rw[jZ];omega),List.drop_append,List.take_append_of_le_length (by rw[AQ];omega)];exact congrArg some e
theorem GN {ps:List α}(b:k<ps.length)(p:α):putAt (ps.flatMap f++rest) (k*s) (f p)=some ((ps.set k p).flatMap f++rest):=by
 have l:=agV hf ps;have i:(k+1)*s<=ps.length*s:=Nat.mul_le_mul_right s om;rw[Nat.succ_mul] at i;have e:ps.take k++ [ps[k]]++ps.drop (k+1)=ps:=by rw[←List.take_succ_eq_append_getElem b,List.take_append_drop]
 have h:ps.set k p=ps.take k++ [p]++ps.drop (k+1):=by rw[List.set_eq_take_append_cons_drop,bF b,Ll];rfl
 have c:=agV hf (ps.take k);rw[Fj,Nat.min_eq_left om] at c;have a:=agV hf (ps.take k++ [ps[k]]);rw[jZ,Fj,Nat.min_eq_left om] at a;have a:((ps.take k++ [ps[k]]).flatMap f).length=(k+1)*s:=a;rw[Nat.succ_mul] at a;have d:ps.flatMap f++rest=(ps.take k++ [ps[k]]).flatMap f++((ps.drop (k+1)).flatMap f++rest):=by rw[←Ll,←List.flatMap_append,e]
 unfold putAt;rw[bF (by rw[jZ,l,hf];omega)];refine congrArg some ?_
 have j:(ps.flatMap f++rest).take (k*s)=(ps.take k).flatMap f:=by
  rw[d,List.flatMap_append,Ll,←c,List.take_left]
 have m:(ps.flatMap f++rest).drop (k*s+(f p).length)=(ps.drop (k+1)).flatMap f++rest:=by
  rw[d,hf,←a,List.drop_left]
 rw[j,m,h,List.flatMap_append,List.flatMap_append,Ll,Ll,Ll];simp
end
section
variable {n:Nat}
theorem YB {ps:List (V×V×V)}{i:Nat}(hi:i<ps.length):sub (zB n ps++rest) (i*4) 4=some (Bt n ps[i]):=GI (s:=4) (f:=Bt n) (λ_=>rfl) hi
theorem XD {ps:List (V×V×V)}(a:k<ps.length)(p:V×V×V):putAt (zB n ps++rest) (k*4) (Bt n p)=some (zB n (ps.set k p)++rest):=GN (s:=4) (f:=Bt n) (λ_=>rfl) a p
theorem aaA {id m:Nat}{a:Kh}(d:a= .un 4∨a= .kn m/\rest= [])(b:k<=m): ∃off cap',xT 4 (.sl id 0 m a) (some (aC k)) none none=some (.sl id off (m-k) cap')/\(k<m->off=k*4):=by
 rcases d with rfl|⟨rfl,_⟩
 ·by_cases h:k<m
  ·exact⟨k*4,_,by simp [xT,oG,b,h];rfl,λ_=>rfl⟩
  ·exact⟨0,.un 4,by simp [xT,oG,b,h];omega,λc=>absurd c h⟩
 ·by_cases h:m=k
  ·exact⟨0,_,by simp [xT,oG,b,h];rfl,λc=>om⟩
  ·exact⟨k*4,_,by simp [xT,oG,b,h];rfl,λ_=>rfl⟩
theorem WU {id m:Nat}{a:Kh}(d:a= .un 4∨a= .kn m/\rest= [])(b:k<=m)(c:0<m): ∃cap',xT 4 (.sl id 0 m a) none (some (aC k)) none=some (.sl id 0 k cap'):=by
 rcases d with rfl|⟨rfl,_⟩
 ·exact⟨_,by simp [xT,oG,b,c];rfl⟩
 ·exact⟨_,by simp [xT,oG,b,show m≠0 by omega];rfl⟩
end
theorem abI (id m:Nat)(r:Kh)(rest:List V)(F:Nat)(cs:List V)(n:Nat)(ps:List (V×V×V))(P:Nat->Bool)(h:H)(W:id<h.next)(hg:h.get id=some (.cells false (zB n ps++rest)))(hc:r= .un 4∨r= .kn m/\rest= [])(hm:ps.length=m)(h0:0<m)(y:m<1000000)(one: ∀p∈ps,p.1.one=true/\p.2.1.one=true/\p.2.2.one=true)(hf: ∀i (hi:i<ps.length) hh,Fx (· =id) h hh->Ev T F (Zw n ps[i]::cs) hh (λv h'=>v= .bool (P i)/\Fr hh h')):
  Ev T 51 [.sl id 0 m r,.fn F [] cs] h (λv h'=>SV h' v 4 (zB n (nY P ps))/\Fx (· =id) h h'):=by
 refine cV sS rfl ?_
 have sv:SV h (.sl id 0 m r) 4 (zB n ps):= .inr ⟨id,0,m,r,false,_,rfl,by rw[mH,hm],W,hg,by rw[jZ,mH];omega,by rw[List.drop_zero,List.take_append_of_le_length (by rw[mH];omega),←hm,←mH n ps,List.take_length]⟩
 simp(disch:=omega)only[go_sem,sS,aD]
 refine (FD _ F cs n ps P h sv om λi hi hh f=>hf i hi hh (Fx.of f)).mono ?_
 rintro _ t ⟨k,rfl,G,Y⟩
 rcases G with ⟨rfl,hn⟩|⟨U,a2,rfl,K,hn⟩
 ·simp(disch:=omega)only[go_sem,eq_self,decide_true]
  have e:nY P ps=ps:=by
   have:=Jk (P:=P) (l:=ps) (fM _) hn;rwa [List.take_length] at this
  rw[e]
  exact⟨sv.mono Y,Fx.of Y⟩
 have d0:decide ((U:Int)= -1)=false:=bH om
 simp(disch:=omega)only[go_sem,d0]
 rw[eJ U]
 refine aH (λk' w hh=> ∃(i k:Nat) (o:List (V×V×V)),(∃g:Nat->V,w= [.sl id 0 m r,.fn F [] cs,g 2,aC k,aC i,g 5,g 6,g 7,g 8])/\i<=m/\o.length=m/\k<=i/\o.take k=nY P (ps.take i)/\o.drop i=ps.drop i/\hh.get id=some (.cells false (zB n o++rest))/\Fx (· =id) h hh/\k'=m-i) (m-(U+1))
  ⟨U+1,U,ps,aB rfl,om,hm,om,?_,rfl,by rw[Y.get id W];exact hg,Fx.of Y,rfl⟩ ?_
 ·rw[qJ a2,Jk om hn,bF K,vF]
 clear hn K d0 Y
 rintro k' w hh ⟨i,k,o,⟨g,rfl⟩,hi,lc,ki,G,hd,gc,F2,rfl⟩
 by_cases N:(i:Int)<(m:Int)
 case neg=>
  have d1:=bH N;obtain rfl:i=m:=om
  obtain⟨a1,cp,s1,s2⟩:=aaA (id:=id) hc ki;obtain⟨L,s3⟩:=WU (id:=id) hc ki h0;rw[←hm,List.take_length] at G;have n2:=F2.next;have l4:=mH n o
  have Z: ∀A u,A.next=hh.next->A.get id=some (.cells false u)->u.take (k*4)=zB n (o.take k)->k*4<=u.length->SV A (.sl id 0 k L) 4 (zB n (nY P ps)):=λA u e1 e2 e3 e4=>by
   rw[←G];exact .inr ⟨id,0,k,L,false,u,rfl,by rw[mH,Fj];rw[Nat.min_eq_left om],om,e2,om,by rw[List.drop_zero];exact e3⟩
  have t4:(zB n o++rest).take (k*4)=zB n (o.take k):=by
   have e:zB n o=zB n (o.take k)++zB n (o.drop k):=by rw[←Wh,List.take_append_drop]
   have l1:=mH n (o.take k);rw[Fj,Nat.min_eq_left om] at l1;rw[e,Ll,List.take_append_of_le_length om,←l1,List.take_length]
  by_cases e:k=i
  ·have cz:VU hh 4 [aC 0,.aE,.aE,.aE] (.sl id a1 (i-k) cp)=some (V.undef,hh):=by simp [VU,e]
   simp(disch:=omega)only[go_sem,d1,s1,HG,cz,s3];exact⟨Z hh _ rfl gc t4 (by rw[jZ];omega),F2⟩
  ·obtain rfl:=s2 om
   have zl:(cX [aC 0,.aE,.aE,.aE] ((i-k)*4)).length=(i-k)*4:=by simp [cX]
   obtain⟨u,z⟩:=exI ((zB n o++rest).take (k*4)++cX [aC 0,.aE,.aE,.aE] ((i-k)*4)++(zB n o++rest).drop (k*4+(i-k)*4));have ik:k*4+(i-k)*4=i*4:=by rw[←Nat.add_mul];congr 1;omega
   have pa:putAt (zB n o++rest) (k*4) (cX [aC 0,.aE,.aE,.aE] ((i-k)*4))=some u:=by
    unfold putAt;rw[zl,bF (by rw[jZ];omega),z]
   have a0:((zB n o++rest).take (k*4)).length=k*4:=by rw[Fj,Nat.min_eq_left (by rw[jZ];omega)]
   have tv:u.take (k*4)=zB n (o.take k):=by rw[←z,Ll,List.take_append_of_le_length om,Tn om,t4]
   have cz:VU hh 4 [aC 0,.aE,.aE,.aE] (.sl id (k*4) (i-k) cp)=some (V.undef,hh.set id (some (.cells false u))):=by
    show (if i-k=0 then _ else if _ then _ else none)=_;rw[bI om,bF ⟨rfl,rfl⟩];unfold H.put;rw[gc];simp only[pa,Option.map_some]
   simp(disch:=omega)only[go_sem,d1,s1,HG,cz,s3];exact⟨Z _ u rfl (H.aS _ _ _) tv (by rw[←z,jZ,jZ,a0];omega),⟨n2,λq y t=>by rw[H.aG _ t];exact F2.get q y t⟩⟩
 have d1:=oQ N
 have a4:i<m:=om
 have ix: ∀j:Nat,j<m->Dz 4 (.sl id 0 m r) (aC j)=some (.ptr id (j*4)):=λj hj=>by simp [Dz,hj]
 have lP:i<ps.length:=om
 have ci:o[i]'om=ps[i]:=by
  have:=congrArg (λl=>l[0]?) hd;simp only[List.getElem?_drop,Nat.add_zero] at this;rw[dD om,dD lP] at this;exact Option.some.inj this
 have Q:hh.row id (i*4) 4=some (Bt n ps[i]):=by
  rw[←ci];unfold H.row;rw[gc];exact YB om
 obtain⟨o1,o2,o3⟩:=one _ (zG lP)
 have fi:=hf i lP
 have O:nY P (ps.take (i+1))=nY P (ps.take i)++if P i then [] else [ps[i]]:=qJ lP
 generalize ps[i]=p at Q o1 o2 o3 fi O ci
 obtain⟨B,hB⟩:=exI hh.next
 obtain⟨A,e3,n3,g3,q3,f3⟩:=dF hB [aC 0,.aE,.aE,.aE]
 obtain⟨h4,e4,n4,g4,q4⟩:=pJ A B (Bt n p)
 have n2:=F2.next
 have R:Fr hh h4:=⟨om,λq hq=>by rw[q4 q om,q3 q om]⟩
 have F4:Fx (· =id) h h4:=⟨om,λq y t=>by rw[R.get q om];exact F2.get q y t⟩
 simp(disch:=omega)only[go_sem,d1,ix i a4,Q,hB,e3,kL A B 0 (a:= aC n) (b:=p.1) (c:=p.2.1) (d:=p.2.2) rfl o1 o2 o3,g3,jS,e4,gU g4]
 refine (fi h4 F4).mono ?_
 rintro _ J ⟨rfl,f5⟩
 have F5:Fx (· =id) h J:=⟨by have:=f5.next;omega,λq y t=>by rw[f5.get q om];exact F4.get q y t⟩
 have g5:J.get id=some (.cells false (zB n o++rest)):=by rw[f5.get id om,R.get id om];exact gc
 have a3:J.get B=some (.cells false (Bt n p)):=by rw[f5.get B om];exact g4
 cases K:P i with
 |true=>
  rw[K,bF rfl,vF] at O;simp(disch:=omega)only[go_sem];rw[eJ i];exact⟨m-(i+1),om,i+1,k,o,aB rfl,om,lc,om,by rw[G,O],by rw[←List.drop_drop,hd,List.drop_drop],g5,F5,rfl⟩
 |false=>
  rw[K,bI (by simp)] at O
  have pt:dX (some (.cells false (zB n o++rest))) J id (k*4) (Bt n p)=some (J.set id (some (.cells false (zB n (o.set k p)++rest)))):=by
   have:=XD (n:=n) (ps:=o) (rest:=rest) (k:=k) om p;simp only[dX,this,Option.map_some]
  simp(disch:=omega)only[go_sem,gU a3,ix k om,kL J id (k*4) (a:= aC n) (b:=p.1) (c:=p.2.1) (d:=p.2.2) rfl o1 o2 o3,g5,pt];rw[show (i:Int)+1=((i+1:Nat):Int) from om,show (k:Int)+1=((k+1:Nat):Int) from om];have lk:k<o.length:=om
  refine⟨m-(i+1),om,i+1,k+1,o.set k p,aB rfl,om,by rw[List.length_set];exact lc,om,?_,?_,rfl,⟨by have:=F5.next;simp only[H.bY];omega,λq y t=>by rw[H.aG _ t];exact F5.get q y t⟩,rfl⟩
  ·rw[List.take_succ_eq_append_getElem (by rw[List.length_set];exact lk),List.getElem_set_self,List.take_set_of_le (fM _),G,O]
  ·rw[List.drop_set_of_lt om,←List.drop_drop,hd,List.drop_drop]
end
def Hx:List Nat->List Nat->Int
 | [], []=>0
 | [],_::_=> -1
 |_::_, []=>1
 |a::l,b::m=>if a=b then Hx l m else Cls.rQ a b
theorem Uq: ∀(a b:List Nat),Hx a b<0↔kP a b=true
 | [], []=>by simp [Hx,kP]
 | [],_::_=>by simp [Hx,kP]
 |_::_, []=>by simp [Hx,kP]
 |a::l,b::m=>by
  unfold Hx kP;split
  ·exact Uq l m
  ·unfold Cls.rQ
   rw[Qf];split
   ·omega
   ·split<;>omega
theorem XV (w A:V)(a b:List Nat)(h:H)(K:SI h w (zi a))(O:SI h A (zi b))(Q:a.length<1000000)(Y:b.length<1000000):
  Ev T 109 [w,A] h (λv h'=>v= aC (Hx a b)/\Fr h h'):=by
 refine cV mX rfl ?_
 have x:=K.lens
 have lb:=O.lens
 rw[aQ] at x lb
 obtain⟨id,G,y,r,L⟩:=K.open
 obtain⟨z,o,u,k,t⟩:=O.open
 rw[aQ] at y r L u k t
 simp(disch:=omega)only[go_sem,mX,aD,x,lb]
 refine aH (λP l q=> ∃(i:Nat),(∃g:Nat->V,l= [w,A,g 2,g 3,g 4,g 5,g 6,w,aC (a.length:Int),aC i,g 10,g 11,g 12,g 13])/\i<=a.length/\i<=b.length/\Hx a b=Hx (a.drop i) (b.drop i)/\Fr h q/\P=a.length-i) a.length
  ⟨0,aB rfl,iJ _,iJ _,rfl,Fr.refl h,rfl⟩ ?_
 rintro P l q ⟨i,⟨g,rfl⟩,hi,W,c,f,rfl⟩
 by_cases p:(i:Int)<(a.length:Int)
 case neg=>
  have s:=bH p;rw[List.drop_eq_nil_of_le om] at c
  by_cases n:(a.length:Int)<(b.length:Int)
  ·have m:=oQ n
   rw[AR (show i<b.length by omega)] at c;simp(disch:=omega)only[go_sem,s,x,lb,m];exact⟨by rw[c];rfl,f⟩
  ·have m:=bH n
   rw[List.drop_eq_nil_of_le om] at c;simp(disch:=omega)only[go_sem,s,x,lb,m];exact⟨by rw[c];rfl,f⟩
 have s:=oQ p
 have j:i<a.length:=om
 have F:q.cell id (G+i)=some (aC (a.getD i 0:Nat)):=by rw[f.cell (r om),L i j];congr 2;simp [zi,j]
 rw[AR j] at c
 have U:a.getD i 0=a[i]:=by rw[List.getD,dD j];rfl
 by_cases n:(b.length:Int)<=(i:Int)
 ·have m:=oQ n
  rw[show b.drop i= [] from List.drop_eq_nil_of_le om] at c
  simp(disch:=omega)only[go_sem,s,y.ixa,F,lb,m]
  exact⟨by rw[c];rfl,f⟩
 have m:=bH n
 have d:i<b.length:=om
 have J:q.cell z (o+i)=some (aC (b.getD i 0:Nat)):=by rw[f.cell (k om),t i d];congr 2;simp [zi,d]
 rw[AR d] at c
 have R:b.getD i 0=b[i]:=by rw[List.getD,dD d];rfl
 rw[U] at F
 rw[R] at J
 simp(disch:=omega)only[go_sem,s,y.ixa,F,lb,m,u.ixa,J]
 refine (Cls.yD _ _ q).mono ?_
 rintro _ Z ⟨rfl,N⟩
 rw[show Hx (a[i]::a.drop (i+1)) (b[i]::b.drop (i+1))=if a[i]=b[i] then Hx (a.drop (i+1)) (b.drop (i+1)) else Cls.rQ a[i] b[i] from rfl] at c
 by_cases e:a[i]=b[i]
 ·rw[bF e] at c
  have B:decide (Cls.rQ (a[i]:Int) (b[i]:Int)≠0)=false:=bH (by rw[e];unfold Cls.rQ;rw[bI om,bI om];omega)
  simp(disch:=omega)only[go_sem,B]
  rw[eJ i]
  exact⟨a.length-(i+1),om,i+1,aB rfl,om,om,c,f.trans N,rfl⟩
 ·rw[bI e] at c
  have B:decide (Cls.rQ (a[i]:Int) (b[i]:Int)≠0)=true:=oQ (by unfold Cls.rQ;split;omega;split<;>omega)
  simp(disch:=omega)only[go_sem,B]
  exact⟨by rw[c],f.trans N⟩
section
variable {W W':Nat->Prop} {L:LN} {h:H} {p q:V×V×V} {a b:List Nat}
theorem ET (n:Nat)(O:L.length<=5040)(f:Nm W n L h p a)(k:Nm W' n L h q b):
  Ev T 58 [Zw n p,Zw n q] h (λv h'=>v= aC (Hx a b)/\Fr h h'):=by
 obtain⟨t,G,s⟩:=f.one
 obtain⟨J,x,K⟩:=k.one
 have R:=f.rk.short
 have lb:=k.rk.short
 refine cV aiS rfl ?_
 obtain⟨B,o⟩:=exI h.next
 obtain⟨N,F,r,z,U,l⟩:=dF o [aC n,p.1,p.2.1,p.2.2]
 obtain⟨m,w,P,y,A,i⟩:=dF r [aC n,q.1,q.2.1,q.2.2]
 have j:m.get B=some (.cells false (Bt n p)):=by rw[A B om];exact z
 simp(disch:=omega)only[go_sem,aiS,aD,fZ h (a:= aC n) (b:=p.1) (c:=p.2.1) (d:=p.2.2) rfl t G s,o,F,fZ N (a:= aC n) (b:=q.1) (c:=q.2.1) (d:=q.2.2) rfl J x K,r,w,H.aF j,H.aF y]
 refine (XV _ _ a b m (f.si.mono (l.trans i)) (k.si.mono (l.trans i)) om om).mono ?_
 rintro _ Q ⟨rfl,u⟩
 simp(disch:=omega)only[go_sem]
 exact l.trans (i.trans u)
theorem aaV (n:Nat)(hL:L.length<=5040)(u:Nm W n L h p a)(w:Nm W' n L h q b):
  Ev T 56 [Zw n p,Zw n q] h (λv h'=>v= .bool (a.all λi=>decide (i∈b))/\Fr h h'):=by
 obtain⟨Z,o2,o3⟩:=u.one
 obtain⟨u1,u2,u3⟩:=w.one
 have la:=u.rk.short
 have lb:=w.rk.short
 refine cV yW rfl ?_
 obtain⟨B,K⟩:=exI h.next
 obtain⟨h1,e1,O,g1,q1,f1⟩:=dF K [aC n,p.1,p.2.1,p.2.2]
 obtain⟨z,e2,n2,g2,q2,f2⟩:=dF O [aC n,q.1,q.2.1,q.2.2]
 have F:z.get B=some (.cells false (Bt n p)):=by rw[q2 B om];exact g1
 have F2:=f1.trans f2
 have J:=u.si.lens
 rw[aQ] at J
 obtain⟨id,G,N,s,R⟩:=u.si.open
 rw[aQ] at N s R
 simp(disch:=omega)only[go_sem,yW,aD,fZ h (a:= aC n) (b:=p.1) (c:=p.2.1) (d:=p.2.2) rfl Z o2 o3,K,e1,fZ h1 (a:= aC n) (b:=q.1) (c:=q.2.1) (d:=q.2.2) rfl u1 u2 u3,O,e2,H.aF F,J]
 refine aH (λY l r=> ∃(i:Nat),(∃g:Nat->V,l= [g 0,g 1,g 2,.ptr (B+1) 0,.bool false,g 5,g 6,p.2.2,aC (a.length:Int),aC i,g 10,g 11])/\i<=a.length/\(∀j (y:j<i) (Q:j<a.length),a[j]∈b)/\Fr z r/\Y=a.length-i) a.length
  ⟨0,aB rfl,iJ _,λj y=>om,Fr.refl z,rfl⟩ ?_
 rintro Y l r ⟨i,⟨g,rfl⟩,hi,P,f,rfl⟩
 by_cases m:(i:Int)<(a.length:Int)
 case neg=>
  have A:=bH m;simp(disch:=omega)only[go_sem,A];refine⟨?_,F2.trans f⟩;congr 1;refine (Kv.2 λx hx=>?_).symm;obtain⟨j,y,rfl⟩:=zF.1 hx;exact oQ (P j om y)
 have A:=oQ m
 have t:i<a.length:=om
 have c1:r.cell id (G+i)=some (aC (a[i]:Nat)):=by rw[(F2.trans f).cell (s om),R i t];congr 2;simp [zi,t]
 have gq:r.get (B+1)=some (.cells false (Bt n q)):=by rw[f.get _ om];exact g2
 simp(disch:=omega)only[go_sem,A,N.ixa,c1,H.aF gq]
 refine (Es q.2.2 b a[i] r om w.rk.asc (w.si.mono (F2.trans f))).mono ?_
 rintro _ h3 ⟨k,c,rfl,o,_,U⟩
 cases c with
 |true=>
  simp(disch:=omega)only[go_sem,Bool.not_true];rw[eJ i]
  exact⟨a.length-(i+1),om,i+1,aB rfl,om,λj y Q=>by
   by_cases e:j=i
   ·subst e;exact o.1 rfl
   ·exact P j om Q,f.trans U,rfl⟩
 |false=>
  simp(disch:=omega)only[go_sem,Bool.not_false];refine⟨?_,F2.trans (f.trans U)⟩;congr 1;refine (List.all_eq_false.2 ⟨a[i],zG _,?_⟩).symm;rw[Qf];exact λh=>by have:=o.2 h;cases this
theorem abG (n B:Nat)(J:L.length<=5040)(k:Nm W n L h p a)(l:Nm W' n L h q b)(K:h.get B=some (.cells false (Bt n q)))(P:B<h.next):
  Ev T 55 [Zw n p,.ptr B 0] h (λv h'=>v= .bool (decide (a.length<b.length)&&a.all λi=>decide (i∈b))/\Fr h h'):=by
 obtain⟨z,F,y⟩:=k.one
 obtain⟨Z,Q,u3⟩:=l.one
 have Y:=k.rk.short
 have lb:=l.rk.short
 refine cV nH rfl ?_
 obtain⟨C,s⟩:=exI h.next
 obtain⟨O,A,R,x,N,m⟩:=dF s [aC n,p.1,p.2.1,p.2.2]
 have t:B≠C:=om
 have f:O.get B=some (.cells false (Bt n q)):=by rw[N B t];exact K
 have o:=k.si.lens
 rw[aQ] at o
 have w:=l.si.lens
 rw[aQ] at w
 by_cases j:(a.length:Int)<(b.length:Int)
 case neg=>
  have u:=bH j;have r:decide (a.length<b.length)=false:=bH om;simp(disch:=omega)only[go_sem,nH,aD,fZ h (a:= aC n) (b:=p.1) (c:=p.2.1) (d:=p.2.2) rfl z F y,s,A,H.aF f,H.aF x,o,w,u,r,Bool.false_and];exact m
 ·have u:=oQ j
  have r:decide (a.length<b.length)=true:=oQ om
  simp(disch:=omega)only[go_sem,nH,aD,fZ h (a:= aC n) (b:=p.1) (c:=p.2.1) (d:=p.2.2) rfl z F y,s,A,H.aF f,H.aF x,o,w,u,gU f,gU x]
  refine (aaV n J (k.mono m) (l.mono m)).mono ?_
  rintro _ U ⟨rfl,G⟩
  simp(disch:=omega)only[go_sem,r,Bool.true_and]
  exact m.trans G
end
section
variable {W W':Nat->Prop} {L:LN} {h:H}
theorem adF {p:V×V×V}{r:List Nat}(n j Q:Nat)(l:V)(ps:List (V×V×V))(rs:LN)(A:L.length<=5040)(hl:rs.length<1000000)(G:h.get j=some (.cells false [.ptr Q 0]))(Y:j<h.next)(P:h.get Q=some (.cells false [l]))(Z:Q<h.next)(sv:SV h l 4 (zB n ps))(al:aM (Nm W n L h) ps rs)(m:Nm W' n L h p r):
  Ev T 53 [Zw n p,.ptr j 0] h (λv h'=>v= .bool (Yc rs r)/\Fr h h'):=by
 obtain⟨z,O,w⟩:=m.one
 have U:=aM.length al
 refine cV xC rfl ?_
 obtain⟨B,t⟩:=exI h.next
 obtain⟨q,N,n1,K,u,k⟩:=dF t [aC n,p.1,p.2.1,p.2.2]
 have s:q.get j=some (.cells false [.ptr Q 0]):=by rw[u _ om];exact G
 have o:q.get Q=some (.cells false [l]):=by rw[u _ om];exact P
 simp(disch:=omega)only[go_sem,xC,aD,fZ h (a:= aC n) (b:=p.1) (c:=p.2.1) (d:=p.2.2) rfl z O w,t,N,H.aF s,H.aF o]
 refine (FW l 55 [.ptr B 0] n ps (λi=>decide ((rs.getD i []).length<r.length)&&(rs.getD i []).all λi=>decide (i∈r)) q (sv.mono k) om λi hi hh f=>?_).mono ?_
 ·have J:=(aM.get al i hi om).mono (k.trans f)
  rw[List.getD,dD om,Option.getD_some]
  exact abG n B A J (m.mono (k.trans f)) (by rw[f.get B om];exact K) (by have:=f.next;omega)
 rintro _ R ⟨⟨b,rfl,F⟩,y⟩
 simp(disch:=omega)only[go_sem]
 refine⟨?_,k.trans y⟩
 congr 1
 refine Py.2 (F.trans ?_)
 unfold Yc
 rw[List.any_eq_true]
 constructor
 ·rintro⟨i,hi,e⟩
  exact⟨_,bD om,e⟩
 ·rintro⟨x,hx,e⟩
  obtain⟨i,hi,rfl⟩:=zF.1 hx
  exact⟨i,om,by rw[List.getD,dD hi];exact e⟩
theorem OB {rs:LN}{i:Nat}(c:1<=i)(hi:i<rs.length):NH (rs.take (i+1))=if kP rs[i] (NH (rs.take i)) then rs[i] else NH (rs.take i):=by
 cases rs with
 |nil=>simp at hi
 |cons a l=>
  obtain⟨k,rfl⟩: ∃k,i=k+1:=⟨i- 1,om⟩
  have b:k<l.length:=by simpa using hi
  show (l.take (k+1)).foldl _ a=_;rw[List.take_succ_eq_append_getElem b,List.foldl_append]
  rfl
theorem aaF (n:Nat)(vl:V)(ps:List (V×V×V))(rs:LN)(hL:L.length<=5040)(hl:rs.length<1000000)(h0:0<rs.length)(sv:SV h vl 4 (zB n ps))(al:aM (Nm W n L h) ps rs):
  Ev T 57 [vl,.fn 58 [] []] h (λv h'=>(∃i,∃hi:i<ps.length,v=Zw n ps[i]/\rs.getD i []=NH rs)/\Fr h h'):=by
 have lp:=aM.length al
 have R:=zP sv
 have n0:0<ps.length:=om
 have one: ∀j (s:j<ps.length),ps[j].1.one=true/\ps[j].2.1.one=true/\ps[j].2.2.one=true:=λj s=>(aM.get al j s om).one
 have d0:decide ((ps.length:Int)<1)=false:=bH om
 refine cV eX rfl ?_
 obtain⟨B,hB⟩:=exI h.next
 obtain⟨h1,e1,n1,g1,q1,u⟩:=dF hB [aC 0,.aE,.aE,.aE]
 have F:=(Lu (sv.mono u) n0)
 obtain⟨id,a0,sh,row,_⟩:=F
 obtain⟨h2,e2,n2,g2,q2,f2⟩:=dF n1 [aC 0,.aE,.aE,.aE]
 obtain⟨h3,e3,n3,g3,q3⟩:=pJ h2 (B+1) (Bt n ps[0])
 obtain⟨o1,o2,o3⟩:=one 0 n0
 have ix:=sh.ixa .i64 0 om om
 simp only[Int.toNat_zero] at ix
 simp(disch:=omega)only[go_sem,eX,aD,hB,e1,R,d0,ix,row,n1,e2,kL h2 (B+1) 0 (a:= aC n) (b:=ps[0].1) (c:=ps[0].2.1) (d:=ps[0].2.2) rfl o1 o2 o3,g2,jS,e3]
 have J:Fr h1 h3:=⟨om,λq N=>by rw[q3 q om,q2 q om]⟩
 have F3:=u.trans J
 refine aH (λk' r m=> ∃(i j:Nat),(∃g:Nat->V,r= [vl,.fn 58 [] [],.ptr B 0,.ptr (B+1) 0,aC i,g 5,g 6,g 7])/\1<=i/\i<=ps.length/\(∃s:j<ps.length,m.get (B+1)=some (.cells false (Bt n ps[j])))/\rs.getD j []=NH (rs.take i)/\B+1<m.next/\Fr h1 m/\k'=ps.length-i) (ps.length- 1)
  ⟨1,0,aB rfl,om,om,⟨n0,g3⟩,?_,om,J,rfl⟩ ?_
 ·cases rs with
  |nil=>simp at h0
  |cons a l=>rfl
 rintro k' r m ⟨i,j,⟨g,rfl⟩,Z,hi,⟨s,gj⟩,K,nB,f,rfl⟩
 have gB:m.get B=some (.cells false [aC 0,.aE,.aE,.aE]):=by rw[f.get B om];exact g1
 obtain⟨w1,w2,w3⟩:=one j s
 by_cases x:(i:Int)<(ps.length:Int)
 case neg=>
  have d1:=bH x;obtain rfl:i=ps.length:=om
  obtain⟨G,e4,n4,g4,q4⟩:=pJ m B (Bt n ps[j]);rw[lp,List.take_length] at K;simp(disch:=omega)only[go_sem,R,d1,gU gj,kL m B 0 (a:= aC n) (b:=ps[j].1) (c:=ps[j].2.1) (d:=ps[j].2.2) rfl w1 w2 w3,gB,jS,e4,gU g4];exact⟨⟨j,s,rfl,K⟩,⟨by have:=(u.trans f).next;omega,λq N=>by rw[q4 q om,(u.trans f).get q N]⟩⟩
 have d1:=oQ x
 have p:i<ps.length:=om
 obtain⟨Q,A,z,t,Y⟩:=Lu (sv.mono (u.trans f)) p
 have mi:=aM.get al i p om
 have mj:=aM.get al j s om
 have fb: ∀k,m.next<=k->Fr m (H.mk m.tr k):=λk hk=>(Fr.refl m).bA hk
 simp(disch:=omega)only[go_sem,R,d1,z.ixa,t,gU gj]
 refine (ET n hL (mi.mono ((u.trans f).trans (fb _ om))) (mj.mono ((u.trans f).trans (fb _ om)))).mono ?_
 rintro _ G ⟨rfl,f4⟩
 have o:=(fb _ om).trans f4
 have w:G.get (B+1)=some (.cells false (Bt n ps[j])):=by rw[o.get _ nB];exact gj
 have r4:G.row Q (A+i*4) 4=some (Bt n ps[i]):=by rw[DL o Y];exact t
 have U:=mi.eq
 have ej:=mj.eq
 simp(disch:=omega)only[go_sem,gU w,r4,U.1,U.2.1,U.2.2,ej.1,ej.2.1,ej.2.2]
 have P:=OB (rs:=rs) Z om
 have lx:=Uq rs[i] rs[j]
 have y:rs[j]=NH (rs.take i):=by rw[←K,List.getD,dD om];rfl
 have n4:=o.next
 by_cases O:Hx rs[i] rs[j]<0
 ·have d2:=oQ O
  rw[bF (by rw[←y];exact lx.1 O)] at P
  obtain⟨a1,a2,a3⟩:=one i p
  obtain⟨h5,e5,n5,g5,q5⟩:=pJ G (B+1) (Bt n ps[i])
  simp(disch:=omega)only[go_sem,d2,z.ixa,r4,kL G (B+1) 0 (a:= aC n) (b:=ps[i].1) (c:=ps[i].2.1) (d:=ps[i].2.2) rfl a1 a2 a3,w,jS,e5]
  rw[eJ i]
  exact⟨ps.length-(i+1),om,i+1,i,aB rfl,om,om,⟨p,g5⟩,by rw[P,List.getD,dD om];rfl,om,⟨by have:=f.next;omega,λq N=>by rw[q5 q om,o.get q (by have:=f.next;omega),f.get q N]⟩,rfl⟩
 ·have d2:=bH O
  rw[bI (by rw[←y];exact λh=>O (lx.2 h))] at P
  simp(disch:=omega)only[go_sem,d2]
  rw[eJ i]
  exact⟨ps.length-(i+1),om,i+1,j,aB rfl,om,om,⟨s,w⟩,by rw[P];exact K,om,f.trans o,rfl⟩
end
structure xJ (n:Nat)(G:List Nat->Prop)(L:LN)(r:List Nat):Prop where
 rk:Rk L (RG L r) r
 dN:iX n (RG L r)
 nm: ∀y g,RG L r y->G g->RG L r (cW y g)
 le: ∀x,RG L r x->G x
section
variable {n:Nat} {G:List Nat->Prop} {L:LN} {K r:List Nat} {i:Nat} (hG:iX n G) (E:dW G L)
include hG E
omit hG in
theorem xJ.Pz {N:List Nat->Prop}(a:iX n N)(le: ∀x,N x->G x)(b: ∀y g,N y->G g->N (cW y g)):xJ n G L (Pz L N):=by
 have k:=Dy L N;have e:N=RG L (Go.Proofs.YtcdbmkidaecdiaaGreat.Pz L N):=funext λx=>propext (k.iff E le x)
 exact⟨k.self E,by rw[←e];exact a,by rw[←e];exact b,by rw[←e];exact le⟩
theorem WA:xJ n G L (Pz L λx=>x=bL n):=
 xJ.Pz E (Vu n) (λx h=>by rw[h];exact hG.one) λy g b a=>by rw[b];exact Ro (hG.cU a)
theorem akE (k:xJ n G L r)(hi:i<L.length):xJ n G L (yR n G L r i):=by
 have a:=oS E hi;exact xJ.Pz E (Lb.dN hG k.le a) (λx h=>Lb.le hG k.le a h) λy g c b=>NC.cj c b
omit hG E in
theorem Bj (j:Nat):j∈yR n G L r i↔j<L.length/\Lb n G (RG L r) (L.getD i []) (L.getD j []):=(Dy L _).mem j
omit hG E in
theorem Gw (k:xJ n G L r)(hi:i<L.length)(d:i∉r):(∀x∈r,x∈yR n G L r i)/\i∈yR n G L r i/\r.length<(yR n G L r i).length:=by
 have a: ∀x∈r,x∈yR n G L r i:=λx c=>(Bj x).2 ⟨((k.rk.mem x).1 c).1,NC.of (.inl ⟨x,c,rfl⟩)⟩
 have b:i∈yR n G L r i:=(Bj i).2 ⟨hi,NC.of (.inr rfl)⟩;refine⟨a,b,?_⟩;have nd:(i::r).Nodup:=List.nodup_cons.2 ⟨d,k.rk.asc.imp λh=>Nat.ne_of_lt h⟩
 have:=List.Nodup.length_le_of_subset (l₂:=yR n G L r i) nd λx c=>by
  rcases zH.1 c with rfl|c
  ·exact b
  ·exact a x c
 rw[List.length_cons] at this;omega
theorem adC (k:xJ n G L r)(f:Cm n G L K)(q:r.length<L.length):XC n G L r K≠ []:=by
 intro e
 have all: ∀i,i∈K->i∈r:=λi hi=>Jg λo=>by
  have:yR n G L r i∈XC n G L r K:=Ft.2 ⟨i,hi,o,rfl⟩;rw[e] at this;cases this
 have: ∀j,j<L.length->j∈r:=λj a=>by
  obtain⟨s,p,l,g,h,e⟩:=Vo hG E a;have d:s∈K:=f.perm.mem_iff.2 (kV.2 ⟨om,l⟩);obtain⟨t,b,c⟩:=k.nm _ _ ⟨s,all s d,rfl⟩ h;have:t=j:=yK E.nodup ((k.rk.mem t).1 b).1 a (c.trans e);rw[←this];exact b
 have:=List.Nodup.length_le_of_subset (l₁:=List.range L.length) (l₂:=r) List.nodup_range λx m=>this x (Gu.1 m)
 rw[NM] at this;omega
theorem Fv (k:xJ n G L r)(d:Cm n G L K)(v:r.length<L.length):(∃i,i∈K/\i∉r/\Pw n G L K r=yR n G L r i)/\xJ n G L (Pw n G L K r)/\r.length<(Pw n G L K r).length/\
  ∀j,j∈K->j∉r->(∀x∈yR n G L r j,x∈Pw n G L K r)->yR n G L r j=Pw n G L K r:=by
 have t:=aaS (TM (adC hG E k d v))
 have e:NH (IN (XC n G L r K))=Pw n G L K r:=rfl
 rw[e] at t
 obtain⟨w,o⟩:=CH.1 t
 obtain⟨i,hi,c,e⟩:=Ft.1 w
 have a:=d.lt hi
 refine⟨⟨i,hi,c,e⟩,by rw[e];exact akE hG E k a,by rw[e];exact (Gw k a c).2.2,λj p m b=>?_⟩
 have q:=(akE hG E k (d.lt p)).rk
 have u:Rk L (RG L (Pw n G L K r)) (Pw n G L K r):=by rw[e];exact (akE hG E k a).rk
 have s:=q.asc.imp λh=>Nat.ne_of_lt h
 have A:=List.Nodup.length_le_of_subset s b
 have z:(Pw n G L K r).length<=(yR n G L r j).length:=by
  refine Nat.le_of_not_lt λh=>?_
  rw[Bool.not_eq_true'] at o;have:=List.any_eq_false.1 o _ (Ft.2 ⟨j,p,m,rfl⟩);rw[vN,Qf,Kv] at this;exact this ⟨h,λx l=>oQ (b x l)⟩
 refine VD q.asc u.asc λx=>⟨b x,λl=>Jg λc=>?_⟩
 have:=List.Nodup.length_le_of_subset (List.nodup_cons.2 ⟨c,s⟩) (l₂:=Pw n G L K r) λy f=>by
  rcases zH.1 f with rfl|f
  ·exact l
  ·exact b y f
 rw[List.length_cons] at this
 omega
end
structure Ql (n:Nat)(G:List Nat->Prop)(L:LN)(K:List Nat)(rs:LN)(r:List Nat):Prop where
 hd:rs[0]? =some (Pz L λx=>x=bL n)
 st: ∀k a b,rs[k]? =some a->rs[k+1]? =some b->a.length<L.length/\b=Pw n G L K a
 la:rs[rs.length- 1]? =some r
 all: ∀a∈rs,xJ n G L a
 len:rs.length<=r.length
structure Ky (n:Nat)(G:List Nat->Prop)(L:LN)(K:List Nat)(rs:LN):Prop where
 ex: ∃r,Ql n G L K rs r/\r.length=L.length
section
variable {n:Nat} {G:List Nat->Prop} {L:LN} {K r:List Nat} {rs:LN} (hG:iX n G) (E:dW G L)
include hG E
theorem Ql.start:Ql n G L K [Pz L λx=>x=bL n] (Pz L λx=>x=bL n):=by
 refine⟨rfl,λk a b f c=>by simp at c,rfl,λa d=>by rw[List.mem_singleton.1 d];exact WA hG E,?_⟩;obtain⟨i,hi,e⟩:=zF.1 ((E.mem _).2 hG.one);have:i∈Pz L λx=>x=bL n:=((Dy L _).mem i).2 ⟨hi,by rw[List.getD,dD hi];exact e⟩
 exact HJ this
theorem Ql.push (c:Ql n G L K rs r)(t:Cm n G L K)(l:r.length<L.length):Ql n G L K (rs++ [Pw n G L K r]) (Pw n G L K r):=by
 have q:0<rs.length:=by
  have:=(Ax.1 c.hd).1;exact this
 have s:xJ n G L r:=c.all r (AW c.la);obtain⟨_,o,v,_⟩:=Fv hG E s t l;refine⟨by rw[Dv q];exact c.hd,λk a b f d=>?_,by rw[jZ];show (rs++_)[rs.length+1- 1]? =_;rw[Nat.add_sub_cancel,Sj (fM _),Nat.sub_self];rfl,λa u=>?_,by rw[jZ];show rs.length+1<=_;have:=c.len;omega⟩
 ·by_cases e:k+1<rs.length
  ·rw[Dv om] at f
   rw[Dv e] at d;exact c.st k a b f d
  ·have j:=(Ax.1 d).1
   rw[jZ] at j;have j:k+1<rs.length+1:=j;have p:k+1=rs.length:=om
   rw[Dv om] at f;rw[Sj om,p,Nat.sub_self] at d;have m:=c.la;rw[show rs.length- 1=k by omega] at m;rw[m] at f;cases f;cases d;exact⟨l,rfl⟩
 ·rcases pH.1 u with h|h
  ·exact c.all a h
  ·rw[List.mem_singleton.1 h];exact o
end
def AV (W:Nat->Prop)(n:Nat)(L:LN)(h:H)(p:V×V)(r:List Nat):Prop:= ∃O R,GC W h (.agg [aC n,p.1,p.2]) n O R (RG L r)
theorem AV.go {W W':Nat->Prop}{n:Nat}{L:LN}{h h':H}{p:V×V}{r:List Nat}(g:AV W n L h p r)(f:Fx W h h')(a: ∀q,q<h.next->W' q->W q):AV W' n L h' p r:=by
 obtain⟨O,R,g⟩:=g;exact⟨O,R,g.go f a⟩
structure WkJ (n:Nat)(L:LN)(Q:Nat)(h0 hh:H)(fd:LN):Prop where
 g8:hh.get (Q+1)=aZ [.ptr Q 0]
 ex: ∃vf,hh.get Q=aZ [vf]/\NmL (λq=>q<Q+2) n L (Q+2) hh vf fd
 fr:Fr h0 hh
 nx:Q+2<=hh.next
 len:fd.length<=6000
theorem VV {n:Nat}{G:List Nat->Prop}{L:LN}{r:List Nat}: ∀(K:List Nat) (l:LN),(K.foldl (λl i=>if i∈r then l else tF l (yR n G L r i)) l).length<=l.length+K.length
 | [],l=>fM _
 |k::K,l=>by
  rw[List.foldl_cons,List.length_cons];refine mT (VV K _) ?_;split
  ·omega
  ·unfold tF
   split
   ·omega
   ·rw[jZ];show l.length+1+_<=_;omega
theorem Vv {α:Type}[Inhabited α](l:List (List α))(f:List α->Bool):nY (λi=>f (l.getD i [])) l=l.filter λa=>!f a:=by
 have b: ∀i,i<=l.length->nY (λi=>f (l.getD i [])) (l.take i)=(l.take i).filter λa=>!f a:=by
  intro i
  induction i with
  |zero=>exact λ_=>rfl
  |succ i ih=>
   intro hi;rw[qJ om,ih om,List.take_succ_eq_append_getElem om,List.filter_append,List.getD,dD om,Option.getD_some];cases h:f l[i]<;>simp [h]
 have:=b l.length (fM _);rwa [List.take_length] at this
def Xa (h:H):V->Option (V×H)
 | .nilm=>some (aC 0,h)
 | .mp id=>match h.get id with|some (.map es)=>some (aC es.length,h)|some (.wmap _ es)=>some (aC es.length,h)|_=>none
 |_=>none
theorem Xi (ρ:X->V)(h:H)(x:X):cI ρ h (.lenm x)=Xa h (ρ x):=by
 simp only[cI,Xa]
 rfl
theorem NW {h:H}{M:Nat}{L:LN}(g:h.get M=some (.wmap .str (Ie L L.length))):Xa h (.mp M)=some (aC (L.length:Int),h):=by
 show (match h.get M with|some (.map es)=>some (aC es.length,h)|some (.wmap _ es)=>some (aC es.length,h)|_=>none)=_;rw[g];simp [Ie]
theorem Ph {W0:Nat->Prop}(vc:V)(n:Nat)(O:LN)(R:jI)(G:List Nat->Prop)(h:H)(gc:GC W0 h vc n O R G):
  Ev T 12 [vc] h (λv h'=> ∃vl ls L K rs,v= .tup [vl,aC 0]/\cZ O R n 0 (bL n)=L/\Cm n G L K/\Ky n G L K rs/\SV h' vl 3 (Kr n ls)/\aM (AV (λ_=>False) n L h') ls rs/\Fr h h'):=by
 obtain⟨vO,vR,rfl,e8,i1⟩:=gc.shape
 refine cV Ak rfl ?_
 obtain⟨A,hA⟩:=exI h.next
 obtain⟨h1,e1,n1,g1,q1,f1⟩:=dF hA [aC n,vO,vR]
 simp(disch:=omega)only[go_sem,Ak,aD,bM h (v:= aC n) (u:=vO) (w:=vR) rfl e8 i1,hA,e1,aI g1]
 refine (FX _ n O R G h1 (gc.mono f1)).mono ?_
 rintro _ J ⟨T0,L,K,rfl,zC,f2⟩
 obtain⟨ll,E,hG,m3,n0,n7⟩:=zC.few
 have ik:=zC.isK
 have eL:=zC.hL
 have F2:=f1.trans f2
 simp(disch:=omega)only[go_sem]
 refine aW (λhc=>(hc rfl).elim) (λ_=>?_)
 simp(disch:=omega)only[go_sem]
 refine (EU T0 n O R G L K J zC).mono ?_
 rintro _ h3 ⟨p0,rfl,c9,f3⟩
 obtain⟨o1,o2,o3⟩:=c9.one
 obtain⟨y,e7⟩:=exI h3.next
 obtain⟨h4,e4,n4,g4,q4,f4⟩:=dF e7 [aC 0,.aE,.aE,.aE]
 obtain⟨h5,e5,n5,g5,q5⟩:=pJ h4 y (Bt n p0)
 obtain⟨h6,e6,n6,g6,q6,f6⟩:=dF (h:=h5) (n5.trans n4) [aC n,p0.1,p0.2.1]
 have i5: ∀{t:H} {id:Nat} {a b c d:V},t.get id=aZ [a,b,c,d]->t.row id 0 3=some [a,b,c]:=λhg=>by simp [H.row,hg,sub]
 simp(disch:=omega)only[go_sem,e7,e4,kL h4 y 0 (a:= aC n) (b:=p0.1) (c:=p0.2.1) (d:=p0.2.2) rfl o1 o2 o3,g4,jS,e5,i5 g5,Vj h5 (d:=(n:Int)) o1 o2,n5,n4,e6]
 have m2:=f3.next
 have k6:Fr J h6:=⟨om,λq hq=>by rw[q6 q om,q5 q om,q4 q om,f3.get q hq]⟩
 have d8:h6.get y=aZ (Bt n p0):=by rw[q6 _ om];exact g5
 have l0:Fr h3 h6:=⟨om,λq hq=>by rw[q6 q om,q5 q om,q4 q om]⟩
 have w0: ∀q,q<h3.next->(q=y∨dO (.sl (y+1) 0 1 (.kn 1)) q)->q<J.next:=λq h1 J=>by
  rcases J with e|⟨_,_,_,e⟩
  ·omega
  ·cases e;omega
 have c3:Nm (λq=>q=y∨dO (.sl (y+1) 0 1 (.kn 1)) q) n L h6 p0 (Pz L λx=>x=bL n):=(c9.go (Fx.refl _ _) w0).mono l0
 obtain⟨K',m0⟩: ∃x,K=x:=⟨_,rfl⟩
 refine aH (λk' N t=> ∃(r:List Nat) (p:V×V×V) (vl:V) (ls:List (V×V)) (rs:LN),(∃g:Nat->V,N= [g 0,g 1,g 2,g 3,.ptr T0 0,g 5,.ptr y 0,vl,g 8,g 9,g 10,g 11,g 12,g 13,g 14,g 15,g 16,g 17])/\t.get y=aZ (Bt n p)/\Nm (λq=>q=y∨dO vl q) n L t p r/\cY t vl 3 (Kr n ls) (y+1)/\aM (AV (λq=>q=y∨dO vl q) n L t) ls rs/\Ql n G L K rs r/\Fr J t/\y<t.next/\k'=L.length-r.length) (L.length-(Pz L λx=>x=bL n).length)
  ⟨_,p0,_, [(p0.1,p0.2.1)], [Pz L λx=>x=bL n],aB rfl,d8,c3,.inr ⟨y+1,1,_, [],rfl,rfl,.inr ⟨rfl,rfl⟩,om,om,g6⟩,⟨c3.ch,trivial⟩,Ql.start hG E,k6,om,rfl⟩ ?_
 clear c3 w0 d8 g6 q6 q5 g5 g4 q4 c9
 rintro k' N t ⟨r,p,vl,ls,rs,⟨g,rfl⟩,g6,nm,ow,al,cb,F,i6,rfl⟩
 have kr:xJ n G L r:=cb.all r (AW cb.la)
 obtain⟨lO,lR,M,lr,gT,gM,_,d9,nM⟩:=(zC.mono F).ex
 have lv:=nm.si.lens
 rw[aQ] at lv
 have lm: ∀k,Xa (H.mk t.tr k) (.mp M)=some (aC (L.length:Int),H.mk t.tr k):=λk=>NW gM
 by_cases d6:(r.length:Int)<(L.length:Int)
 case neg=>
  have d1:=bH d6;simp(disch:=omega)only[go_sem,H.aF g6,H.aF gT,lv,Xi,lm,d1];have fb:Fr t (H.mk t.tr (t.next+9)):=(Fr.refl t).bA om;exact⟨vl,ls,L,K,rs,rfl,eL,ik,⟨r,cb,by have:=kr.rk.short;omega⟩,ow.sv.mono fb,aM.mono (λ_ _ x=>AV.go x (Fx.of fb) λ_ _ h=>h.elim) al,F2.trans (F.trans fb)⟩
 have d1:=oQ d6
 have hr:r.length<L.length:=om
 obtain⟨hx,a6⟩: ∃x,H.mk t.tr (t.next+9)=x:=⟨_,rfl⟩
 have fx:Fr t hx:=by rw[←a6];exact (Fr.refl t).bA om
 have nx:hx.next=t.next+9:=by rw[←a6]
 obtain⟨Q,hQ⟩:=exI hx.next
 obtain⟨ha,ea,na,ga,qa,fa⟩:=dF hQ [.aE]
 obtain⟨hb,eb,nb,gb,qb,fb⟩:=dF na [.nilp]
 obtain⟨hI,eI,nI,gI,qI⟩:=pJ hb (Q+1) [.ptr Q 0]
 have bx:Cv hx (.agg [.aE])=some (.ptr Q 0,ha):=by rw[←ea,←hQ];rfl
 have pt: ∀(t:H) (id:Nat) (u w:V),dX (aZ [u]) t id 0 [w]=some (t.set id (aZ [w])):=λt id u w=>bN (by simp) t _ _
 have fI:Fr t hI:=⟨om,λq hq=>by rw[qI q om,qb q om,qa q om,fx.get q hq]⟩
 have FI:=F.trans fI
 have k4:=(zC.mono F).nx
 have f5: ∀h',Fr t h'->h'.get T0=aZ [aC n,lO,lR,.mp M,lr]:=λh' f=>by rw[f.get T0 k4];exact gT
 have a8: ∀h',Fr t h'->h'.get y=aZ (Bt n p):=λh' f=>by rw[f.get y i6];exact g6
 have kl:K.length<=L.length:=by
  have:=List.Nodup.length_le_of_subset (l₂:=List.range L.length) ik.nd λx hx=>Gu.2 (ik.lt hx)
  rwa [NM] at this
 have h0:=d9.lens
 simp only[jV] at h0
 have j3:Xa hx (.mp M)=some (aC (L.length:Int),hx):=by rw[←a6];exact lm _
 simp(disch:=omega)only[go_sem,a6,H.aF (a8 hx fx),H.aF (f5 hx fx),lv,Xi,j3,d1,show rO [.aE] []=some (.agg [.aE]) from rfl,a6,bx,na,eb,Fw (show (V.ptr Q 0).cells= [V.ptr Q 0] from rfl) rfl,gb,pt,eI,H.aF (f5 hI fI),h0]
 obtain⟨fs,a0⟩: ∃f:LN->Nat->LN,(λl i=>if i∈r then l else tF l (yR n G L r i))=f:=⟨_,rfl⟩
 have k8: ∀i,i<=K.length->((K.take i).foldl fs []).length<=i:=λi hi=>by
  have:=VV (n:=n) (G:=G) (L:=L) (r:=r) (K.take i) [];rw[a0,Fj,Nat.min_eq_left hi] at this;simpa using this
 refine bJ (λvs h'=>(∃g:Nat->V,vs= [g 0,g 1,g 2,g 3,.ptr T0 0,g 5,.ptr y 0,vl,.ptr (Q+1) 0,g 9,g 10,g 11,g 12,g 13,g 14,g 15,g 16,g 17])/\WkJ n L Q t h' (XC n G L r K)) ?_ ?_
 ·refine aH (λk' N h'=> ∃(i:Nat),(∃g:Nat->V,N= [g 0,g 1,g 2,g 3,.ptr T0 0,g 5,.ptr y 0,vl,.ptr (Q+1) 0,g 9,g 10,g 11,g 12,lr,aC (K.length:Int),aC i,g 16,g 17])/\i<=K.length/\WkJ n L Q t h' ((K.take i).foldl fs [])/\k'=K.length-i) K.length
   ⟨0,aB rfl,iJ _,⟨gI,⟨.aE,by rw[qI _ om,qb _ om];exact ga, [],cY.aE _ _ _,trivial,λ_ _ _ _ e=>by cases e⟩,fI,om,by show 0<=6000;omega⟩,rfl⟩ ?_
  rintro k' N h7 ⟨i,⟨g,rfl⟩,hi,W,rfl⟩
  by_cases d7:(i:Int)<(K.length:Int)
  case neg=>
   have d2:=bH d7;obtain rfl:i=K.length:=om
   rw[List.take_length,←a0] at W;simp(disch:=omega)only[go_sem,d2];exact⟨aB rfl,W⟩
  have d2:=oQ d7
  have a4:i<K.length:=om
  have F7:=W.fr
  obtain⟨id,z,ws,sh,g7,l1,hc,g2⟩:=d9.open
  simp only[jV] at sh g7 l1 hc
  have ci:h7.cell id (z+i)=some (ws.getD i .undef):=by rw[F7.cell (g7 om),hc i a4]
  have s0:=(Ml g2 (i:=i) (by rw[jV];exact a4)).mono F7
  have eK:(K.map λr=>L.getD r []).getD i []=L.getD K[i] []:=by rw[List.getD,Ol,dD a4];rfl
  rw[eK] at s0
  have c5:=ik.lt (zG a4)
  generalize ws.getD i .undef=vx at ci s0
  have step:(K.take (i+1)).foldl fs []=fs ((K.take i).foldl fs []) K[i]:=by rw[List.take_succ_eq_append_getElem a4,List.foldl_append,List.foldl_cons,List.foldl_nil]
  have a5:=k8 (i+1) om
  rw[step] at a5
  obtain⟨B,b4⟩:=exI ((K.take i).foldl fs [])
  rw[b4] at W step a5
  obtain⟨k,hk⟩:=exI (K[i])
  rw[hk] at s0 c5 step a5
  simp(disch:=omega)only[go_sem,d2,sh.ixa,ci,gU (a8 h7 F7)]
  refine (GQ T0 p vx n O R G L K r k h7 (zC.mono (F.trans F7)) (nm.mono F7) c5 s0).mono ?_
  rintro _ h8 ⟨rfl,Z⟩
  have W8:WkJ n L Q t h8 B:=by
   obtain⟨vf,gQ,ml⟩:=W.ex;have:=W.nx;have:=Z.next;exact⟨by rw[Z.get _ om];exact W.g8,⟨vf,by rw[Z.get _ om];exact gQ,ml.mono Z⟩,F7.trans Z,om,W.len⟩
  by_cases b1:k∈r
  ·have d3:=oQ b1
   rw[←a0] at step
   simp only[bF b1] at step
   simp(disch:=omega)only[go_sem,d3,Bool.not_true]
   rw[eJ i]
   exact⟨K.length-(i+1),om,i+1,aB rfl,om,by rw[←a0,step];exact W8,rfl⟩
  ·have d3:=bH b1
   rw[←a0] at step a5
   simp only[bI b1] at step a5
   have F8:=W8.fr
   have b3: ∀m,h8.next<=m->Fr h8 (H.mk h8.tr m):=λm hm=>(Fr.refl h8).bA hm
   simp(disch:=omega)only[go_sem,d3,Bool.not_false,H.aF W8.g8,gU (a8 h8 F8)]
   refine (Xn T0 p vx n O R G L K r k _ (zC.mono (F.trans (F8.trans (b3 _ om)))) (nm.mono (F8.trans (b3 _ om))) c5 (s0.mono (Z.trans (b3 _ om)))).mono ?_
   rintro _ h9 ⟨q,rfl,nq,f9⟩
   have a3:=(b3 _ om).trans f9
   have F9:=F8.trans a3
   obtain⟨vf,j8,ml⟩:=W8.ex
   have n8:=W8.nx
   have n9:=a3.next
   have d5:h9.get (Q+1)=aZ [.ptr Q 0]:=by rw[a3.get _ om];exact W8.g8
   have k3:h9.get Q=aZ [vf]:=by rw[a3.get _ om];exact j8
   have c4: ∀s,dO vf s->s<h8.next:=λs ⟨z,m,c,e⟩=>by
    obtain⟨ps,o,_⟩:=ml.ex;exact (o.in _ _ _ _ e).1
   have j4:Nm (λq=>q<Q+2∨dO vf q) n L h9 q (yR n G L r k):=nq.go (Fx.refl _ _) λs _ h=>by
    rcases h with h|h
    ·show s<h8.next+6
     omega
    ·have:=c4 s h
     show s<h8.next+6;omega
   have eQ:dE (.ptr Q 0) (.ptr Q 0)=true:=by simp [dE]
   have i3: ∀s,dO vf s->Q+2<=s:=λs ⟨z,m,c,e⟩=>by
    obtain⟨ps,o,_⟩:=ml.ex;exact (o.in _ _ _ _ e).2.1
   simp(disch:=omega)only[go_sem,H.aF d5,eQ]
   refine (FQ n L (Q+2) Q vf B q _ h9 (ml.mono a3) om j4 k3 om (λh=>by have:=i3 Q h;omega) (by show Q<Q+2;omega) ll (by have:=W8.len;omega)).mono ?_
   rintro _ U ⟨rfl,j6,j2,l4,b7,_⟩
   have l2:=b7.next
   have nh:=F9.next
   simp(disch:=omega)only[go_sem]
   rw[eJ i]
   have e0: ∀s,s≠Q->s<Q+2->U.get s=h9.get s:=λs h1 J=>b7.get s om λh=>h.elim (λh=>h1 h) λh=>by have:=i3 _ h;omega
   have k9:WkJ n L Q t U (tF B (yR n G L r k)):=⟨by rw[e0 _ om om];exact d5,⟨j6,j2,l4⟩,⟨om,λs hq=>by rw[e0 s om om];exact F9.get s hq⟩,om,om⟩
   exact⟨K.length-(i+1),om,i+1,aB rfl,om,by rw[←a0,step];exact k9,rfl⟩
 rintro N h7 ⟨⟨g,rfl⟩,W⟩
 obtain⟨vf,f0,ml⟩:=W.ex
 obtain⟨ps,d4,c7,_⟩:=ml.ex
 have F7:=W.fr
 have l8:=W.nx
 have d0:=adC hG E kr ik hr
 obtain⟨B,b4⟩:=exI (XC n G L r K)
 rw[b4] at W ml c7 d0
 have m8:=aM.length c7
 have l6:0<B.length:=List.length_pos_iff.2 d0
 have fl:=W.len
 simp(disch:=omega)only[go_sem,H.aF W.g8,H.aF f0]
 refine (KG vf (zB n ps) ps.length h7 (mH n ps) om om d4.sv).mono ?_
 rintro _ h8 ⟨a7,k2,g3,rfl,g0,l7,i0,j0,Z⟩
 simp(disch:=omega)only[go_sem]
 have c4: ∀s,dO vf s->s<h7.next:=λs ⟨z,m,c,e⟩=>(d4.in _ _ _ _ e).1
 have c6:aM (Nm (λq=>q<Q+2∨q=a7) n L h8) ps B:=aM.mono (λ_ _ x=>Nm.go x (Fx.of Z) λs h1 J=>J.imp id λe=>om) c7
 refine (abI a7 ps.length k2 g3 53 [.ptr (Q+1) 0] n ps (λi=>Yc B (B.getD i [])) h8 i0 j0 g0 rfl om om (λs hq=>?_) λi hi h' a2=>?_).mono ?_
 ·obtain⟨i,hi,rfl⟩:=zF.1 hq
  exact (aM.get c6 i hi om).one
 ·have n8:=Z.next
  have n':=a2.next
  have g9:aM (Nm (λq=>q<Q+2) n L h') ps B:=aM.mono (λ_ _ x=>Nm.go x (Fx.wide a2 λs h=> .inr h) λs _ h=> .inl h) c6
  have mi:=aM.get g9 i hi om
  rw[List.getD,dD om,Option.getD_some]
  refine adF n (Q+1) Q vf ps B ll om ?_ om ?_ om (SV.fx (d4.sv.mono Z) (W:=λq=>q=a7) ?_ a2) g9 mi
  ·rw[a2.get _ om om,Z.get _ om];exact W.g8
  ·rw[a2.get _ om om,Z.get _ om];exact f0
  ·cases vf with
   |sl q z m c=>exact λ(e:q=a7)=>by have:=c4 q ⟨z,m,c,rfl⟩;omega
   |_=>trivial
 rintro vk h9 ⟨e9,c1⟩
 have n8:=Z.next
 have n9:=c1.next
 have Y:=BD (P:=λi=>Yc B (B.getD i [])) (aM.mono (λ_ _ x=>Nm.go (W':=λq=>q<Q+2) x (Fx.wide c1 λs h=> .inr h) λs _ h=> .inl h) c6)
 have ek:nY (λi=>Yc B (B.getD i [])) B=IN B:=Vv B _
 rw[ek] at Y
 have k1:=List.length_pos_iff.2 (TM d0)
 have m1:(IN B).length<=B.length:=List.length_filter_le _ _
 obtain⟨pk,i9⟩:=exI (nY (λi=>Yc B (B.getD i [])) ps)
 rw[i9] at e9 Y
 simp(disch:=omega)only[go_sem]
 refine (aaF n vk pk (IN B) ll om k1 e9 Y).mono ?_
 rintro _ U ⟨⟨j,hj,rfl,i8⟩,c2⟩
 have l2:=c2.next
 have Fm:Fr t U:=⟨by have:=F7.next;omega,λs hq=>by
  have:=F7.next;rw[c2.get s om,c1.get s om om,Z.get s om]
  exact F7.get s hq⟩
 have k5:NH (IN B)=Pw n G L K r:=by rw[←b4];rfl
 have mj:=(aM.get Y j hj (by have:=aM.length Y;omega)).mono c2
 have ej:(IN B)[j]'(by have:=aM.length Y;omega)=Pw n G L K r:=by rw[←k5,←i8,List.getD,dD (by have:=aM.length Y;omega)];rfl
 rw[ej] at mj
 generalize pk[j]=pn at mj
 obtain⟨o1,o2,o3⟩:=mj.one
 have f7:=a8 U Fm
 obtain⟨b0,k7,n2,i2,c8⟩:=pJ U y (Bt n pn)
 obtain⟨C,hC⟩:=exI b0.next
 obtain⟨b2,j5,o4,l3,a1,m7⟩:=dF hC [aC n,pn.1,pn.2.1]
 have l9:=Fm.next
 have b5: ∀s,dO vl s->y+1<=s/\s<t.next:=λs ⟨z,m,c,e⟩=>by
  have:=ow.in _ _ _ _ e;omega
 have j9: ∀s,dO vl s->s≠y:=λs hb=>by have:=b5 s hb;omega
 have m5:=aM.length al
 have n3:=cb.len
 have o0:=kr.rk.short
 have j7: ∀s,s<b0.next->b2.get s=b0.get s:=λs h=>a1 s om
 have l5:Fx (· =y) U b2:=⟨om,λs h1 J=>by rw[a1 s om,c8 s J]⟩
 have e3:cY b2 vl 3 (Kr n ls) (y+1):=ow.zA om λid z m c e h=>by
  have:=b5 id ⟨z,m,c,e⟩;rw[a1 _ om,c8 _ om];exact Fm.get id h
 obtain⟨b6,j1,a9⟩:=(e3.le (iJ _)).push (bytes:=56) (SV.all (sz:=3) (len:=1) (vs:= [aC n,pn.1,pn.2.1]) rfl om l3 (.kn 1)) (n:=ls.length) (m:=1) (lC n ls) rfl om om om
 have m4:=a9.next
 simp(disch:=omega)only[go_sem,kL U y 0 (a:= aC n) (b:=pn.1) (c:=pn.2.1) (d:=pn.2.2) rfl o1 o2 o3,f7,jS,k7,i5 i2,Vj b0 (d:=(n:Int)) o1 o2,hC,j5,j1]
 have nF:=F.next
 have ap: ∀s,¬dO vl s->dL vl s:=λs h id z m c e e2=>h (by rw[e,e2];exact⟨_,_,_,rfl⟩)
 have b8:Fx (λq=>q=y∨dO vl q) U b6:=⟨om,λs h1 J=>by rw[a9.old s om (ap s λh=>J (.inr h)),a1 s om,c8 s λh=>J (.inl h)]⟩
 have b9:Fx (λq=>q=y∨dO vl q) t b6:=⟨om,λs h1 J=>by rw[b8.get s om J];exact Fm.get s h1⟩
 have k0:Fr J b6:=⟨om,λs hq=>by rw[b9.get s om λh=>h.elim (λh=>om) λh=>by have:=b5 s h;omega];exact F.get s hq⟩
 have c0:Nm (λq=>q=y∨dO (.sl b2.next 0 (ls.length+1) (.un 3)) q) n L b6 pn (Pw n G L K r):=mj.go (Fx.wide b8 λs h=>h.elim (λh=>(by omega:s<Q+2)) λh=>(by have:=b5 s h;omega:s<Q+2)) λs h1 J=>J.elim (λh=>(by omega:s<Q+2)) λ⟨z,m,c,e⟩=>by cases e;omega
 obtain⟨st1,i7,m9,_⟩:=Fv hG E kr ik hr
 have m6:=i7.rk.short
 have i4:=a9.own (b:=y+1) (lC n ls) rfl om
 refine⟨L.length-(Pw n G L K r).length,om,Pw n G L K r,pn,_,ls++ [(pn.1,pn.2.1)],rs++ [Pw n G L K r],aB rfl,?_,c0,by rw[Tt];exact i4,aM.append (aM.mono (λ_ _ x=>AV.go x b9 λs h1 J=>J.imp id λ⟨z,m,c,e⟩=>by cases e;omega) al) ⟨c0.ch,trivial⟩,cb.push hG E ik hr,k0,om,rfl⟩
 rw[a9.old y om (ap y λh=>j9 y h rfl),a1 y om]
 exact i2
def vT (n:Nat):List Nat:=if n>9 then vT (n/10)++ [48+n%10] else [48+n]
theorem Yf (n:Nat):(vT n).length<=n+1:=by
 induction n using Nat.strongRecOn with
 |_ n ih=>
  unfold vT;split
  ·have:=ih (n/10) om
   rw[jZ];show _+1<=_;omega
  ·show 1<=_
   omega
def aeZ (h:H):V->Option (V×H)
 | .int _ n=>if 0<=n/\n<128 then some (.str [n.toNat],h) else none
 |_=>none
theorem GA (ρ:X->V)(h:H)(x:X):cI ρ h (.cir x)=aeZ h (ρ x):=by
 simp only[cI,aeZ]
 rfl
def ZX (h:H)(x y:V):Option (V×H):=match x,y with
 | .str a,.str b=>if a.length+b.length<2^62 then some (.str (a++b),h) else none
 |_,_=>none
theorem GF (ρ:X->V)(h:H)(x y:X):cI ρ h (.sad x y)=ZX h (ρ x) (ρ y):=by
 simp only[cI,ZX]
 rfl
theorem HF {k:Nat}(a:k<10)(h:H):aeZ h (.int .i32 (IntKind.i32.wrap ((48+k:Nat):Int)))=some (.str [48+k],h):=by
 have: ∀k,k<10->IntKind.i32.wrap ((48+k:Nat):Int)=((48+k:Nat):Int):=by decide
 rw[this k a];show (if _ then _ else none)=_;rw[bF ⟨om,om⟩,NK]
theorem SZ (h:H){a b:List Nat}(c:a.length+b.length<10000000):ZX h (.str a) (.str b)=some (.str (a++b),h):=by
 show (if _ then _ else none)=_;rw[bF om]
theorem WZ (n:Nat): ∀(h:H),n<1000000->Ev T 66 [aC n] h (λv h'=>v= .str (vT n)/\Fr h h'):=by
 induction n using Nat.strongRecOn with
 |_ n ih=>
  intro h o;refine cV pZ rfl ?_
  by_cases i:(9:Int)<(n:Int)
  ·have f:=oQ i
   have m:Int.tdiv (n:Int) 10=((n/10:Nat):Int):=rfl;have l:Int.tmod (n:Int) 10=((n%10:Nat):Int):=rfl;simp(disch:=omega)only[go_sem,pZ,aD,f,m];refine (ih (n/10) om h om).mono ?_;rintro _ j ⟨rfl,k⟩;have d:(48:Int)+((n%10:Nat):Int)=((48+n%10:Nat):Int):=om
   have p:=Yf (n/10)
   have c:vT n=vT (n/10)++ [48+n%10]:=by
                               conv=>lhs;unfold vT
                               rw[bF om]
   simp(disch:=omega)only[go_sem,l,d,GA,HF (Nat.mod_lt n (by omega:10>0)),GF,SZ j (a:=vT (n/10)) (b:= [48+n%10]) (by show _+1<_;omega),c];exact k
  ·have f:=bH i
   have d:(48:Int)+(n:Int)=((48+n:Nat):Int):=om
   have c:vT n= [48+n]:=by unfold vT;rw[bI om]
   simp(disch:=omega)only[go_sem,pZ,aD,f,d,GA,HF (show n<10 by omega),c];exact Fr.refl _
abbrev Jj (x:Nat×List Nat):List V:= [aC (x.1:Int),.str x.2]
def Cr (l:List (Nat×List Nat)):List V:=l.flatMap Jj
theorem Hl (l:List (Nat×List Nat)):(Cr l).length=l.length*2:=agV (k:=2) (f:=Jj) (λ_=>rfl) l
theorem ZW (a b:List (Nat×List Nat)):Cr (a++b)=Cr a++Cr b:=by unfold Cr;rw[List.flatMap_append]
theorem Ul {h:H}{v:V}{l:List (Nat×List Nat)}(s:SV h v 2 (Cr l)){i:Nat}(hi:i<l.length): ∃id off,Sl v 2 l.length id off/\h.row id (off+i*2) 2=some (Jj l[i])/\id<h.next:=SV.rec (k:=2) (f:=Jj) om (λ_=>rfl) s hi
theorem Yx {h:H}{v:V}{l:List (Nat×List Nat)}(s:SV h v 2 (Cr l)):bT v=some (aC (l.length:Int)):=by
 unfold bT;rw[SV.len s (n:=l.length) (Hl l) om];rfl
theorem PB {h:H}{id:Nat}{ro:Bool}{a b:V}(c:h.get id=some (.cells ro [a,b])):h.row id 0 2=some [a,b]:=by
 simp [H.row,c,sub]
theorem wW (h:H){a b:V}(d:a.one=true)(c:b.one=true):Cv h (.agg [a,b])=some (.ptr h.next 0,h.new (.cells false [a,b])):=tL h _ (by simp [d,c])
def Eh:List (Nat×List Nat):= [(60, [65,53]),(168, [76,50,40,55,41]),(360, [65,54]),(504, [76,50,40,56,41]),(660, [76,50,40,49,49,41]),(1092, [76,50,40,49,51,41]),(2448, [76,50,40,49,55,41]),(2520, [65,55]),(3420, [76,50,40,49,57,41]),(4080, [76,50,40,49,54,41])]
theorem DM (z:Int)(s:List Nat):rO [aC 0,.str []] [(0,1,aC z),(1,1,.str s)]=some (.agg [aC z,.str s]):=rfl
theorem RA (h:H):Ev T 67 [] h (λv h'=>SV h' v 2 (Cr Eh)/\Fr h h'):=by
 refine cV Bs rfl ?_;have e:lQ h 2 [aC 0,.str []] 10 [(0,2,.agg [aC 60,.str [65,53]]),(2,2,.agg [aC 168,.str [76,50,40,55,41]]),(4,2,.agg [aC 360,.str [65,54]]),(6,2,.agg [aC 504,.str [76,50,40,56,41]]),(8,2,.agg [aC 660,.str [76,50,40,49,49,41]]),(10,2,.agg [aC 1092,.str [76,50,40,49,51,41]]),(12,2,.agg [aC 2448,.str [76,50,40,49,55,41]]),(14,2,.agg [aC 2520,.str [65,55]]),(16,2,.agg [aC 3420,.str [76,50,40,49,57,41]]),(18,2,.agg [aC 4080,.str [76,50,40,49,54,41]])]=some (.sl h.next 0 10 (.kn 10),h.new (.cells false (Cr Eh))):=rfl;simp(disch:=omega)only[go_sem,Bs,aD,DM,e];exact⟨SV.all rfl (by rw[H.aU];omega) (H.aL _ _) _,(Fr.refl h).new _⟩
theorem GO (x:Nat×List Nat)(n:Nat)(h:H)(j:x.1<1000000)(h2:n<1000000):Ev T 69 [.agg (Jj x),aC n] h (λv h'=>v= aC ((x.1:Int)-n)/\Fr h h'):=by
 refine cV tV rfl ?_;obtain⟨B,c⟩:=exI h.next;obtain⟨j,i,l,d,k,f⟩:=dF c (Jj x);simp(disch:=omega)only[go_sem,tV,aD,wW h (a:= aC (x.1:Int)) (b:= .str x.2) rfl rfl,c,i,H.aF d];exact f
theorem YC (x y:Nat×List Nat)(h:H)(f:x.1<1000000)(h2:y.1<1000000):Ev T 71 [.agg (Jj x),.agg (Jj y)] h (λv h'=>v= aC ((x.1:Int)-y.1)/\Fr h h'):=by
 refine cV tE rfl ?_;obtain⟨B,d⟩:=exI h.next;obtain⟨f,n,i,k,q,l⟩:=dF d (Jj x);obtain⟨h2,o,r,p,m,j⟩:=dF i (Jj y);have c:h2.get B=aZ (Jj x):=by rw[m B om];exact k
 simp(disch:=omega)only[go_sem,tE,aD,wW h (a:= aC (x.1:Int)) (b:= .str x.2) rfl rfl,d,n,wW f (a:= aC (y.1:Int)) (b:= .str y.2) rfl rfl,i,o,H.aF c,H.aF p];exact l.trans j
theorem TF (u:V)(a:List (Nat×List Nat))(p:Nat)(h:H)(hn:a.length<1000000)(Y:p<1000000)(Z: ∀x∈a,x.1<1000000)(L:a.Pairwise λx y=>x.1<y.1)(P:SV h u 2 (Cr a)):
  Ev T 68 [u,aC p,.fn 69 [] []] h (λv h'=> ∃(k:Nat) (f:Bool),v= .tup [aC k,.bool f]/\(f=true-> ∃hk:k<a.length,a[k].1=p)/\(f=false-> ∀x∈a,x.1≠p)/\Fr h h'):=by
 refine cV dH rfl ?_
 have lv:=Yx P
 simp(disch:=omega)only[go_sem,dH,aD,lv]
 have mono: ∀i j (hi:i<a.length) (K:j<a.length),i<j->a[i].1<a[j].1:=λi j hi K h=>JX.1 L i j hi K h
 refine aH (λk' l J=> ∃(i j:Nat),(∃g:Nat->V,l= [u,aC p,.fn 69 [] [],g 3,g 4,aC (a.length:Int),aC i,aC j,g 8,g 9,g 10])/\i<=j/\j<=a.length/\(∀m (c:m<a.length),m<i->a[m].1<p)/\(∀m (c:m<a.length),j<=m->p<=a[m].1)/\Fr h J/\k'=j-i) a.length
  ⟨0,a.length,aB rfl,om,om,λm c h=>om,λm h1 h2=>om,Fr.refl h,rfl⟩ ?_
 rintro k' l J ⟨i,j,⟨g,rfl⟩,a0,K,s,A,F,rfl⟩
 by_cases w:(i:Int)<(j:Int)
 ·have G:=oQ w
  have ea:(i:Int)+(j:Int)=((i+j:Nat):Int):=om
  obtain⟨m,c⟩:=exI ((i+j)/2)
  have sr:=FC (x:=i+j)
  rw[c] at sr
  have d:m<a.length:=om
  obtain⟨id,R,N,o,_⟩:=Ul (P.mono F) d
  have sm:=Z _ (zG d)
  simp(disch:=omega)only[go_sem,G,ea,Gs,zY,dK (n:=((i+j:Nat):Int)) om om,sr,N.ixa,o]
  refine (GO a[m] p J sm Y).mono ?_
  rintro _ h3 ⟨rfl,B⟩
  by_cases W:((a[m].1:Nat):Int)-(p:Int)<0
  ·have r:=oQ W
   simp(disch:=omega)only[go_sem,r]
   rw[eJ m]
   refine⟨j-(m+1),om,m+1,j,aB rfl,om,K,λq O h=>?_,A,F.trans B,rfl⟩
   by_cases e:q=m
   ·subst e;omega
   ·have:=mono q m O d om;omega
  ·have r:=bH W
   simp(disch:=omega)only[go_sem,r]
   refine⟨m-i,om,i,m,aB rfl,om,om,s,λq O h=>?_,F.trans B,rfl⟩
   by_cases e:q=m
   ·subst e;omega
   ·have:=mono m q d O om;omega
 have G:=bH w
 obtain rfl:i=j:=om
 by_cases t:(i:Int)<(a.length:Int)
 ·have r:=oQ t
  have b:i<a.length:=om
  obtain⟨id,R,N,o,_⟩:=Ul (P.mono F) b
  simp(disch:=omega)only[go_sem,G,r,N.ixa,o]
  refine (GO a[i] p J (Z _ (zG b)) Y).mono ?_
  rintro _ h3 ⟨rfl,B⟩
  by_cases z:((a[i].1:Nat):Int)-(p:Int)=0
  ·have Q:=oQ z
   simp(disch:=omega)only[go_sem,Q]
   exact⟨i,true,rfl,λ_=>⟨b,om⟩,λh=>(by cases h),F.trans B⟩
  ·have Q:=bH z
   simp(disch:=omega)only[go_sem,Q]
   refine⟨i,false,rfl,λh=>(by cases h),λ_ x U e=>?_,F.trans B⟩
   obtain⟨m,c,rfl⟩:=zF.1 U
   rcases Nat.lt_trichotomy m i with h|h|h
   ·have:=s m c h;omega
   ·subst h;omega
   ·have h1:=mono i m b c h
    have h2:=A i b (fM _)
    omega
 ·have r:=bH t
  simp(disch:=omega)only[go_sem,G,r]
  refine⟨i,false,rfl,λh=>(by cases h),λ_ x U e=>?_,F⟩
  obtain⟨m,c,rfl⟩:=zF.1 U
  have:=s m c om
  omega
end Go.Proofs.YtcdbmkidaecdiaaGreat
