/- Texts of the claim. -/
import Derived.Test.YtddpkbicnolafaaGreatSc3toP5c
import Derived.Test.YtddpkbicnolafaaGreatP4atoSc2
set_option maxHeartbeats 32000000
namespace Go.Proofs.YtddpkbicnolafaaGreat
open Go Go.Ay Go.Pm
set_option maxRecDepth 100000
structure Mk (b:Nat) (W:Nat->Prop) (h:H) (n:Nat) (tv:V) (ρ:Nat->Nat) (F:Nat->Nat->V) (t:uL):Prop where
 sv:SV h tv 1 (rc n λ i=> .sl (ρ i) 0 n (.kn n))
 off:TD W tv
 row: ∀ i,i<n->h.get (ρ i)=some (.cells false (rc n (F i)))
 wb: ∀ i,i<n->W (ρ i)
 Rx: ∀ id,W id->id<h.next
 low: ∀ id,W id->b<=id
 inj: ∀ i j,i<n->j<n->ρ i=ρ j->i=j
 ent: ∀ i p,i<n->p<n->Slot W h (F i p) (t i p)
section
variable {b:Nat} {W:Nat->Prop} {h h':H} {n:Nat} {tv:V} {ρ:Nat->Nat} {F:Nat->Nat->V} {t:uL}
theorem Mk.open (R:Mk b W h n tv ρ F t):dW tv=some (aB n)/\ ∃ id off,Sl tv 1 n id off/\ ∀ i,i<n->h.cell id (off+i)=some (.sl (ρ i) 0 n (.kn n)):=by
 have s:=R.sv
 have hl:(rc n λ i=>V.sl (ρ i) 0 n (.kn n)).length=n:=gT n _
 refine ⟨by unfold dW;rw [SV.len s (n:=n) (by omega) (by omega)];rfl,?_⟩
 obtain ⟨id,off,sh,hid,hc⟩:=SV.shape s n (by omega) (by omega)
 refine ⟨id,off,sh,λ i hi=>?_⟩
 rw [hc i (by omega),Tx hi]
theorem Mk.cell (R:Mk b W h n tv ρ F t) {i p:Nat} (hi:i<n) (hp:p<n):h.cell (ρ i) p=some (F i p):=qT (R.row i hi) hp
theorem Mk.mono (R:Mk b W h n tv ρ F t) (f:Fr h h'):Mk b W h' n tv ρ F t:=
 ⟨R.sv.mono f,R.off,λ i hi=>by rw [f.get _ (R.Rx _ (R.wb i hi))];exact R.row i hi,R.wb,λ id hid=>mM (R.Rx id hid) f.next,R.low,R.inj,λ i p hi hp=>(R.ent i p hi hp).fx (Fx.of f)⟩
theorem Mk.go (R:Mk b W h n tv ρ F t) {W':Nat->Prop} (f:Fx W h h') (hr: ∀ i,i<n->h'.get (ρ i)=h.get (ρ i)) (hw: ∀ id,id<h.next->W' id->W id) (hw2: ∀ id,W id->W' id) (Rx: ∀ id,W' id->id<h'.next) (low: ∀ id,W' id->b<=id):Mk b W' h' n tv ρ F t:=
 ⟨R.sv.fx R.off f,R.off.zU R.sv hw,λ i hi=>by rw [hr i hi];exact R.row i hi,λ i hi=>hw2 _ (R.wb i hi),Rx,low,R.inj,λ i p hi hp=>(R.ent i p hi hp).go f hw⟩
def WB (n:Nat) (ρ:Nat->Nat) (id:Nat):Prop:= ∃ i,i<n/\ρ i=id
theorem Mk.wbx (R:Mk b W h n tv ρ F t) {a c:H} (f:Fx (WB n ρ) a c):Fx W a c:=f.zU λ id _ hw=>by
 obtain ⟨i,hi,rfl⟩:=hw
 exact R.wb i hi
def F2 (F:Nat->Nat->V) (i p:Nat) (v:V):Nat->Nat->V:=λ j q=>if j=i/\q=p then v else F j q
theorem Mk.put (R:Mk b W h n tv ρ F t) {i p:Nat} (hi:i<n) (hp:p<n) {vx:V} {x:List Nat} (hx:PV W h vx x):
  ∃ h',fI (h.get (ρ i)) h (ρ i) p [vx]=some h'/\Mk b W h' n tv ρ (F2 F i p vx) (Pm.put t i p x)/\Fx (WB n ρ) h h'/\h'.next=h.next:=by
 have pt:=bT (vs:=rc n (F i)) (off:=p) (by rw [gT];exact hp) h (ρ i) vx
 rw [R.row i hi,pt,lQ]
 refine ⟨_,rfl,?_,Fx.set h (W:=WB n ρ) ⟨i,hi,rfl⟩ _,rfl⟩
 have f:Fx W h (h.set (ρ i) (some (.cells false (rc n λ j=>if j=p then vx else F i j)))):=Fx.set h (R.wb i hi) _
 refine ⟨R.sv.fx R.off f,R.off,λ j hj=>?_,R.wb,R.Rx,R.low,R.inj,λ j q hj hq=>?_⟩
 ·by_cases e:j=i
  ·subst e
   rw [H.aW]
   congr 2
   refine cJ λ q _=>?_
   unfold F2
   by_cases e2:q=p
   ·rw [if_pos e2,if_pos ⟨rfl,e2⟩]
   ·rw [if_neg e2,if_neg (λ h=>e2 h.2)]
  ·rw [H.aH h (λ e2=>e (R.inj _ _ hj hi e2)),R.row j hj]
   congr 2
   refine cJ λ q _=>?_
   unfold F2
   rw [if_neg (λ h=>e h.1)]
 ·unfold F2 Pm.put
  by_cases e:j=i/\q=p
  ·rw [if_pos e,if_pos e]
   exact PV.fx hx f
  ·rw [if_neg e,if_neg e]
   exact (R.ent j q hj hq).fx f
theorem PV.fresh {v:V} {l:List Nat} (s:SI h' v (zi l)) (hf: ∀ id off len cap,v= .sl id off len cap->h.next<=id) (hw: ∀ id,W id->id<h.next):PV W h' v l:=by
 refine ⟨s,?_⟩
 cases v with
 |sl id off len cap=>exact λ hx=>by have:=hf _ _ _ _ rfl;have:=hw id hx;omega
 |_=>trivial
theorem Slot.nil {v:V} (s:Slot W h v none):v= .aC:=s
end
theorem Yd (b:Nat) (W:Nat->Prop) (h:H) (n:Nat) (tv:V) (ρ:Nat->Nat) (F:Nat->Nat->V) (t:uL) (vx:V) (x:List Nat) (hn:n<=64) (h0:0<n) (R:Mk b W h n tv ρ F t) (hx:PV W h vx x) (X:bI n x) (TI:qZ n t):
  Ev T Fg [tv,vx] h (λ v h'=> ∃ F',v= .bool (ins t n 0 x).isSome/\Mk b W h' n tv ρ F' (kA t n x)/\Fx (WB n ρ) h h'):=by
 refine aZ Ed rfl ?_
 obtain ⟨lv,id,off,sh,_⟩:=R.open
 simp (disch:=omega) only [go_sem,jR,aF]
 refine aJ (λ k' vars hh=> ∃ (i:Nat) (y:List Nat) (vy:V),(∃ g:Nat->V,vars= [tv,vy,g 2,aB i,g 4,g 5,g 6,g 7])/\i<=n/\ins t (n-i) i y=ins t n 0 x/\PV W hh vy y/\bI n y/\Fr h hh/\k'=n-i) n
  ⟨0,x,vx,aA rfl,mJ _,rfl,hx,X,Fr.refl h,rfl⟩ ?_
 rintro k' vars h2 ⟨i,y,vy,⟨g,rfl⟩,hi,hs,hy,Y,f,rfl⟩
 have R2:=R.mono f
 by_cases hlt:(i:Int)<(n:Int)
 case neg=>
  have e1:=gJ hlt
  obtain rfl:i=n:=by omega
  simp (disch:=omega) only [go_sem,lv,e1]
  rw [Nat.sub_self] at hs
  have hs':ins t i 0 x=none:=hs.symm
  refine ⟨F,by rw [hs'];rfl,?_,Fx.of f⟩
  unfold kA
  rw [hs']
  exact R2
 have e1:=mG hlt
 have hin:i<n:=by omega
 obtain ⟨idy,offy,shy,hidy,hcy⟩:=hy.si.open
 rw [aT,Y.len] at shy hidy hcy
 have ci:h2.cell idy (offy+i)=some (aB (y.getD i 0:Nat)):=by rw [hcy i hin];congr 2;simp [zi,Y.len,hin]
 have hp:=Y.eS hin
 obtain ⟨p,ep⟩: ∃ p,y.getD i 0=p:=⟨_,rfl⟩
 rw [ep] at ci hp
 have hstep:n-i=(n-(i+1))+1:=by omega
 rw [hstep] at hs
 obtain ⟨_,id2,off2,sh2,hc2⟩:=R2.open
 have cr:=hc2 i hin
 have ce:=R2.cell hin hp
 have hS:=R2.ent i p hin hp
 by_cases hpi:p=i
 ·have hs':ins t (n-(i+1)) (i+1) y=ins t n 0 x:=by
   rw [←hs]
   conv=>rhs;unfold ins
   rw [if_pos (ep.trans hpi)]
  have e2:decide ((p:Int)=(i:Int))=true:=mG (by omega)
  simp (disch:=omega) only [go_sem,lv,e1,shy.ixa,ci,e2]
  rw [iJ i]
  exact ⟨n-(i+1),by omega,i+1,y,vy,aA rfl,by omega,hs',hy,Y,f,rfl⟩
 have e2:decide ((p:Int)=(i:Int))=false:=gJ (by omega)
 have e3:decide ((p:Int)<0)=false:=gJ (by omega)
 have e4:decide ((n:Int)<=(p:Int))=false:=gJ (by omega)
 cases hto:t i p with
 |none=>
  rw [hto] at hS
  have hS':=hS.nil
  rw [hS'] at ce
  have hs':ins t n 0 x=some (i,y):=by
   rw [←hs]
   unfold ins
   rw [if_neg (by rw [ep];exact hpi),ep,hto]
  obtain ⟨h3,pt,R3,f3,n3⟩:=R2.put hin hp hy
  simp (disch:=omega) only [go_sem,lv,e1,shy.ixa,ci,e2,e3,e4,sh2.ixa,cr,ce,lU hy.eP.1 hy.eP.2,pt]
  have e5:kA t n x=Pm.put t i p y:=by unfold kA;rw [hs'];simp only;rw [ep]
  refine ⟨F2 F i p vy,by rw [hs'];rfl,by rw [e5];exact R3,(Fx.of f).trans f3 (λ _ _ h=>h)⟩
 |some z=>
  rw [hto] at hS
  have Z:=TI.dR _ _ _ hto
  have hz:PV W h2 (F i p) z:=hS
  have sn:=Kv hz (bI.ne h0 Z) false
  have hs':ins t (n-(i+1)) (i+1) (bE y (eA z))=ins t n 0 x:=by
   rw [←hs]
   conv=>rhs;unfold ins
   rw [if_neg (by rw [ep];exact hpi),ep,hto]
  generalize F i p=vz at ce hz sn
  simp (disch:=omega) only [go_sem,lv,e1,shy.ixa,ci,e2,e3,e4,sh2.ixa,cr,ce,sn]
  refine (NB vz n z h2 (by omega) Z hz.si).mono ?_
  rintro w h3 nw
  have f3:=nw.fr
  have pw:=nw.pv (W:=W) (λ hw=>by have:=R2.Rx _ hw;omega)
  simp (disch:=omega) only [go_sem]
  refine (Bg vy w y (eA z) h3 (by rw [Y.len];omega) (hy.si.mono f3) pw.si (λ j hj=>by rw [jT,Z.len];exact Y.eS (by rw [←Y.len];exact hj))).mono ?_
  rintro v h4 ⟨s4,f4,l4⟩
  simp (disch:=omega) only [go_sem]
  rw [iJ i]
  exact ⟨n-(i+1),by omega,i+1,_,v,aA rfl,by omega,hs',PV.fresh s4 l4 (λ id hid=>mM (R2.Rx id hid) f3.next),Y.mul Z.inv,(f.trans f3).trans f4,rfl⟩
theorem xU.frb {h0 h h':H} {x:V} {n m sz:Nat} {ws us:List V} (p:xU h x n m sz ws us h') (f:Fr h0 h) {sz':Nat} {ws':List V} (o:eL h x sz' ws' h0.next):Fr h0 h':=by
 have fn:=f.next
 refine ⟨by rw [p.next];omega,λ id hid=>?_⟩
 rw [p.old id (by omega) (λ id' off n c e e2=>by have:=(o.in _ _ _ _ e).2.1;omega)]
 exact f.get id hid
theorem Qw {h0 h:H} {vl v:V} {ws:List V} (o:eL h vl 1 ws h0.next) (f:Fr h0 h) (hl:ws.length<1000000) {bytes:Nat} (hb:bytes<=24):
  ∃ h2,Lc (h.new (.cells false [v])) 1 bytes vl (.sl h.next 0 1 (.kn 1))=some (.sl (h.next+1) 0 (ws.length+1) (.un 1),h2)/\eL h2 (.sl (h.next+1) 0 (ws.length+1) (.un 1)) 1 (ws++ [v]) h0.next/\Fr h0 h2/\h2.next=h.next+2/\ ∀ id,id<h.next->eC vl id->h2.get id=h.get id:=by
 obtain ⟨h1,e1,n1,g1,o1,f1⟩:=iK (h:=h) rfl [v]
 rw [e1]
 have o2:=o.fr f1
 obtain ⟨h2,a2,p2⟩:=o2.push (bytes:=bytes) (SV.one (by omega) g1 (.kn 1)) (n:=ws.length) (m:=1) (by omega) rfl (by omega) (by omega) ⟨by
  have:(2*(ws.length+1)+1000)*bytes<=(2*(ws.length+1)+1000)*24:=Nat.mul_le_mul_left _ hb
  omega,by omega⟩
 rw [n1] at a2
 have fn:=f.next
 have ow:=p2.own (by omega) rfl (b:=h0.next) (by omega)
 rw [n1] at ow
 have nx:=p2.next
 exact ⟨h2,a2,ow,xU.frb p2 (f.trans f1) o2,by omega,λ id h1 h2=>by rw [p2.old id (by omega) h2,o1 id (by omega)]⟩
theorem abQ (t:uL) (i p:Nat):(eR t i p).length<=p:=by
 unfold eR
 have:=List.length_filterMap_le (t i) (List.range p)
 rwa [List.length_range] at this
theorem CP (n:Nat) (t:uL): ∀ i,(eB n t i).length<=i*n
 |0=>by simp [eB]
 |i+1=>by
  rw [OF,vA,Nat.succ_mul]
  have:=CP n t i
  have:=abQ t i n
  omega
theorem Bv (b:Nat) (W:Nat->Prop) (h:H) (n:Nat) (tv:V) (ρ:Nat->Nat) (F:Nat->Nat->V) (t:uL) (hn:n<=64) (h0:0<n) (R:Mk b W h n tv ρ F t) (TI:qZ n t):
  Ev T Ck [tv] h (λ v h'=> ∃ ws,eL h' v 1 ws h.next/\jL W h ws (fM n t 0)/\Fr h h'):=by
 refine aZ Cs rfl ?_
 have lv:=R.open.1
 simp (disch:=omega) only [go_sem,jB,aF]
 refine aJ (λ k' vars hh=> ∃ (i:Nat) (vl:V) (ws:List V),(∃ g:Nat->V,vars= [tv,g 1,vl,aB i,g 4,g 5,g 6,g 7])/\i<=n/\eL hh vl 1 ws h.next/\jL W h ws (eB n t i)/\Fr h hh/\k'=n-i) n
  ⟨0,.aC, [],aA rfl,mJ _,eL.aC _ _ _,trivial,Fr.refl h,rfl⟩ ?_
 rintro k' vars h2 ⟨i,vl,ws,⟨g,rfl⟩,hi,ow,pvs,f,rfl⟩
 by_cases hlt:(i:Int)<(n:Int)
 case neg=>
  have e1:=gJ hlt
  obtain rfl:i=n:=by omega
  simp (disch:=omega) only [go_sem,lv,e1]
  rw [CZ] at pvs
  exact ⟨ws,ow,pvs,f⟩
 have e1:=mG hlt
 have hin:i<n:=by omega
 simp (disch:=omega) only [go_sem,lv,e1]
 refine Ef (λ vs hh=> ∃ (vl:V) (ws:List V),(∃ g:Nat->V,vs= [tv,g 1,vl,aB i,g 4,g 5,g 6,g 7])/\eL hh vl 1 ws h.next/\jL W h ws (eB n t (i+1))/\Fr h hh) ?_ ?_
 ·refine aJ (λ k' vars hh=> ∃ (j:Nat) (vl:V) (ws:List V),(∃ g:Nat->V,vars= [tv,g 1,vl,aB i,aB j,g 5,g 6,g 7])/\j<=n/\eL hh vl 1 ws h.next/\jL W h ws (eB n t i++eR t i j)/\Fr h hh/\k'=n-j) n
   ⟨0,vl,ws,aA rfl,mJ _,ow,by unfold eR;rw [List.range_zero,List.filterMap_nil,List.append_nil];exact pvs,f,rfl⟩ ?_
  clear ow pvs f hi g
  rintro k' vars h3 ⟨j,vl,ws,⟨g,rfl⟩,hj,ow,pvs,f,rfl⟩
  by_cases hlt2:(j:Int)<(n:Int)
  case neg=>
   have e2:=gJ hlt2
   obtain rfl:j=n:=by omega
   simp (disch:=omega) only [go_sem,lv,e2]
   exact ⟨vl,ws,aA rfl,ow,by rw [OF];exact pvs,f⟩
  have e2:=mG hlt2
  have hjn:j<n:=by omega
  have R3:=R.mono f
  obtain ⟨_,id2,off2,sh2,hc2⟩:=R3.open
  have cr:=hc2 i hin
  have ce:=R3.cell hin hjn
  have hS:=R.ent i j hin hjn
  have lw:=bJ.length pvs
  have l1:=CP n t i
  have l2:=abQ t i j
  have l3:i*n<=64*64:=Nat.mul_le_mul (by omega) hn
  rw [vA] at lw
  cases hto:t i j with
  |none=>
   rw [hto] at hS
   rw [hS.nil] at ce
   simp (disch:=omega) only [go_sem,lv,e2,sh2.ixa,cr,ce]
   rw [iJ j]
   refine ⟨n-(j+1),by omega,j+1,vl,ws,aA rfl,by omega,ow.fr ((Fr.refl h3).bF (by omega)),?_,f.bF (by omega),rfl⟩
   rw [ND,hto]
   simpa using pvs
  |some y=>
   rw [hto] at hS
   have pz:PV W h (F i j) y:=hS
   have sn:=Kv pz (bI.ne h0 (TI.dR _ _ _ hto)) true
   generalize F i j=vz at ce pz sn
   obtain ⟨S,hS3⟩: ∃ S,h3.next=S:=⟨_,rfl⟩
   simp (disch:=omega) only [go_sem,lv,e2,sh2.ixa,cr,ce,sn,dN _ (z:= .aC) pz.eP.1 pz.eP.2]
   obtain ⟨h4,a4,ow4,f4,n4,_⟩:=Qw (v:=vz) ow f (by omega) (bytes:=24) (by omega)
   simp (disch:=omega) only [go_sem,a4]
   rw [iJ j]
   refine ⟨n-(j+1),by omega,j+1,_,_,aA rfl,by omega,ow4,?_,f4,rfl⟩
   rw [ND,hto,←List.append_assoc]
   exact pvs.append (jL.one pz)
 rintro vars h3 ⟨vl,ws,⟨g,rfl⟩,ow,pvs,f⟩
 simp (disch:=omega) only [go_sem]
 rw [iJ i]
 exact ⟨n-(i+1),by omega,i+1,vl,ws,aA rfl,by omega,ow,pvs,f,rfl⟩
theorem jL.open {W:Nat->Prop} {h:H} {v:V} {ws:List V} {l:LN} (sv:SV h v 1 ws) (p:jL W h ws l):dW v=some (aB (l.length:Int))/\ ∃ id off,Sl v 1 l.length id off/\ ∀ i,i<l.length->id<h.next/\h.cell id (off+i)=some (ws.getD i .undef)/\PV W h (ws.getD i .undef) (l.getD i []):=by
 have hl:=bJ.length p
 refine ⟨by unfold dW;rw [SV.len sv (n:=l.length) (by omega) (by omega)];rfl,?_⟩
 obtain ⟨id,off,sh,hid,hc⟩:=SV.shape sv l.length (by omega) (by omega)
 refine ⟨id,off,sh,λ i hi=>⟨hid (by omega),?_,?_⟩⟩
 ·rw [hc i (by omega)];simp [List.getD,show i<ws.length by omega]
 ·obtain ⟨w,h1,h2⟩:=jL.at p hi
  rw [List.getD,h1];exact h2
theorem HN {α:Type} {l:List α} {x d:α} {k:Nat}:x∈l.take k↔ ∃ q,q<k/\q<l.length/\l.getD q d=x:=by
 constructor
 ·intro h
  obtain ⟨q,hq,e⟩:=List.mem_iff_getElem.1 h
  rw [List.length_take] at hq
  refine ⟨q,by omega,by omega,?_⟩
  rw [List.getElem_take] at e
  rw [List.getD,iH (by omega),←e];rfl
 ·rintro ⟨q,h1,h2,e⟩
  rw [List.getD,iH h2] at e
  refine List.mem_iff_getElem.2 ⟨q,by rw [List.length_take];omega,?_⟩
  rw [List.getElem_take];exact e
theorem Hz {l:LN} {x:List Nat} {k:Nat} (hk:k<l.length):x∈l.take (k+1)↔x∈l.take k∨l.getD k []=x:=by
 rw [HN (d:= []),HN (d:= [])]
 constructor
 ·rintro ⟨q,h1,h2,e⟩
  by_cases h:q=k
  ·subst h;exact .inr e
  ·exact .inl ⟨q,by omega,h2,e⟩
 ·rintro (⟨q,h1,h2,e⟩|e)
  ·exact ⟨q,by omega,h2,e⟩
  ·exact ⟨k,by omega,hk,e⟩
theorem abH {L l:LN} {k:Nat} (hk:k<L.length):(L.take (k+1)).filter (λ y=>decide (y∉l))=(L.take k).filter (λ y=>decide (y∉l))++if L.getD k []∈l then [] else [L.getD k []]:=by
 rw [iV [] hk,List.filter_append]
 generalize L.getD k []=z
 by_cases e:z∈l<;>simp [e,List.filter]
theorem YQ (b:Nat) (W:Nat->Prop) (h:H) (n:Nat) (tv vl:V) (wl:List V) (l:LN) (ρ:Nat->Nat) (F:Nat->Nat->V) (t:uL) (hn:n<=64) (h0:0<n) (R:Mk b W h n tv ρ F t) (TI:qZ n t) (sl:SV h vl 1 wl) (pl:jL W h wl l) (hl: ∀ x∈l,bI n x) (ll:l.length<1000000):
  Ev T Hb [tv,vl] h (λ v h'=> ∃ ws,eL h' v 1 ws h.next/\jL W h ws (frF n t l)/\Fr h h'):=by
 refine aZ Hf rfl ?_
 simp (disch:=omega) only [go_sem,kI,aF]
 refine (Bv b W h n tv ρ F t hn h0 R TI).mono ?_
 rintro ve h1 ⟨we,oe,pe,f1⟩
 obtain ⟨L,hL⟩: ∃ L,fM n t 0=L:=⟨_,rfl⟩
 have EP: ∀ y∈L,bI n y:=λ y hy=>TI.SF y (by rw [hL];exact hy)
 have lL:L.length<=4096:=by
  rw [←hL,←CZ]
  have:=CP n t n
  have:=Nat.mul_le_mul hn hn
  omega
 unfold frF
 rw [hL] at pe ⊢
 have pe1:jL W h1 we L:=jL.fx pe (Fx.of f1)
 have lle:=bJ.length pe
 obtain ⟨lve,id1,off1,sh1,hc1⟩:=jL.open oe.sv pe1
 obtain ⟨lvl,id2,off2,sh2,hc2⟩:=jL.open sl pl
 simp (disch:=omega) only [go_sem]
 refine aJ (λ k' vars hh=> ∃ (i:Nat) (vo:V) (ws:List V),(∃ g:Nat->V,vars= [tv,vl,g 2,vo,ve,aB i,g 6,g 7,g 8,g 9,g 10])/\i<=L.length/\eL hh vo 1 ws h1.next/\jL W h ws ((L.take i).filter λ y=>decide (y∉l))/\Fr h1 hh/\k'=L.length-i) L.length
  ⟨0,.aC, [],aA rfl,mJ _,eL.aC _ _ _,trivial,Fr.refl h1,rfl⟩ ?_
 rintro k' vars h2 ⟨i,vo,ws,⟨g,rfl⟩,hi,ow,pvs,f,rfl⟩
 by_cases hlt:(i:Int)<(L.length:Int)
 case neg=>
  have e1:=gJ hlt
  obtain rfl:i=L.length:=by omega
  simp (disch:=omega) only [go_sem,lve,e1]
  rw [List.take_length] at pvs
  exact ⟨ws,ow.le f1.next,pvs,f1.trans f⟩
 have e1:=mG hlt
 have hiL:i<L.length:=by omega
 obtain ⟨i1,c1,p1⟩:=hc1 i hiL
 have Y:=EP _ (bG (d:= []) hiL)
 obtain ⟨y,hy⟩: ∃ y,L.getD i []=y:=⟨_,rfl⟩
 have hpw:PV W h (we.getD i .undef) (L.getD i []):=by
  obtain ⟨w,h3,h4⟩:=jL.at pe hiL
  rw [List.getD,h3];exact h4
 rw [hy] at p1 Y hpw
 generalize we.getD i .undef=vy at c1 p1 hpw
 simp (disch:=omega) only [go_sem,lve,e1]
 refine bV (λ vs hh=>(∃ g:Nat->V,vs= [tv,vl,g 2,vo,ve,aB i,.bool (decide (y∈l)),g 7,g 8,g 9,g 10])/\Fr h2 hh) ?_ ?_
 ·refine aJ (λ k' vars hh=> ∃ (k:Nat) (s:Bool),(∃ g:Nat->V,vars= [tv,vl,g 2,vo,ve,aB i,.bool s,aB k,g 8,g 9,g 10])/\k<=l.length/\(s=true↔y∈l.take k)/\Fr h2 hh/\k'=l.length-k) l.length
   ⟨0,false,aA rfl,mJ _,by simp,Fr.refl h2,rfl⟩ ?_
  clear g
  rintro k' vars h3 ⟨k,s,⟨g,rfl⟩,hk,hs,f3,rfl⟩
  cases s with
  |true=>
   have e3:decide (y∈l)=true:=decide_eq_true (List.mem_of_mem_take (hs.1 rfl))
   simp (disch:=omega) only [go_sem]
   exact ⟨by rw [e3];exact aA rfl,f3⟩
  |false=>
  have hs':y∉l.take k:=λ h=>by have:=hs.2 h;cases this
  by_cases hlt2:(k:Int)<(l.length:Int)
  case neg=>
   have e3:=gJ hlt2
   obtain rfl:k=l.length:=by omega
   rw [List.take_length] at hs'
   have e4:decide (y∈l)=false:=decide_eq_false hs'
   simp (disch:=omega) only [go_sem,lvl,e3]
   exact ⟨by rw [e4];exact aA rfl,f3⟩
  have e3:=mG hlt2
  have hkl:k<l.length:=by omega
  obtain ⟨i2,c2,p2⟩:=hc2 k hkl
  have Z:=hl _ (bG (d:= []) hkl)
  obtain ⟨z,hz⟩: ∃ z,l.getD k []=z:=⟨_,rfl⟩
  rw [hz] at p2 Z
  generalize wl.getD k .undef=vz at c2 p2
  have F13:=f.trans f3
  have F03:=f1.trans F13
  have c13:h3.cell id1 (off1+i)=some vy:=by rw [F13.cell i1];exact c1
  have c23:h3.cell id2 (off2+k)=some vz:=by rw [F03.cell i2];exact c2
  have v1:=SV.eU p1.si
  have v2:=SV.eU p2.si
  simp (disch:=omega) only [go_sem,lvl,e3,sh1.ixa,c13,sh2.ixa,c23]
  have fb:Fr h3 (H.mk h3.tr (h3.next+10)):=(Fr.refl h3).bF (by omega)
  refine (Au vy vz _ _ _ (p1.si.mono (F13.trans fb)) (p2.si.mono (F03.trans fb)) (by rw [aT,Y.len];omega) (by rw [aT,Z.len];omega)).mono ?_
  rintro _ h4 ⟨rfl,f4⟩
  have f34:=fb.trans f4
  have c14:h4.cell id1 (off1+i)=some vy:=by rw [(F13.trans f34).cell i1];exact c1
  have c24:h4.cell id2 (off2+k)=some vz:=by rw [(F03.trans f34).cell i2];exact c2
  simp (disch:=omega) only [go_sem,c14,c24,v1,v2]
  rw [iJ k]
  refine ⟨l.length-(k+1),by omega,k+1,_,aA rfl,by omega,?_,f3.trans f34,rfl⟩
  rw [decide_eq_true_iff,Hz hkl,hz]
  exact ⟨λ e=> .inr (Sy e).symm,λ h=>h.elim (λ h=>(hs' h).elim) λ e=>by rw [e]⟩
 rintro vars h3 ⟨⟨g,rfl⟩,f3⟩
 have F13:=f.trans f3
 have c13:h3.cell id1 (off1+i)=some vy:=by rw [F13.cell i1];exact c1
 have ow3:=ow.fr f3
 have hlw:=bJ.length pvs
 have hll:((L.take i).filter λ y=>decide (y∉l)).length<=i:=Nat.le_trans (List.length_filter_le _ _) (by rw [List.length_take];omega)
 have ft:=abH (L:=L) (l:=l) hiL
 rw [hy] at ft
 by_cases hm:y∈l
 ·have e3:decide (y∈l)=true:=decide_eq_true hm
  simp (disch:=omega) only [go_sem,e3]
  rw [iJ i]
  rw [if_pos hm,List.append_nil] at ft
  exact ⟨L.length-(i+1),by omega,i+1,vo,ws,aA rfl,by omega,ow3,by rw [ft];exact pvs,F13,rfl⟩
 ·have e3:decide (y∈l)=false:=decide_eq_false hm
  obtain ⟨h4,a4,ow4,f4,n4,_⟩:=Qw (v:=vy) ow3 F13 (by omega) (bytes:=24) (by omega)
  simp (disch:=omega) only [go_sem,e3,sh1.ixa,c13,dN _ (z:= .aC) p1.eP.1 p1.eP.2,a4]
  rw [iJ i]
  rw [if_neg hm] at ft
  exact ⟨L.length-(i+1),by omega,i+1,_,_,aA rfl,by omega,ow4,by rw [ft];exact pvs.append (jL.one hpw),f4,rfl⟩
structure CJ (b:Nat) (W:Nat->Prop) (h hh:H) (n:Nat) (tv:V) (ρ:Nat->Nat) (L:List Nat->Prop) (t0:uL) (vl:V) (l:LN) (t:uL):Prop where
 ex: ∃ W' F wl,Mk b W' hh n tv ρ F t/\eL hh vl 1 wl h.next/\jL W' hh wl l/\Kt W' vl/\ ∀ id,id<h.next->W' id->W id
 fx:Fx W h hh
 cls:Gf n L t l
 sub:Sub t0 t
theorem agA {n:Nat} {t:uL} {x:List Nat} {L:List Nat->Prop} {l:LN} (c:Gf n L t l) (T':qZ n (kA t n x)) (h:(fM n t 0).length<(fM n (kA t n x) 0).length):0<(frF n (kA t n x) l).length:=by
 refine List.length_pos_iff.2 λ e=>?_
 unfold frF at e
 rw [List.filter_eq_nil_iff] at e
 have:(fM n (kA t n x) 0).length<=(fM n t 0).length:=List.Nodup.length_le_of_subset (Bl T') λ y hy=>by
  have:=e y hy
  simp at this
  exact (c.mem y).1 this
 omega
theorem NK (n:Nat) (t:uL) (hn:n<=64):(fM n t 0).length<=4096:=by
 rw [←CZ]
 have:=CP n t n
 have:=Nat.mul_le_mul hn hn
 omega
theorem abD {n:Nat} {t:uL} {l m:LN} {a c:Nat} (ha:a<l.length) (hc:c<l.length):Pr n t (l++m) a c↔Pr n t l a c:=by
 have e: ∀ k,k<l.length->(l++m).getD k []=l.getD k []:=λ k hk=>by rw [List.getD,List.getD,List.getElem?_append_left hk]
 unfold Pr
 rw [e a ha,e c hc]
theorem YY (b:Nat) (W:Nat->Prop) (h:H) (n:Nat) (tv:V) (ρ:Nat->Nat) (F:Nat->Nat->V) (t:uL) (L:List Nat->Prop) (hn:n<=7) (h0:0<n) (hb:b<=h.next) (R:Mk b W h n tv ρ F t) (hL: ∀ g,L g->bI n g) (tl:Vs n L t):
  Ev T Gy [tv] h (λ _ h'=> ∃ W' F' t',Mk b W' h' n tv ρ F' t'/\Vs n L t'/\Sub t t'/\Nx n t'/\Fx W h h'/\ ∀ id,id<h.next->W' id->W id):=by
 have hnn:n^n<=823543:=by
  have: ∀ n,n<=7->n^n<=823543:=by decide
  exact this n hn
 refine aZ Gg rfl ?_
 simp (disch:=omega) only [go_sem,kS,aF]
 refine (Bv b W h n tv ρ F t (by omega) h0 R tl.Pn).mono ?_
 rintro vl h1 ⟨wl,ow,pvs,f1⟩
 simp (disch:=omega) only [go_sem]
 refine aJ (λ k' vars hh=> ∃ (i:Nat) (vl:V) (l:LN) (t':uL),(∃ g:Nat->V,vars= [tv,vl,aB i,g 3,g 4,g 5,g 6,g 7,g 8,g 9,g 10,g 11])/\CJ b W h hh n tv ρ L t vl l t'/\i<=l.length/\(∀ a c,a<i->c<i->Pr n t' l a c)/\k'=1000000-i) 1000000
  ⟨0,vl,fM n t 0,t,aA rfl,⟨⟨λ id=>W id∨ ∃ off m c,vl= .sl id off m c,F,wl,?_,ow,?_,λ id off m c e=> .inr ⟨_,_,_,e⟩,λ id hid hw=>?_⟩,Fx.of f1,Gf.start tl,Sub.refl t⟩,mJ _,λ a c ha=>by omega,rfl⟩ ?_
 ·refine R.go (Fx.of f1) (λ i hi=>f1.get _ (R.Rx _ (R.wb i hi))) (λ id hid hw=>?_) (λ id hw=> .inl hw) (λ id hw=>?_) (λ id hw=>?_)
  ·rcases hw with hw|⟨off,m,c,e⟩
   ·exact hw
   ·have:=(ow.in _ _ _ _ e).2.1;omega
  ·rcases hw with hw|⟨off,m,c,e⟩
   ·exact mM (R.Rx id hw) f1.next
   ·exact (ow.in _ _ _ _ e).1
  ·rcases hw with hw|⟨off,m,c,e⟩
   ·exact R.low id hw
   ·have:=(ow.in _ _ _ _ e).2.1;omega
 ·refine jL.go pvs (Fx.of f1) λ id hid hw=>?_
  rcases hw with hw|⟨off,m,c,e⟩
  ·exact hw
  ·have:=(ow.in _ _ _ _ e).2.1;omega
 ·rcases hw with hw|⟨off,m,c,e⟩
  ·exact hw
  ·have:=(ow.in _ _ _ _ e).2.1;omega
 clear ow pvs f1 vl wl h1
 rintro k' vars h1 ⟨i,vl,l,t1,⟨g,rfl⟩,J,hi,hP,rfl⟩
 have lb:=J.cls.bound
 have lvl:dW vl=some (aB (l.length:Int)):=by
  obtain ⟨⟨W',F',wl,_,ow,pvs,_⟩,_⟩:=J
  exact (jL.open ow.sv pvs).1
 by_cases hlt:(i:Int)<(l.length:Int)
 case neg=>
  have e1:=gJ hlt
  obtain rfl:i=l.length:=by omega
  simp (disch:=omega) only [go_sem,lvl,e1]
  obtain ⟨⟨W',F',wl,R',_,_,_,hW⟩,fx,cls,sub⟩:=J
  exact ⟨W',F',t1,R',cls.tl,sub,cls.closed hP,fx,hW⟩
 have e1:=mG hlt
 have hil:i<l.length:=by omega
 simp (disch:=omega) only [go_sem,lvl,e1]
 refine Ef (λ vs hh=> ∃ (vl:V) (l:LN) (t':uL),(∃ g:Nat->V,vs= [tv,vl,aB i,g 3,g 4,g 5,g 6,g 7,g 8,g 9,g 10,g 11])/\CJ b W h hh n tv ρ L t vl l t'/\i<l.length/\ ∀ a c,a<i+1->c<i+1->Pr n t' l a c) ?_ ?_
 ·refine aJ (λ k' vars hh=> ∃ (k:Nat) (vl:V) (l:LN) (t':uL),(∃ g:Nat->V,vars= [tv,vl,aB i,aB k,g 4,g 5,g 6,g 7,g 8,g 9,g 10,g 11])/\k<=i+1/\CJ b W h hh n tv ρ L t vl l t'/\i<l.length/\(∀ a c,a<i->c<i->Pr n t' l a c)/\(∀ c,c<k->Pr n t' l i c/\Pr n t' l c i)/\k'=i+1-k) (i+1)
   ⟨0,vl,l,t1,aA rfl,mJ _,J,hil,hP,λ c hc=>by omega,rfl⟩ ?_
  clear J hi hP lb lvl hlt e1 hil vl l t1 g
  rintro k' vars h2 ⟨k,vl,l,t1,⟨g,rfl⟩,hk,J,hil,hP,hQ,rfl⟩
  by_cases hlt:(k:Int)<=(i:Int)
  case neg=>
   have e1:=gJ hlt
   obtain rfl:k=i+1:=by omega
   simp (disch:=omega) only [go_sem,e1]
   refine ⟨vl,l,t1,aA rfl,J,hil,λ a c ha hc=>?_⟩
   by_cases ea:a=i
   ·subst ea;exact (hQ c hc).1
   ·by_cases ec:c=i
    ·subst ec;exact (hQ a ha).2
    ·exact hP a c (by omega) (by omega)
  have e1:=mG hlt
  have hki:k<=i:=by omega
  simp (disch:=omega) only [go_sem,e1]
  refine Ef (λ vs hh=> ∃ (vl:V) (l:LN) (t':uL),(∃ g:Nat->V,vs= [tv,vl,aB i,aB k,g 4,g 5,g 6,g 7,g 8,g 9,g 10,g 11])/\CJ b W h hh n tv ρ L t vl l t'/\i<l.length/\(∀ a c,a<i->c<i->Pr n t' l a c)/\ ∀ c,c<k+1->Pr n t' l i c/\Pr n t' l c i) ?_ ?_
  ·refine aJ (λ k' vars hh=> ∃ (q:Nat) (vl:V) (l:LN) (t':uL),(∃ g:Nat->V,vars= [tv,vl,aB i,aB k,aB q,g 5,g 6,g 7,g 8,g 9,g 10,g 11])/\q<=2/\CJ b W h hh n tv ρ L t vl l t'/\i<l.length/\(∀ a c,a<i->c<i->Pr n t' l a c)/\(∀ c,c<k->Pr n t' l i c/\Pr n t' l c i)/\(0<q->Pr n t' l i k)/\(1<q->Pr n t' l k i)/\k'=2-q) 2
    ⟨0,vl,l,t1,aA rfl,by omega,J,hil,hP,hQ,λ h=>by omega,λ h=>by omega,rfl⟩ ?_
   clear J hP hQ hlt e1 hil vl l t1 g
   rintro k' vars h3 ⟨q,vl,l,t1,⟨g,rfl⟩,hq,J,hil,hP,hQ,hA,hB,rfl⟩
   by_cases hlt:(q:Int)<2
   case neg=>
    have e1:=gJ hlt
    have hq2:q=2:=by omega
    simp (disch:=omega) only [go_sem,e1]
    refine ⟨vl,l,t1,aA rfl,J,hil,hP,λ c hc=>?_⟩
    by_cases ec:c=k
    ·subst ec;exact ⟨hA (by omega),hB (by omega)⟩
    ·exact hQ c (by omega)
   have e1:=mG hlt
   obtain ⟨⟨W',F',wl,R',ow,pvs,bl,hW⟩,fx,cls,sub⟩:=J
   obtain ⟨lvl,idl,offl,shl,hcl⟩:=jL.open ow.sv pvs
   have lb:=cls.bound
   obtain ⟨i1,c1,p1⟩:=hcl i hil
   obtain ⟨_,c2,p2⟩:=hcl k (by omega)
   have ga:=cls.gen _ (bG (d:= []) hil)
   have gc:=cls.gen _ (bG (d:= []) (show k<l.length by omega))
   obtain ⟨a,ea⟩: ∃ a,l.getD i []=a:=⟨_,rfl⟩
   obtain ⟨c,ec⟩: ∃ c,l.getD k []=c:=⟨_,rfl⟩
   rw [ea] at p1 ga
   rw [ec] at p2 gc
   have A:=ga.dR hL
   have C:=gc.dR hL
   generalize wl.getD i .undef=va at c1 p1
   generalize wl.getD k .undef=vc at c2 p2
   have v1:=SV.eU p1.si
   have v2:=SV.eU p2.si
   have vv:=SV.eU ow.sv
   simp (disch:=omega) only [go_sem,e1,shl.ixa,c1,c2]
   have fb:Fr h3 (H.mk h3.tr (h3.next+10)):=(Fr.refl h3).bF (by omega)
   refine (Bg va vc a c _ (by rw [A.len];omega) (p1.si.mono fb) (p2.si.mono fb) (λ j hj=>by rw [C.len];exact A.eS (by rw [←A.len];exact hj))).mono ?_
   rintro vx h4 ⟨s4,f4,l4⟩
   have f34:=fb.trans f4
   have c14:h4.cell idl (offl+i)=some va:=by rw [f34.cell i1];exact c1
   have c24:h4.cell idl (offl+k)=some vc:=by rw [f34.cell i1];exact c2
   simp (disch:=omega) only [go_sem,c14,c24,v1,v2]
   have px:PV W' h4 vx (bE a c):=PV.fresh s4 l4 (λ id hid=>mM (R'.Rx id hid) fb.next)
   refine oH (λ vs hh=> ∃ (vx:V) (x:List Nat),(∃ g:Nat->V,vs= [tv,vl,aB i,aB k,aB q,vx,g 6,g 7,g 8,g 9,g 10,g 11])/\PV W' hh vx x/\(q=0->x=bE a c)/\(q=1->x=bE c a)/\fS n L x/\Fr h3 hh) ?_ ?_
   ·refine aY (λ hq1=>?_) (λ hq1=>?_)
    ·have w1:(1:Int)=(q:Int):=by omega
     simp (disch:=omega) only [go_sem,shl.ixa,c14,c24]
     have fb4:Fr h4 (H.mk h4.tr (h4.next+10)):=(Fr.refl h4).bF (by omega)
     refine (Bg vc va c a _ (by rw [C.len];omega) (p2.si.mono (f34.trans fb4)) (p1.si.mono (f34.trans fb4)) (λ j hj=>by rw [A.len];exact C.eS (by rw [←C.len];exact hj))).mono ?_
     rintro vy h5 ⟨s5,f5,l5⟩
     have f45:=fb4.trans f5
     have c15:h5.cell idl (offl+i)=some va:=by rw [(f34.trans f45).cell i1];exact c1
     have c25:h5.cell idl (offl+k)=some vc:=by rw [(f34.trans f45).cell i1];exact c2
     simp (disch:=omega) only [go_sem,c15,c25,v1,v2]
     refine .inl ⟨vy,bE c a,aA rfl,PV.fresh s5 l5 (λ id hid=>mM (R'.Rx id hid) (f34.trans fb4).next),λ e=>by omega,λ _=>rfl,gc.app hL ga,f34.trans f45⟩
    ·simp (disch:=omega) only [go_sem]
     exact .inl ⟨vx,bE a c,aA rfl,px,λ _=>rfl,λ e=>by omega,ga.app hL gc,f34⟩
   clear px s4 l4 f34 c14 c24 f4 fb vx h4
   rintro vars h4 ⟨vx,x,⟨g,rfl⟩,px,hx0,hx1,gx,f4⟩
   have R4:=R'.mono f4
   simp (disch:=omega) only [go_sem]
   refine (Bv b W' h4 n tv ρ F' t1 (by omega) h0 R4 cls.tl.Pn).mono ?_
   rintro v5 h5 ⟨w5,o5,pe5,f5⟩
   have l5:dW v5=some (aB ((fM n t1 0).length:Int)):=(jL.open o5.sv (jL.fx pe5 (Fx.of f5))).1
   have m5:=NK n t1 (by omega)
   simp (disch:=omega) only [go_sem,l5]
   refine (Yd b W' h5 n tv ρ F' t1 vx x (by omega) h0 (R4.mono f5) (PV.mono px f5) (gx.dR hL) cls.tl.Pn).mono ?_
   rintro _ h6 ⟨F6,rfl,R6,f6⟩
   obtain ⟨cls',sub',hnone,m,hm⟩:=cls.step hL gx
   simp (disch:=omega) only [go_sem]
   refine (Bv b W' h6 n tv ρ F6 _ (by omega) h0 R6 cls'.tl.Pn).mono ?_
   rintro v7 h7 ⟨w7,o7,pe7,f7⟩
   have l7:dW v7=some (aB ((fM n (kA t1 n x) 0).length:Int)):=(jL.open o7.sv (jL.fx pe7 (Fx.of f7))).1
   have m7:=NK n (kA t1 n x) (by omega)
   have R7:=R6.mono f7
   have f35:=f4.trans f5
   have x37:Fx W' h3 h7:=((Fx.of f35).trans (R4.wbx f6) (λ _ _ h=>h)).trans (Fx.of f7:Fx W' h6 h7) (λ _ _ h=>h)
   have hrow: ∀ j,j<n->ρ j<h.next:=λ j hj=>R.Rx _ (R.wb j hj)
   have ow7:eL h7 vl 1 wl h.next:=by
    refine (((ow.fr f35).Bi f6.next λ id off m c e hid=>f6.get id hid λ hw=>?_).fr f7)
    obtain ⟨j,hj,rfl⟩:=hw
    have:=(ow.in _ _ _ _ e).2.1
    have:=hrow j hj
    omega
   have pvs7:jL W' h7 wl l:=jL.fx pvs x37
   simp (disch:=omega) only [go_sem,l7]
   have hfin: ∀ vl' h',CJ b W h h' n tv ρ L t vl' (l++m) (kA t1 n x)->CJ b W h h' n tv ρ L t vl' (l++m) (kA t1 n x)/\i<(l++m).length/\(∀ a c,a<i->c<i->Pr n (kA t1 n x) (l++m) a c)/\(∀ c,c<k->Pr n (kA t1 n x) (l++m) i c/\Pr n (kA t1 n x) (l++m) c i)/\(0<q+1->Pr n (kA t1 n x) (l++m) i k)/\(1<q+1->Pr n (kA t1 n x) (l++m) k i):=λ vl' h' J=>by
    have hkl:k<l.length:=by omega
    refine ⟨J,by rw [vA];omega,λ a c h1 h2=>(hP a c h1 h2).mono sub' (by omega) (by omega),λ c hc=>⟨(hQ c hc).1.mono sub' hil (by omega),(hQ c hc).2.mono sub' (by omega) hil⟩,λ _=>?_,λ _=>?_⟩
    ·by_cases e0:q=0
     ·rw [abD hil hkl]
      unfold Pr
      rw [ea,ec,←hx0 e0]
      exact hnone
     ·exact (hA (by omega)).mono sub' hil hkl
    ·have e0:q=1:=by omega
     rw [abD hkl hil]
     unfold Pr
     rw [ea,ec,←hx1 e0]
     exact hnone
   refine aY (λ hgrow=>?_) (λ hgrow=>?_)
   ·have hg:(fM n t1 0).length<(fM n (kA t1 n x) 0).length:=by omega
    have em:m=frF n (kA t1 n x) l:=by
     unfold clF at hm
     rw [if_pos hg] at hm
     exact (List.append_cancel_left hm).symm
    have m0:=agA cls cls'.tl.Pn hg
    rw [←em] at m0
    rw [hm] at cls'
    have lb2:=cls'.bound
    rw [vA] at lb2
    simp (disch:=omega) only [go_sem]
    refine (YQ b W' h7 n tv vl wl l ρ F6 _ (by omega) h0 R7 cls'.tl.Pn ow7.sv pvs7 cls.dR (by omega)).mono ?_
    rintro v8 h8 ⟨w8,o8,p8,f8⟩
    rw [←em] at p8
    have lw:=bJ.length pvs7
    have lw8:=bJ.length p8
    have ow8:=ow7.fr f8
    have R8:=R7.mono f8
    obtain ⟨h9,a9,p9⟩:=ow8.push (bytes:=24) o8.sv (n:=l.length) (m:=m.length) (by omega) (by omega) (by omega) m0 ⟨by omega,by omega⟩
    have n9:=p9.next
    have x89:=p9.fx bl
    have hnx:=x37.next
    have f8n:=f8.next
    have hfn:=fx.next
    simp (disch:=omega) only [go_sem,a9]
    rw [iJ q]
    have hw9: ∀ id,id<h8.next->(W' id∨id=h8.next)->W' id:=λ id h1 h2=>by
     rcases h2 with h2|h2
     ·exact h2
     ·omega
    have J':CJ b W h h9 n tv ρ L t (.sl h8.next 0 (l.length+m.length) (.un 1)) (l++m) (kA t1 n x):=by
     refine ⟨⟨λ id=>W' id∨id=h8.next,F6,wl++w8,?_,p9.own (by omega) (by omega) (by omega),?_,λ id off m c e=>by cases e;exact .inr rfl,λ id hid hw=>?_⟩,?_,cls',sub.trans sub'⟩
     ·refine R8.go x89 (λ j hj=>p9.old _ (by have:=hrow j hj;omega) λ id off m c e e2=>by have:=(ow8.in _ _ _ _ e).2.1;have:=hrow j hj;omega) hw9 (λ id hw=> .inl hw) (λ id hw=>?_) (λ id hw=>?_)
      ·rcases hw with hw|hw
       ·have:=R8.Rx id hw;omega
       ·omega
      ·rcases hw with hw|hw
       ·exact R8.low id hw
       ·omega
     ·exact (jL.go (jL.fx pvs7 (Fx.of f8)) x89 hw9).append (jL.go (jL.fx p8 (Fx.of f8)) x89 hw9)
     ·rcases hw with hw|hw
      ·exact hW id hid hw
      ·omega
     ·exact fx.trans ((x37.trans (Fx.of f8:Fx W' h7 h8) (λ _ _ h=>h)).trans x89 (λ _ _ h=>h)) hW
    obtain ⟨j1,j2,j3,j4,j5,j6⟩:=hfin _ _ J'
    exact ⟨2-(q+1),by omega,q+1,_,_,_,aA rfl,by omega,j1,j2,j3,j4,j5,j6,rfl⟩
   ·have hg: ¬(fM n t1 0).length<(fM n (kA t1 n x) 0).length:=by omega
    have em:m= []:=by
     unfold clF at hm
     rw [if_neg hg] at hm
     exact List.append_right_eq_self.1 hm.symm
    simp (disch:=omega) only [go_sem]
    rw [iJ q]
    have J':CJ b W h h7 n tv ρ L t vl (l++m) (kA t1 n x):=by
     rw [hm] at cls'
     exact ⟨⟨W',F6,wl,R7,ow7,by rw [em,List.append_nil];exact pvs7,bl,hW⟩,fx.trans x37 hW,cls',sub.trans sub'⟩
    obtain ⟨j1,j2,j3,j4,j5,j6⟩:=hfin _ _ J'
    exact ⟨2-(q+1),by omega,q+1,_,_,_,aA rfl,by omega,j1,j2,j3,j4,j5,j6,rfl⟩
  rintro vars h3 ⟨vl,l,t1,⟨g,rfl⟩,J,hil,hP,hQ⟩
  have lb:=J.cls.bound
  simp (disch:=omega) only [go_sem]
  rw [iJ k]
  exact ⟨i+1-(k+1),by omega,k+1,vl,l,t1,aA rfl,by omega,J,hil,hP,hQ,rfl⟩
 clear J hi hP lb lvl hlt e1 hil vl l t1 g
 rintro vars h2 ⟨vl,l,t1,⟨g,rfl⟩,J,hil,hP⟩
 have lb:=J.cls.bound
 simp (disch:=omega) only [go_sem]
 rw [iJ i]
 exact ⟨1000000-(i+1),by omega,i+1,vl,l,t1,aA rfl,J,by omega,hP,rfl⟩
theorem Vm (t:uL) (i k:Nat):(Gs t i k).length<=k:=by
 unfold Gs
 have:=List.length_filter_le (λ p=>p==i||(t i p).isSome) (List.range k)
 rwa [List.length_range] at this
theorem EF (b:Nat) (W:Nat->Prop) (h:H) (n:Nat) (tv:V) (ρ:Nat->Nat) (F:Nat->Nat->V) (t:uL) (i:Nat) (hn:n<=64) (h0:0<n) (hi:i<n) (R:Mk b W h n tv ρ F t) (TI:qZ n t):
  Ev T Hg [tv,aB i] h (λ v h'=>eL h' v 1 (ints (zi (Gs t i n))) h.next/\Fr h h'):=by
 refine aZ Gk rfl ?_
 have lv:=R.open.1
 simp (disch:=omega) only [go_sem,kM,aF]
 refine aJ (λ k' vars hh=> ∃ (p:Nat) (vl:V),(∃ g:Nat->V,vars= [tv,aB i,g 2,vl,aB p,g 5,g 6])/\i<=p/\p<=n/\eL hh vl 1 (ints (zi (Gs t i p))) h.next/\Fr h hh/\k'=n-p) (n-i)
  ⟨i,.aC,aA rfl,jI _,by omega,by rw [MS TI];exact eL.aC _ _ _,Fr.refl h,rfl⟩ ?_
 rintro k' vars h2 ⟨p,vl,⟨g,rfl⟩,hp1,hp2,ow,f,rfl⟩
 by_cases hlt:(p:Int)<(n:Int)
 case neg=>
  have e1:=gJ hlt
  obtain rfl:p=n:=by omega
  simp (disch:=omega) only [go_sem,lv,e1]
  exact ⟨ow,f⟩
 have e1:=mG hlt
 have hpn:p<n:=by omega
 have R3:=R.mono f
 obtain ⟨_,id2,off2,sh2,hc2⟩:=R3.open
 have cr:=hc2 i hi
 have ce:=R3.cell hi hpn
 have hS:=R.ent i p hi hpn
 have ll:=Vm t i p
 have hs:=TK (t:=t) i p
 have step:(p=i∨(t i p).isSome)-> ∃ h4,Lc (h2.new (.cells false (ints [(p:Int)]))) 1 8 vl (.sl h2.next 0 1 (.kn 1))=some (.sl (h2.next+1) 0 ((Gs t i p).length+1) (.un 1),h4)/\eL h4 (.sl (h2.next+1) 0 ((Gs t i p).length+1) (.un 1)) 1 (ints (zi (Gs t i (p+1)))) h.next/\Fr h h4:=λ hc=>by
  obtain ⟨h4,a4,ow4,f4,n4,_⟩:=Qw (v:= aB p) ow f (by rw [aS,aT];omega) (bytes:=8) (by omega)
  rw [aS,aT] at a4 ow4
  refine ⟨h4,a4,?_,f4⟩
  rw [hs,if_pos hc,Qt,uG]
  exact ow4
 by_cases hpi:p=i
 ·have e2:decide ((p:Int)=(i:Int))=true:=mG (by omega)
  obtain ⟨h4,a4,ow4,f4⟩:=step (.inl hpi)
  simp (disch:=omega) only [go_sem,lv,e1,e2,Mo,a4]
  rw [iJ p]
  exact ⟨n-(p+1),by omega,p+1,_,aA rfl,by omega,by omega,ow4,f4,rfl⟩
 have e2:decide ((p:Int)=(i:Int))=false:=gJ (by omega)
 cases hto:t i p with
 |none=>
  rw [hto] at hS
  rw [hS.nil] at ce
  simp (disch:=omega) only [go_sem,lv,e1,e2,sh2.ixa,cr,ce]
  rw [iJ p]
  refine ⟨n-(p+1),by omega,p+1,vl,aA rfl,by omega,by omega,?_,f.bF (by omega),rfl⟩
  rw [hs,if_neg (by rw [hto];simp [hpi]),List.append_nil]
  exact ow.fr ((Fr.refl h2).bF (by omega))
 |some y=>
  rw [hto] at hS
  have pz:PV W h (F i p) y:=hS
  have sn:=Kv pz (bI.ne h0 (TI.dR _ _ _ hto)) true
  generalize F i p=vz at ce pz sn
  obtain ⟨h4,a4,ow4,f4⟩:=step (.inr (by rw [hto];rfl))
  simp (disch:=omega) only [go_sem,lv,e1,e2,sh2.ixa,cr,ce,sn,Mo,a4]
  rw [iJ p]
  exact ⟨n-(p+1),by omega,p+1,_,aA rfl,by omega,by omega,ow4,f4,rfl⟩
theorem ZX.alV {h h':H} {v:V} {l:List Int} (c:ZX h l v h') (h0:0<l.length):Bu h h' v l:=by
 obtain ⟨_,f,e⟩:=c
 obtain ⟨id,rfl,h1,h2,h3⟩:=e h0
 exact ⟨⟨id,_,rfl,h1,h2,h3,.inl rfl⟩,f⟩
theorem QI (b:Nat) (W:Nat->Prop) (h:H) (n:Nat) (tv:V) (ρ:Nat->Nat) (F:Nat->Nat->V) (t:uL) (i0 p:Nat) (x:List Nat) (hn:n<=64) (h0:0<n) (hi0:i0<n) (hp:p<n) (R:Mk b W h n tv ρ F t) (TI:qZ n t) (tw:rU n 0 (mS n t)) (hto:(mS n t i0).to p=some x):
  Ev T Gq [tv,aB i0,aB p] h (λ v h'=>Bu h h' v (zi (Ph (mS n t) (n-(i0+1)) (i0+1) x))):=by
 have X:=(yO TI hi0 hto).1
 refine aZ Gz rfl ?_
 obtain ⟨lv,id9,off9,sh9,hc9⟩:=R.open
 simp (disch:=omega) only [go_sem,kQ,aF,lv]
 refine (adN n h (by omega)).mono ?_
 rintro v1 h1 ⟨s1,f1,l1⟩
 simp (disch:=omega) only [go_sem]
 have hwin: ∀ id,W id->id<h.next:=R.Rx
 refine oH (λ vs hh=> ∃ vx,(∃ g:Nat->V,vs= [tv,aB i0,aB p,g 3,vx,g 5,g 6,g 7,g 8,g 9,g 10,g 11,g 12,g 13])/\PV W hh vx x/\Fr h hh) ?_ ?_
 ·have hto':(if p=i0 then some (bZ n) else t i0 p)=some x:=hto
  refine aY (λ hpi=>?_) (λ hpi=>?_)
  ·have hpi':p≠i0:=by omega
   rw [if_neg hpi'] at hto'
   have R1:=R.mono f1
   obtain ⟨_,id2,off2,sh2,hc2⟩:=R1.open
   have cr:=hc2 i0 hi0
   have ce:=R1.cell hi0 hp
   have hS:=R1.ent i0 p hi0 hp
   rw [hto'] at hS
   have pz:PV W h1 (F i0 p) x:=hS
   generalize F i0 p=vz at ce pz
   simp (disch:=omega) only [go_sem,sh2.ixa,cr,ce]
   exact .inl ⟨vz,aA rfl,pz,f1⟩
  ·have hpi':p=i0:=by omega
   rw [if_pos hpi'] at hto'
   obtain rfl:bZ n=x:=Option.some.inj hto'
   simp (disch:=omega) only [go_sem]
   exact .inl ⟨v1,aA rfl,PV.fresh s1 l1 hwin,f1⟩
 clear s1 f1 l1 v1 h1
 rintro vars h1 ⟨vx,⟨g,rfl⟩,px,f1⟩
 simp (disch:=omega) only [go_sem]
 rw [iJ i0]
 refine bV (λ vs hh=> ∃ vy,(∃ g:Nat->V,vs= [tv,g 1,g 2,g 3,vy,g 5,g 6,g 7,g 8,g 9,g 10,g 11,g 12,g 13])/\PV W hh vy (Ph (mS n t) (n-(i0+1)) (i0+1) x)/\bI n (Ph (mS n t) (n-(i0+1)) (i0+1) x)/\Fr h hh) ?_ ?_
 ·refine aJ (λ k' vars hh=> ∃ (k:Nat) (y:List Nat) (vy:V),(∃ g:Nat->V,vars= [tv,g 1,g 2,g 3,vy,aB k,g 6,g 7,g 8,g 9,g 10,g 11,g 12,g 13])/\i0<k/\k<=n/\Ph (mS n t) (n-k) k y=Ph (mS n t) (n-(i0+1)) (i0+1) x/\
    PV W hh vy y/\bI n y/\Fr h hh/\k'=n-k) (n-(i0+1))
   ⟨i0+1,x,vx,aA rfl,by omega,by omega,rfl,px,X,f1,rfl⟩ ?_
  clear px f1 vx h1 g
  rintro k' vars h2 ⟨k,y,vy,⟨g,rfl⟩,hi1,hi2,hs,hy,Y,f,rfl⟩
  by_cases hlt:(k:Int)<(n:Int)
  case neg=>
   have e1:=gJ hlt
   obtain rfl:k=n:=by omega
   rw [Nat.sub_self] at hs
   simp (disch:=omega) only [go_sem,lv,e1]
   have hs':y=Ph (mS k t) (k-(i0+1)) (i0+1) x:=hs
   exact ⟨vy,aA rfl,by rw [←hs'];exact hy,by rw [←hs'];exact Y,f⟩
  have hkn:k<n:=by omega
  have e1:=mG hlt
  have R2:=R.mono f
  simp (disch:=omega) only [go_sem,lv,e1]
  refine (EF b W h2 n tv ρ F t k hn h0 hkn R2 TI).mono ?_
  rintro vo h3 ⟨oo,f3⟩
  obtain ⟨o,ho⟩: ∃ o,(mS n t k).orb=o:=⟨_,rfl⟩
  rw [show Gs t k n=o from ho] at oo
  have so:SI h3 vo (zi o):=oo.sv
  have lo:=so.lens
  rw [aT] at lo
  have lK:=(tw k (mJ _) hkn).1
  have hlo:o.length<=n:=by rw [←ho];exact Vm t k n
  obtain ⟨id,off,sh,hid,hc⟩:=so.open
  rw [aT] at sh hid hc
  have hy3:=PV.mono hy f3
  obtain ⟨id2,off2,sh2,hid2,hc2⟩:=hy3.si.open
  rw [aT,Y.len] at sh2 hid2 hc2
  simp (disch:=omega) only [go_sem]
  refine bV (λ vs hh=>(∃ g:Nat->V,vs= [tv,g 1,g 2,g 3,vy,aB k,g 6,aB (rG y k o:Int),g 8,g 9,g 10,g 11,g 12,g 13])/\rG y k o<n/\rG y k o∈k::o/\Fr h3 hh) ?_ ?_
  ·refine aJ (λ m' vars hh=> ∃ (m b:Nat),(∃ g:Nat->V,vars= [tv,g 1,g 2,g 3,vy,aB k,vo,aB b,aB m,g 9,g 10,g 11,g 12,g 13])/\m<=o.length/\b<n/\b∈k::o/\
     rG y b (o.drop m)=rG y k o/\Fr h3 hh/\m'=o.length-m) o.length
    ⟨0,k,aA rfl,mJ _,hkn,List.mem_cons_self ..,rfl,Fr.refl h3,rfl⟩ ?_
   rintro m' vars h4 ⟨m,b1,⟨g3,rfl⟩,hm,hb,hbm,hbest,f4,rfl⟩
   by_cases hlt2:(m:Int)<(o.length:Int)
   case neg=>
    have e2:=gJ hlt2
    have em:m=o.length:=by omega
    rw [em,List.drop_length] at hbest
    have hbest:b1=rG y k o:=hbest
    simp (disch:=omega) only [go_sem,lo,e2]
    exact ⟨by rw [←hbest];exact aA rfl,by rw [←hbest];exact hb,by rw [←hbest];exact hbm,f4⟩
   have e2:=mG hlt2
   have hm':m<o.length:=by omega
   rw [Yz _ _ hm'] at hbest
   have cq:h4.cell id (off+m)=some (aB (o.getD m 0:Nat)):=by rw [f4.cell (hid (by omega)),hc m hm'];congr 2;simp [zi,hm']
   have hqm:o.getD m 0∈o:=by rw [bW hm'];exact List.getElem_mem hm'
   have hqn:=lK.lt hkn (by rw [ho];exact hqm)
   generalize o.getD m 0=q at cq hqm hqn hbest
   have c1:h4.cell id2 (off2+q)=some (aB (y.getD q 0:Nat)):=by rw [f4.cell (hid2 (by omega)),hc2 q hqn];congr 2;simp [zi,Y.len,hqn]
   have c2:h4.cell id2 (off2+b1)=some (aB (y.getD b1 0:Nat)):=by rw [f4.cell (hid2 (by omega)),hc2 b1 hb];congr 2;simp [zi,Y.len,hb]
   simp (disch:=omega) only [go_sem,lo,e2,sh.ixa,cq,sh2.ixa,c1,c2]
   have fb:Fr h3 (H.mk h4.tr (h4.next+12)):=f4.bF (by omega)
   refine aY (λ hxx=>?_) (λ hxx=>?_)
   ·rw [if_pos (by omega)] at hbest
    simp (disch:=omega) only [go_sem,sh.ixa,cq]
    rw [iJ m]
    exact ⟨o.length-(m+1),by omega,m+1,q,aA rfl,by omega,hqn,List.mem_cons_of_mem _ hqm,hbest,fb,rfl⟩
   ·rw [if_neg (by omega)] at hbest
    simp (disch:=omega) only [go_sem]
    rw [iJ m]
    exact ⟨o.length-(m+1),by omega,m+1,b1,aA rfl,by omega,hb,hbm,hbest,fb,rfl⟩
  rintro vars h4 ⟨⟨g4,rfl⟩,hb,hbm,f4⟩
  have hstep:n-k=(n-(k+1))+1:=by omega
  rw [hstep] at hs
  have hs:Ph (mS n t) (n-(k+1)) (k+1) (if rG y k (mS n t k).orb=k then y else bE (((mS n t k).to (rG y k (mS n t k).orb)).getD []) y)=Ph (mS n t) (n-(i0+1)) (i0+1) x:=hs
  rw [ho] at hs
  have R4:=R2.mono (f3.trans f4)
  have hy4:=PV.mono hy3 f4
  generalize rG y k o=q at hs hb hbm
  by_cases hbk:q=k
  ·rw [if_pos hbk] at hs
   have e0:decide ((q:Int)≠(k:Int))=false:=gJ (by omega)
   simp (disch:=omega) only [go_sem,e0]
   rw [iJ k]
   exact ⟨n-(k+1),by omega,k+1,y,vy,aA rfl,by omega,by omega,hs,hy4,Y,(f.trans f3).trans f4,rfl⟩
  rw [if_neg hbk] at hs
  have e0:decide ((q:Int)≠(k:Int))=true:=mG (by omega)
  have hbo:q∈(mS n t k).orb:=by
   rcases List.mem_cons.1 hbm with e|e
   ·exact absurd e hbk
   ·rw [ho];exact e
  obtain ⟨u,hu⟩:=lK.to hbo
  have U:=lK.dR _ _ hu
  have hu':(if q=k then some (bZ n) else t k q)=some u:=hu
  rw [if_neg hbk] at hu'
  obtain ⟨_,id5,off5,sh5,hc5⟩:=R4.open
  have cr:=hc5 k hkn
  have ce:=R4.cell hkn hb
  have hS:=R4.ent k q hkn hb
  rw [hu'] at hS
  have pu:PV W h4 (F k q) u:=hS
  generalize F k q=vu at ce pu
  rw [hu] at hs
  simp (disch:=omega) only [go_sem,e0,sh5.ixa,cr,ce]
  refine (Bg vu vy u y h4 (by rw [U.len];omega) pu.si hy4.si (λ j hj=>by rw [Y.len];exact U.eS (by rw [←U.len];exact hj))).mono ?_
  rintro v h5 ⟨s5,f5,l5⟩
  simp (disch:=omega) only [go_sem]
  rw [iJ k]
  exact ⟨n-(k+1),by omega,k+1,_,v,aA rfl,by omega,by omega,hs,PV.fresh s5 l5 R4.Rx,U.mul Y,((f.trans f3).trans f4).trans f5,rfl⟩
 rintro vars h2 ⟨vy,⟨g2,rfl⟩,py,Y,f2⟩
 simp (disch:=omega) only [go_sem]
 refine (aiO vy _ h2 py.si (by rw [aT,Y.len];omega)).mono ?_
 rintro v h3 c
 have fr:=ZX.alV c (by rw [aT,Y.len];exact h0)
 simp (disch:=omega) only [go_sem]
 obtain ⟨⟨id,cap,e1,e2,e3,e4,e5⟩,f3⟩:=fr
 exact ⟨⟨id,cap,e1,by have:=f2.next;omega,e3,e4,e5⟩,f2.trans f3⟩
theorem QW (b:Nat) (W0:Nat->Prop) (h:H) (n:Nat) (tv:V) (ρ:Nat->Nat) (F:Nat->Nat->V) (t:uL) (hn:n<=64) (h0:0<n) (R:Mk b W0 h n tv ρ F t) (TI:qZ n t) (tw:rU n 0 (mS n t)):
  Ev T Gd [tv] h (λ v h'=> ∃ O R',UN (λ id=>id<h.next) h' v n O R'/\eE n (S n (mS n t) 0) O R'/\Fr h h'):=by
 refine aZ Hr rfl ?_
 have lv:=R.open.1
 obtain ⟨τ,hτ⟩: ∃ τ,mS n t=τ:=⟨_,rfl⟩
 obtain ⟨B,hB⟩: ∃ B,h.next=B:=⟨_,rfl⟩
 have bl:Eo [aB 0,.aC,.aC] [(0,1,aB n)]=some (.agg [aB n,.aC,.aC]):=by
  have e1:putAt [aB 0,.aC,.aC] 0 [aB n]=some [aB n,.aC,.aC]:=by simp [putAt]
  simp [Eo,jJ,e1,V.cells,V.one]
 obtain ⟨h1,h1e⟩: ∃ h1,h1=(h.new (.cells false [aB 0,.aC,.aC])).new (.cells false [aB 0,.aC,.aC]):=⟨_,rfl⟩
 have n1:h1.next=B+2:=by rw [h1e,H.bD,H.bD,hB]
 have g1:h1.get (B+1)=bQ [aB 0,.aC,.aC]:=by
  rw [h1e]
  have:=H.aQ (h.new (.cells false [aB 0,.aC,.aC])) (.cells false [aB 0,.aC,.aC])
  rwa [H.bD,hB] at this
 have g0:h1.get B=bQ [aB 0,.aC,.aC]:=by rw [h1e,H.bM _ (by rw [H.bD,hB];omega),←hB,H.aQ]
 have f1:Fr h h1:=by rw [h1e];exact ((Fr.refl h).new _).new _
 simp (disch:=omega) only [go_sem,kH,aF,hB,lv,bl]
 rw [←h1e]
 simp (disch:=omega) only [go_sem,dS h1 (B+1) 0 (v:= aB n) (u:= .aC) (w:= .aC) rfl rfl rfl,g1,dX]
 obtain ⟨h2,h2e⟩: ∃ h2,h2=h1.set (B+1) (bQ [aB n,.aC,.aC]):=⟨_,rfl⟩
 have n2:h2.next=B+2:=by rw [h2e];exact n1
 have f2:Fr h h2:=by rw [h2e];exact f1.set (by omega) _
 have g2:h2.get (B+1)=bQ [aB n,.aC,.aC]:=by rw [h2e,H.aW]
 have g20:h2.get B=bQ [aB 0,.aC,.aC]:=by rw [h2e,H.aH _ (by omega)];exact g0
 rw [←h2e]
 clear h1e h2e f1 g0 g1 n1 h1
 refine aJ (λ k' vars hh=> ∃ (i:Nat) (W:Nat->Prop) (O:LN) (R':qF) (vO vR:V) (wsO wsR:List V),(∃ g:Nat->V,vars= [tv,.ptr B 0,.ptr (B+1) 0,aB i,g 4,g 5,g 6,g 7,g 8])/\i<=n/\Dy h hh (B+1) B W n O R' vO vR wsO wsR/\
   hh.get B=bQ [aB 0,.aC,.aC]/\O.length=i/\R'.length=i/\(∀ j,j<i->ChL τ n j (O.getD j []) (R'.getD j []))/\k'=n-i) n
  ⟨0,_, [], [],_,_,_,_,aA rfl,mJ _,Dy.start (by omega) (by omega) (by omega) (by omega) (by omega) f2 g2,g20,rfl,rfl,λ j hj=>by omega,rfl⟩ ?_
 clear f2 g2 g20 n2 h2
 rintro k' vars h2 ⟨i,W,O,R',vO,vR,wsO,wsR,⟨g,rfl⟩,hi,A,gB,lO,lR,hC,rfl⟩
 by_cases hlt:(i:Int)<(n:Int)
 case neg=>
  have e1:=gJ hlt
  obtain rfl:i=n:=by omega
  have hr:=aX A.get
  have nB:=A.fr.next
  simp (disch:=omega) only [go_sem,lv,e1,hr,dS h2 B 0 (v:= aB i) (u:=vO) (w:=vR) rfl (SV.bP A.oO.sv).2.1 (SV.bP A.oR.sv).2.1,gB,dX]
  have hr2:=aX (h:=h2.set B (bQ [aB i,vO,vR])) (H.aW ..)
  have fB:Fx (· =B) h2 (h2.set B (bQ [aB i,vO,vR])):=Fx.set h2 (W:=(· =B)) rfl _
  simp (disch:=omega) only [go_sem,hr2]
  obtain ⟨h3,h3e⟩: ∃ h3,h3=h2.set B (bQ [aB i,vO,vR]):=⟨_,rfl⟩
  rw [←h3e] at fB ⊢
  have A3:=A.box h3e
  refine ⟨O,R',by rw [←hB];exact A3.chw,?_,A3.fr⟩
  rw [hτ] at tw ⊢
  have X:=tw.chain (O:=O) (R:=R') lO lR (λ j hj=>(hC j hj).1) (λ j hj=>(hC j hj).2.1) (λ j hj=>(hC j hj).2.2.1) (λ j hj=>(hC j hj).2.2.2)
  exact X
 have e1:=mG hlt
 have hin:i<n:=by omega
 have R2:=R.mono A.fr
 have lK:=(tw i (mJ _) hin).1
 rw [hτ] at lK
 simp (disch:=omega) only [go_sem,lv,e1]
 refine (EF b W0 h2 n tv ρ F t i hn h0 hin R2 TI).mono ?_
 rintro vo h4 ⟨oo,f4⟩
 obtain ⟨q,hq⟩: ∃ q,Gs t i n=q:=⟨_,rfl⟩
 have ascq:q.Pairwise (· < ·):=by rw [←hq];exact abS i n
 have memq: ∀ p,p∈q↔p∈(τ i).orb:=λ p=>by rw [←hq,VU,hτ]
 have hql:q.length<=n:=by rw [←hq];exact Vm t i n
 have hpos:0<q.length:=List.length_pos_of_mem ((memq i).2 lK.base)
 rw [hq] at oo
 obtain ⟨P,cp,rfl,hP1,hP2,cP⟩: ∃ P cp,vo= .sl P 0 q.length cp/\h2.next<=P/\P<h4.next/\ ∀ k,k<q.length->h4.cell P k=some (aB (q.getD k 0:Nat)):=by
  rcases oo with ⟨_,e⟩|⟨id,m,cap,rest,e1,e2,e3,e4,e5,e6⟩
  ·have:=congrArg List.length e
   rw [aS,aT,List.length_nil] at this
   omega
  ·rw [aS,aT,Nat.mul_one] at e2
   subst e2
   exact ⟨id,cap,e1,e4,e5,λ k hk=>by rw [H.aG e6,List.getElem?_append_left (by rw [aS,aT];exact hk),Dp hk]⟩
 have A4:=A.mono f4
 have pq:PV W h4 (.sl P 0 q.length cp) q:=⟨oo.sv,λ hw=>by have:=A.wb P hw;omega⟩
 have gB4:h4.get B=bQ [aB 0,.aC,.aC]:=by rw [f4.get B (A.wb B A.d)];exact gB
 clear A gB R2 oo
 simp (disch:=omega) only [go_sem]
 refine bV (λ vs hh=> ∃ (vr:V) (r:LN),(∃ g:Nat->V,vs= [tv,.ptr B 0,.ptr (B+1) 0,aB i,.sl P 0 q.length cp,vr,g 6,g 7,g 8])/\PL W hh vr r/\ChL τ n i q r/\Fr h4 hh) ?_ ?_
 ·refine aJ (λ k' vs hh=> ∃ (k:Nat) (vr:V) (ws:List V) (r:LN) (W':Nat->Prop),(∃ g:Nat->V,vs= [tv,.ptr B 0,.ptr (B+1) 0,aB i,.sl P 0 q.length cp,vr,aB k,g 7,g 8])/\k<=q.length/\eL hh vr 1 ws h4.next/\jL W' hh ws r/\Kt W' vr/\(∀ id,W id->W' id)/\(∀ id,W' id->id<hh.next/\(W id∨h4.next<=id))/\r.length=k/\
    (∀ j,j<k-> ∀ y,(τ i).to (q.getD j 0)=some y->r.getD j []=Ph τ (n-(i+1)) (i+1) y)/\Fr h4 hh/\k'=q.length-k) q.length
   ⟨0,.aC, [], [],W,aA rfl,mJ _,eL.aC _ _ _,trivial,λ _ _ _ _ e=>(by cases e),λ _ h=>h,λ id h=>⟨A4.wb id h,.inl h⟩,rfl,λ j hj=>by omega,Fr.refl _,rfl⟩ ?_
  rintro k' vars h5 ⟨k,vr,ws,r,W',⟨g,rfl⟩,hk,ow,pvs,bl',hW1,hW2,lr,hr,f5,rfl⟩
  by_cases hlt2:(k:Int)<(q.length:Int)
  case neg=>
   have e2:=gJ hlt2
   obtain rfl:k=q.length:=by omega
   simp (disch:=omega) only [go_sem,e2]
   refine ⟨vr,r,aA rfl,⟨ws,ow.sv,?_,pvs.zU (λ id _ h=>hW1 id h),eL.YP ow⟩,⟨ascq,memq,lr,hr⟩,f5⟩
   cases vr with
   |sl id off m c=>exact λ h=>by have:=(ow.in _ _ _ _ rfl).2.1;have:=A4.wb id h;omega
   |_=>trivial
  have e2:=mG hlt2
  have hk':k<q.length:=by omega
  obtain ⟨p,hp⟩: ∃ p,q.getD k 0=p:=⟨_,rfl⟩
  have ck:h5.cell P k=some (aB p):=by
   rw [f5.cell hP2,cP k hk',hp]
  have hpm:p∈(τ i).orb:=(memq p).1 (by rw [←hp,bW hk'];exact List.getElem_mem hk')
  have hpn:=lK.lt hin hpm
  obtain ⟨y,hy⟩:=lK.to hpm
  have Y:=lK.dR _ _ hy
  have R5:=R.mono (A4.fr.trans f5)
  simp (disch:=omega) only [go_sem,e2,ck]
  refine (QI b W0 h5 n tv ρ F t i p y hn h0 hin hpn R5 TI tw (by rw [hτ];exact hy)).mono ?_
  rw [hτ]
  rintro v7 h7 fr7
  have f7:=fr7.fr
  have p7:PV W' h7 v7 (Ph τ (n-(i+1)) (i+1) y):=fr7.pv λ id h=>(hW2 id h).1
  simp (disch:=omega) only [go_sem,dN h7 (z:= .aC) p7.eP.1 p7.eP.2]
  obtain ⟨h8,h8e⟩: ∃ h8,h8=h7.new (.cells false [v7]):=⟨_,rfl⟩
  have g8:h8.get h7.next=bQ [v7]:=by rw [h8e,H.aQ]
  have n8:h8.next=h7.next+1:=by rw [h8e,H.bD]
  have f8:Fr h7 h8:=by rw [h8e];exact (Fr.refl h7).new _
  rw [←h8e]
  have f58:=f7.trans f8
  have ow8:=ow.fr f58
  have hws:=bJ.length pvs
  obtain ⟨h9,a9,p9⟩:=ow8.push (bytes:=24) (SV.one (by omega) g8 (.kn 1)) (n:=k) (m:=1) (by omega) rfl (by omega) (by omega) (by omega)
  simp (disch:=omega) only [go_sem,a9]
  rw [iJ k]
  have n9:=p9.next
  have f9:Fx W' h8 h9:=p9.fx bl'
  have hnext:=f58.next
  have hw9: ∀ id,id<h8.next->(W' id∨id=h8.next)->W' id:=λ id h1 h2=>by
   rcases h2 with h2|h2
   ·exact h2
   ·omega
  refine ⟨q.length-(k+1),by omega,k+1,_,_,r++ [Ph τ (n-(i+1)) (i+1) y],λ id=>W' id∨id=h8.next,aA rfl,by omega,p9.own (by omega) rfl (by have:=f5.next;omega),?_,λ id off m c e=>by cases e;exact .inr rfl,λ id h=> .inl (hW1 id h),λ id h=>?_,by rw [vA,lr];rfl,λ j hj z hz=>?_,?_,rfl⟩
  ·exact (jL.go (jL.go pvs (Fx.of f58) (λ _ _ h=>h)) f9 hw9).append (jL.one (PV.go (p7.mono f8) f9 hw9))
  ·rcases h with h|h
   ·have:=hW2 id h;exact ⟨by omega,this.2⟩
   ·have:=f5.next;exact ⟨by omega,.inr (by omega)⟩
  ·by_cases e:j=k
   ·subst e
    rw [hp,hy] at hz
    cases hz
    rw [←lr,lN]
   ·rw [oA (by omega)]
    exact hr j (by omega) z hz
  ·refine ⟨by have:=f5.next;omega,λ id hid=>?_⟩
   rw [p9.old id (by have:=f5.next;omega) (λ id' off m c e e2=>by have:=(ow.in _ _ _ _ e).2.1;omega),f58.get id (by have:=f5.next;omega)]
   exact f5.get id hid
 rintro vars h5 ⟨vr,r,⟨g,rfl⟩,pl,hcl,f5⟩
 have A5:=A4.mono f5
 have pq5:=pq.mono f5
 have gB5:h5.get B=bQ [aB 0,.aC,.aC]:=by rw [f5.get B (A4.wb B A4.d)];exact gB4
 have cO:h5.cell (B+1) 1=some vO:=by rw [H.aG A5.get];rfl
 have cR:h5.cell (B+1) 2=some vR:=by rw [H.aG A5.get];rfl
 obtain ⟨ws,pl1,pl2,pl3,pl4⟩:=pl
 have pl:PL W h5 vr r:=⟨ws,pl1,pl2,pl3,pl4⟩
 have fn5:=A5.fr.next
 have cn5:=A5.wb _ A5.c
 simp (disch:=omega) only [go_sem,cO,cR,dN _ (z:= .aC) (v:= .sl P 0 q.length cp) rfl rfl]
 obtain ⟨h6,h6e⟩: ∃ h6:H,h6=H.mk ((H.mk h5.tr (h5.next+3)).new (Ob.cells false [.sl P 0 q.length cp])).tr (h5.next+14):=⟨_,rfl⟩
 rw [←h6e]
 have g6:h6.get (h5.next+3)=bQ [.sl P 0 q.length cp]:=by rw [h6e];exact H.aQ (H.mk h5.tr (h5.next+3)) _
 have n6:h6.next=h5.next+14:=by rw [h6e]
 have o6: ∀ k,k≠h5.next+3->h6.get k=h5.get k:=λ k hk=>by rw [h6e];exact H.bM (H.mk h5.tr (h5.next+3)) (by simpa using hk) _
 have f6:Fr h5 h6:=⟨by omega,λ id hid=>o6 id (by omega)⟩
 have hwO:=bJ.length A5.aO
 have hwR:=bJ.length A5.aR
 obtain ⟨h7,a7,p7⟩:=(A5.oO.fr f6).push (bytes:=24) (SV.one (by omega) g6 (.kn 1)) (n:=i) (m:=1) (by omega) rfl (by omega) (by omega) (by omega)
 have n7:=p7.next
 have oldO: ∀ k,k<h5.next->eC vO k->h7.get k=h5.get k:=λ k h1 h2=>by rw [p7.old k (by omega) h2,o6 k (by omega)]
 have cR7:h7.cell (B+1) 2=some vR:=by unfold H.cell;rw [oldO (B+1) cn5 A5.pO,A5.get];rfl
 have eR:eU vR vR=true:=A5.oR.sv.eU
 have svr:vr.cells= [vr]/\vr.one=true:=⟨(SV.bP pl1).1,(SV.bP pl1).2.1⟩
 simp (disch:=omega) only [go_sem,a7,cR7,eR,dN _ (z:= .aC) svr.1 svr.2]
 obtain ⟨h8,h8e⟩: ∃ h8:H,h8=H.mk ((H.mk h7.tr (h5.next+8)).new (Ob.cells false [vr])).tr h7.next:=⟨_,rfl⟩
 rw [←h8e]
 have g8:h8.get (h5.next+8)=bQ [vr]:=by rw [h8e];exact H.aQ (H.mk h7.tr (h5.next+8)) _
 have n8:h8.next=h7.next:=by rw [h8e]
 have o8: ∀ k,k≠h5.next+8->h8.get k=h7.get k:=λ k hk=>by rw [h8e];exact H.bM (H.mk h7.tr (h5.next+8)) (by simpa using hk) _
 have oR8:eL h8 vR 1 wsR h.next:=A5.oR.mono (by omega) λ id off m c e _ hid=>by
  rw [o8 id (by omega),oldO id hid (λ id' off' n' c' e' e2=>A5.PQ _ _ _ _ e' _ _ _ _ e e2.symm)]
 obtain ⟨h9,a9,p9⟩:=oR8.push (bytes:=24) (SV.one (by omega) g8 (.kn 1)) (n:=i) (m:=1) (by omega) rfl (by omega) (by omega) (by omega)
 have n9:=p9.next
 have apR: ∀ k,h5.next<=k->eC vR k:=λ k hk id off m c e e2=>by have:=(A5.oR.in _ _ _ _ e).1;omega
 have old9: ∀ k,k<h5.next->eC vO k->eC vR k->h9.get k=h5.get k:=λ k h1 h2 h3=>by rw [p9.old k (by omega) h3,o8 k (by omega),oldO k h1 h2]
 have gC9:h9.get (B+1)=bQ [aB n,vO,vR]:=by rw [old9 _ cn5 A5.pO A5.pR];exact A5.get
 have pt1: ∀ (hh:H) (x:V),fI (bQ [aB n,vO,vR]) hh (B+1) 1 [x]=some (hh.set (B+1) (bQ [aB n,x,vR])):=λ hh x=>bT (by simp) hh _ x
 have pt2: ∀ (hh:H) (x y:V),fI (bQ [aB n,x,vR]) hh (B+1) 2 [y]=some (hh.set (B+1) (bQ [aB n,x,y])):=λ hh x y=>bT (by simp) hh _ y
 simp (disch:=omega) only [go_sem,a9,gC9,pt1,pt2]
 rw [iJ i]
 obtain ⟨ha,hb⟩:h6.next=h5.next+14/\h8.next=h5.next+15:=⟨n6,by omega⟩
 rw [ha,hb]
 obtain ⟨h10,h10e⟩: ∃ h10,h10=(h9.set (B+1) (bQ [aB n,.sl (h5.next+14) 0 (i+1) (.un 1),vR])).set (B+1) (bQ [aB n,.sl (h5.next+14) 0 (i+1) (.un 1),.sl (h5.next+15) 0 (i+1) (.un 1)]):=⟨_,rfl⟩
 rw [←h10e]
 have o10: ∀ k,k≠B+1->h10.get k=h9.get k:=λ k hk=>by rw [h10e,H.aH _ hk,H.aH _ hk]
 have n10:h10.next=h5.next+16:=by rw [h10e];show h9.next=_;omega
 have A10:=A5.step (v4:= .sl P 0 q.length cp) (v5:=vr) (o:=q) (r:=r) (h6:=h10) (a:=h5.next+14) (b:=h5.next+15) (k1:=i+1) (k2:=i+1) pq5 pl (by omega) (by omega) (by omega) (by omega) (by omega) (by omega) (by omega) (by rw [h10e,H.aW])
  (by rw [o10 _ (by omega),p9.old _ (by omega) (apR _ (by omega)),o8 _ (by omega),←ha];exact p7.get) (by rw [o10 _ (by omega),←hb];exact p9.get) (λ k h1 h2 h3 h4=>by rw [o10 k h2];exact old9 k h1 h3 h4)
 refine ⟨n-(i+1),by omega,i+1,_,_,_,_,_,_,_,aA rfl,by omega,A10,?_,by rw [vA,lO];rfl,by rw [vA,lR];rfl,λ j hj=>?_,rfl⟩
 ·rw [old9 B (A5.wb B A5.d) A5.qO A5.qR];exact gB5
 ·by_cases e:j=i
  ·subst e
   have e1:(O++ [q]).getD j []=q:=by rw [←lO];exact lN
   have e2:(R'++ [r]).getD j []=r:=by rw [←lR];exact lN
   rw [e1,e2]
   exact hcl
  ·rw [oA (by omega),oA (by omega)]
   exact hC j (by omega)
theorem ZK (h:H) (n:Nat) (hn:n<=100000):Ms h 1 24 [.aC] (aB n) (aB n)=some (.sl h.next 0 n (.kn n),h.new (.cells false (rc n λ _=> .aC))):=by
 have e:dQ [V.aC] n=rc n λ _=> .aC:=(Ly (by simp [dQ]) λ i hi=>by simp [dQ,hi,Nat.mod_one]).symm
 rw [xS (by omega) (Int.le_refl _) (by omega) (by omega),Int.toNat_natCast,Nat.mul_one,e]
theorem WA (n:Nat) (h:H) (hn:n<=64):Ev T Wj [aB n] h (λ v h'=> ∃ ρ F,Mk h.next (WB n ρ) h' n v ρ F (λ _ _=>none)/\Fr h h'):=by
 refine aZ Xy rfl ?_
 simp (disch:=omega) only [go_sem,tC,aF]
 refine aJ (λ k' vars hh=> ∃ (i:Nat) (vl:V) (rs:List Nat),(∃ g:Nat->V,vars= [aB n,g 1,vl,aB i,g 4])/\i<=n/\rs.length=i/\eL hh vl 1 (rs.map λ r=> .sl r 0 n (.kn n)) h.next/\rs.Nodup/\
   (∀ r∈rs,h.next<=r/\r<hh.next/\hh.get r=some (.cells false (rc n λ _=> .aC))/\eC vl r)/\Fr h hh/\k'=n-i) n
  ⟨0,.aC, [],aA rfl,mJ _,rfl,eL.aC _ _ _,List.nodup_nil,λ r hr=>absurd hr List.not_mem_nil,Fr.refl h,rfl⟩ ?_
 rintro k' vars h2 ⟨i,vl,rs,⟨g,rfl⟩,hi,lr,ow,nd,hr,f,rfl⟩
 by_cases hlt:(i:Int)<(n:Int)
 case neg=>
  have e1:=gJ hlt
  obtain rfl:i=n:=by omega
  simp (disch:=omega) only [go_sem,e1]
  have hm: ∀ j,j<i->rs.getD j 0∈rs:=λ j hj=>bG (by omega)
  refine ⟨λ j=>rs.getD j 0,λ _ _=> .aC,⟨?_,?_,λ j hj=>(hr _ (hm j hj)).2.2.1,λ j hj=>⟨j,hj,rfl⟩,?_,?_,λ a c ha hc e=>?_,λ _ _ _ _=>rfl⟩,f⟩
  ·have e2:(rc i λ j=>V.sl (rs.getD j 0) 0 i (.kn i))=rs.map λ r=> .sl r 0 i (.kn i):=Ly (by rw [nO];exact lr) λ j hj=>by
    rw [List.getElem?_map,iH (by omega),List.getD,iH (by omega)];rfl
   rw [e2]
   exact ow.sv
  ·cases vl with
   |sl id off m c=>
    rintro ⟨j,hj,e⟩
    exact (hr _ (hm j hj)).2.2.2 _ _ _ _ rfl e
   |_=>trivial
  ·rintro id ⟨j,hj,rfl⟩;exact (hr _ (hm j hj)).2.1
  ·rintro id ⟨j,hj,rfl⟩;exact (hr _ (hm j hj)).1
  ·have ea:=iH (show a<rs.length by omega)
   have ec:=iH (show c<rs.length by omega)
   simp only [List.getD,ea,ec,Option.getD_some] at e
   rcases Nat.lt_trichotomy a c with h1|h1|h1
   ·exact absurd e (List.pairwise_iff_getElem.1 nd a c (by omega) (by omega) h1)
   ·exact h1
   ·exact absurd e.symm (List.pairwise_iff_getElem.1 nd c a (by omega) (by omega) h1)
 have e1:=mG hlt
 obtain ⟨S,hS⟩: ∃ S,h2.next=S:=⟨_,rfl⟩
 obtain ⟨h3,e3,n3,g3,o3,f3⟩:=iK hS (rc n λ _=> .aC)
 have fn:=f.next
 obtain ⟨h4,a4,ow4,f4,n4,o4⟩:=Qw (v:= .sl S 0 n (.kn n)) (ow.fr f3) (f.trans f3) (by rw [nO];omega) (bytes:=24) (by omega)
 rw [nO,lr,n3] at a4 ow4
 simp (disch:=omega) only [go_sem,e1,ZK h2 n (by omega),hS,e3,dN _ (z:= .aC) (v:= .sl S 0 n (.kn n)) rfl rfl,n3,a4]
 rw [iJ i]
 have hlt2: ∀ r∈rs,r<S:=λ r h=>by have:=(hr r h).2.1;omega
 refine ⟨n-(i+1),by omega,i+1,_,rs++ [S],aA rfl,by omega,by rw [vA,lr];rfl,by rw [List.map_append];exact ow4,List.nodup_append.2 ⟨nd,by simp,λ a ha c hc e=>?_⟩,λ r h=>?_,f4,rfl⟩
 ·have:=hlt2 a ha
  simp at hc;omega
 ·rcases List.mem_append.1 h with h|h
  ·obtain ⟨b1,b2,b3,b4⟩:=hr r h
   refine ⟨b1,by omega,by rw [o4 r (by omega) b4,o3 r (by omega)];exact b3,λ id off m c e=>by cases e;omega⟩
  ·simp at h
   subst h
   refine ⟨by omega,by omega,by rw [o4 _ (by omega) (λ id off m c e e2=>by have:=(ow.in _ _ _ _ e).1;omega)];exact g3,λ id off m c e=>by cases e;omega⟩
theorem Ec (vl:V) (n:Nat) (l:LN) (h:H) (n0:1<=n) (n7:n<=7) (hl:l.length<=4096) (hv:SP h vl l) (hP: ∀ g∈l,bI n g):
  Ev T DQ [aB n,vl] h (λ v h'=> ∃ vc O R,v= .tup [vc,aB 0]/\GC (λ id=>id<h.next) h' vc n O R (fS n (· ∈l))/\Fr h h'):=by
 refine aZ AK rfl ?_
 obtain ⟨B,hB⟩: ∃ B,h.next=B:=⟨_,rfl⟩
 obtain ⟨h1,e1,n1,g1,o1,f1⟩:=iK hB [aB 0,.aC,.aC]
 have d1:decide ((n:Int)<1)=false:=gJ (by omega)
 have d2:decide ((64:Int)<(n:Int))=false:=gJ (by omega)
 have lv:=hv.lens
 rw [nO] at lv
 have d3:decide ((4096:Int)<(l.length:Int))=false:=gJ (by omega)
 obtain ⟨id,off,ws,sh,hid,hwl,hc,hall⟩:=hv.open
 rw [nO] at sh hid hwl hc
 simp (disch:=omega) only [go_sem,vT,aF,hB,e1,d1,d2,lv,d3]
 refine bV (λ vs hh=>(∃ g:Nat->V,vs= [aB n,vl,.ptr B 0,g 3,g 4,g 5,g 6,g 7,g 8,g 9,g 10,g 11,g 12,g 13])/\Fr h1 hh) ?_ ?_
 ·refine aJ (λ k' vs hh=> ∃ (i:Nat),(∃ g:Nat->V,vs= [aB n,vl,.ptr B 0,g 3,aB i,g 5,g 6,g 7,g 8,g 9,g 10,g 11,g 12,g 13])/\i<=l.length/\Fr h1 hh/\k'=l.length-i) l.length
   ⟨0,aA rfl,mJ _,Fr.refl h1,rfl⟩ ?_
  rintro k' vars h2 ⟨i,⟨g,rfl⟩,hi,f,rfl⟩
  by_cases hlt:(i:Int)<(l.length:Int)
  ·have d4:=mG hlt
   have hi':i<l.length:=by omega
   have F2:=f1.trans f
   have ci:h2.cell id (off+i)=some (ws.getD i .undef):=by rw [F2.cell (hid (by omega)),hc i hi']
   have s0:=Lj hall hi'
   have X:bI n (l.getD i []):=hP _ (bG hi')
   generalize ws.getD i .undef=vx at ci s0
   have lx:=s0.lens
   rw [aT,X.len] at lx
   simp (disch:=omega) only [go_sem,lv,d4,sh.ixa,ci]
   refine (Ju vx _ h2 (by rw [aT,X.len];omega) (s0.mono F2)).mono ?_
   rw [Uo X n0 (by omega)]
   rintro _ h3 ⟨rfl,f3⟩
   have ci3:h3.cell id (off+i)=some vx:=by rw [f3.cell (by have:=hid (by omega);have:=F2.next;omega)];exact ci
   simp (disch:=omega) only [go_sem]
   refine aY (λ hc=>(hc rfl).elim) (λ _=>?_)
   simp (disch:=omega) only [go_sem,sh.ixa,ci3,lx]
   refine aY (λ hc=>(hc rfl).elim) (λ _=>?_)
   simp (disch:=omega) only [go_sem]
   rw [iJ i]
   exact ⟨l.length-(i+1),by omega,i+1,aA rfl,by omega,f.trans f3,rfl⟩
  have d4:=gJ hlt
  simp (disch:=omega) only [go_sem,lv,d4]
  exact ⟨aA rfl,f⟩
 rintro vars h2 ⟨⟨g,rfl⟩,f⟩
 have F2:=f1.trans f
 have nf:=f.next
 simp (disch:=omega) only [go_sem]
 refine (WA n h2 (by omega)).mono ?_
 rintro tv h3 ⟨ρ,F,R,f3⟩
 have F3:=F2.trans f3
 simp (disch:=omega) only [go_sem]
 have hL: ∀ g,g∈l->bI n g:=hP
 refine bV (λ vs hh=> ∃ (F':Nat->Nat->V) (t:uL),(∃ g:Nat->V,vs= [aB n,vl,.ptr B 0,g 3,g 4,g 5,tv,g 7,g 8,g 9,g 10,g 11,g 12,g 13])/\Mk h2.next (WB n ρ) hh n tv ρ F' t/\Vs n (· ∈l) t/\(∀ g∈l,ins t n 0 g=none)/\Fx (WB n ρ) h3 hh) ?_ ?_
 ·refine aJ (λ k' vs hh=> ∃ (i:Nat) (F':Nat->Nat->V) (t:uL),(∃ g:Nat->V,vs= [aB n,vl,.ptr B 0,g 3,g 4,g 5,tv,aB i,g 8,g 9,g 10,g 11,g 12,g 13])/\i<=l.length/\Mk h2.next (WB n ρ) hh n tv ρ F' t/\Vs n (· ∈l) t/\(∀ g∈l.take i,ins t n 0 g=none)/\Fx (WB n ρ) h3 hh/\k'=l.length-i) l.length
   ⟨0,F,_,aA rfl,mJ _,R,⟨qZ.empty n,λ g hg=>by
    obtain ⟨_,_,_,_,_,e⟩:=gE.1 hg
    cases e⟩,λ g hg=>absurd hg List.not_mem_nil,Fx.refl _ _,rfl⟩ ?_
  rintro k' vars h4 ⟨i,F',t,⟨g,rfl⟩,hi,R4,tl,hn,x,rfl⟩
  by_cases hlt:(i:Int)<(l.length:Int)
  case neg=>
   have d4:=gJ hlt
   obtain rfl:i=l.length:=by omega
   simp (disch:=omega) only [go_sem,lv,d4]
   rw [List.take_length] at hn
   exact ⟨F',t,aA rfl,R4,tl,hn,x⟩
  have d4:=mG hlt
  have hi':i<l.length:=by omega
  have lowB: ∀ q,WB n ρ q->h2.next<=q:=R.low
  have X4:Fr h h4:=F2.trans ⟨by have:=f3.next;have:=x.next;omega,λ q hq=>by rw [x.get q (by have:=f3.next;omega) (λ hw=>by have:=lowB q hw;omega)];exact f3.get q hq⟩
  have ci:h4.cell id (off+i)=some (ws.getD i .undef):=by rw [X4.cell (hid (by omega)),hc i hi']
  have s0:=Lj hall hi'
  have X:bI n (l.getD i []):=hP _ (bG hi')
  generalize ws.getD i .undef=vx at ci s0
  simp (disch:=omega) only [go_sem,lv,d4,sh.ixa,ci]
  have px:PV (WB n ρ) h4 vx (l.getD i []):=by
   refine ⟨s0.mono X4,NI (b:=h2.next) s0 (by omega) lowB⟩
  refine (Yd h2.next (WB n ρ) h4 n tv ρ F' t vx _ (by omega) (by omega) R4 px X tl.Pn).mono ?_
  rintro _ h5 ⟨F5,rfl,R5,f5⟩
  simp (disch:=omega) only [go_sem]
  rw [iJ i]
  obtain ⟨tl5,sub5,hnone⟩:=tl.ins hL (x:=l.getD i []) (fS.of hL (bG hi'))
  refine ⟨l.length-(i+1),by omega,i+1,F5,_,aA rfl,by omega,R5,tl5,λ u hu=>?_,x.trans f5 (λ _ _ h=>h),rfl⟩
  rcases (Hz hi').1 hu with hu|rfl
  ·exact Kf sub5 _ _ _ (hn u hu)
  ·exact hnone
 clear g
 rintro vars h4 ⟨F',t,⟨g,rfl⟩,R4,tl,hn,x⟩
 have x3:=x.next
 have n3:=f3.next
 simp (disch:=omega) only [go_sem]
 refine (YY h2.next (WB n ρ) h4 n tv ρ F' t (· ∈l) n7 n0 (by omega) R4 hL tl).mono ?_
 rintro _ h5 ⟨W5,F5,t5,R5,tl5,sub5,cl5,x5,hw5⟩
 have n5:=x5.next
 have tw:=OG tl5.Pn cl5
 simp (disch:=omega) only [go_sem]
 refine (QW h2.next W5 h5 n tv ρ F5 t5 (by omega) n0 R5 tl5.Pn tw).mono ?_
 rintro vc h6 ⟨O,R',ch,isc,f6⟩
 have n6:=f6.next
 have lowB: ∀ q,WB n ρ q->h2.next<=q:=R.low
 have F5':Fr h2 h5:=⟨by omega,λ q hq=>by
  rw [x5.get q (by omega) (λ hw=>by have:=lowB q hw;omega),x.get q (by omega) (λ hw=>by have:=lowB q hw;omega)]
  exact f3.get q hq⟩
 have F6:=(F2.trans F5').trans f6
 have F26:=F5'.trans f6
 have g6:h6.get B=some (.cells false [aB 0,.aC,.aC]):=by rw [F26.get B (by omega),f.get B (by omega)];exact g1
 have ch0:=ch
 obtain ⟨vO,vR,wsO,wsR,e,t1,_,_,t2,_,_⟩:=ch
 subst e
 have oneO:=t1.bP.2.1
 have oneR:=t2.bP.2.1
 obtain ⟨h7,e7,n7',g7,o7⟩:=Ca h6 B [aB n,vO,vR]
 have r7:=aX g7
 simp (disch:=omega) only [go_sem,dS h6 B 0 (v:= aB n) (u:=vO) (w:=vR) rfl oneO oneR,g6,dX,e7,r7]
 have f7:Fx (λ id=>id<h5.next) h6 h7:=⟨by omega,λ id _ hid=>o7 id (by omega)⟩
 refine ⟨_,O,R',rfl,⟨ch0.go f7 (λ id _ h=>by omega),isc.congr (tl5.group hL n0 cl5 λ g hg=>Kf sub5 _ _ _ (hn g hg)),fS.jY hP,n0,n7⟩,⟨by have:=F6.next;omega,λ id hid=>by rw [o7 id (by omega)];exact F6.get id hid⟩⟩
theorem rR (x:Nat) (l:List Int) (n:Int) (h:H) (ht:Tk h x l) (hl:l.length<9223372036854775808) (hn:1<=n) (hn2:n<1000000000):
  Ev T Nq [.ptr x 0,aB n] h (λ v h'=> ∃ z,v= aB z/\0<=z/\z<n/\Tk h' x l/\Ft x h h'):=by
 obtain ⟨vl,a,hg,hs,hne,ha,hx⟩:=ht
 refine aZ Nw rfl ?_
 have g0:h.cell x 0=some vl:=by rw [H.aG hg];rfl
 have g1:h.cell x 1=some (aB a):=by rw [H.aG hg];rfl
 have ev:eU vl vl=true:=SV.eU hs
 obtain ⟨id,off,hsl,hid,hc⟩:=hs.open
 simp (disch:=first|omega|(simp only [Qn];(try omega);done)|fail) only [go_sem,oK,aF,g0,g1,hs.lens,ev]
 by_cases hal:(l.length:Int)<=(a:Int)
 ·rw [decide_eq_true hal]
  simp (disch:=first|omega|(simp only [Qn];(try omega);done)|fail) only [go_sem]
  exact ⟨0,rfl,by omega,by omega,⟨vl,a,hg,hs.mono ((Fr.refl h).bF (by omega)),hne,ha,by show x<h.next+14;omega⟩,Ft.of ((Fr.refl h).bF (by omega))⟩
 ·rw [decide_eq_false hal]
  simp (disch:=first|omega|(simp only [Qn];(try omega);done)|fail) only [go_sem]
  rw [decide_eq_false (show ¬n<1 by omega)]
  simp (disch:=first|omega|(simp only [Qn];(try omega);done)|fail) only [go_sem,g1,hg]
  have hne2:id≠x:=by
   intro e
   have:=hsl.ixa .i64 0 (by omega) (by omega)
   rcases hs with ⟨_,h0⟩|⟨id',o',len',cap',_,_,rfl,_⟩
   ·have:(ints l).length=0:=by rw [h0];rfl
    rw [aS] at this;omega
   ·have hll:len'=l.length:=Option.some.inj hsl.len
    rw [Ky (by omega) (by omega)] at this
    simp only [Option.some.injEq,V.ptr.injEq] at this
    have:=hne _ _ _ _ rfl;omega
  have c0:h.cell id (off+a)=some (aB (l.getD a 0)):=hc a (by omega)
  have ea:((a:Int)+1- 1).toNat=a:=by omega
  simp (disch:=first|omega|(simp only [Qn];(try omega);done)|fail) only [go_sem,g0,g1,hg,hsl.ixa,c0,ev,ea]
  have hgg: ∀ m,(H.mk ((H.mk h.tr (h.next+14)).set x (some (.cells false [vl,aB ((a:Int)+1)]))).tr m).get x=some (.cells false [vl,aB ((a:Int)+1)]):=λ m=>H.aW ..
  have hfx:Ft x h (H.mk ((H.mk h.tr (h.next+14)).set x (some (.cells false [vl,aB ((a:Int)+1)]))).tr (h.next+14+14)):=⟨by show h.next<=h.next+14+14;omega,λ id hid hne=>H.aH _ hne _⟩
  have hnn:(H.mk ((H.mk h.tr (h.next+14)).set x (some (.cells false [vl,aB ((a:Int)+1)]))).tr (h.next+14+14)).next=h.next+14+14:=rfl
  have hgx:=hgg (h.next+14+14)
  generalize H.mk ((H.mk h.tr (h.next+14)).set x (some (.cells false [vl,aB ((a:Int)+1)]))).tr (h.next+14+14)=h2 at*
  refine (acT (l.getD a 0) n h2 (by omega) hn2).mono ?_
  rintro v h3 ⟨rfl,rfl⟩
  have k0:h3.cell x 0=some vl:=by rw [H.aG hgx];rfl
  have k1:h3.cell x 1=some (aB ((a:Int)+1)):=by rw [H.aG hgx];rfl
  simp (disch:=first|omega|(simp only [Qn];(try omega);done)|fail) only [go_sem,k0,k1,ev]
  have hr:=JK (l.getD a 0) (show 0<n by omega)
  refine ⟨_,rfl,hr.1,hr.2,⟨vl,a+1,?_,?_,hne,by omega,by omega⟩,hfx⟩
  ·rw [hgx];simp
  ·rcases hs with h0|⟨id',o',len',cap',ro,vs,rfl,q2,q3,q4,q5,q6⟩
   ·exact .inl h0
   ·exact .inr ⟨id',o',len',cap',ro,vs,rfl,q2,by omega,(hfx.get id' q3 (λ e=>by have:=hne _ _ _ _ rfl;omega)).trans q4,q5,q6⟩
theorem Vc (n:Nat) (h:H) (hN:n<=1000):
  Ev T Zc [aB n] h (λ v h'=>eL h' v 1 (ints (zi (bZ n))) h.next/\Fr h h'):=by
 refine aZ Yr rfl ?_
 simp (disch:=first|omega|(simp only [Qn];(try omega);done)|fail) only [go_sem,Ai,aF]
 refine aJ (λ k' vars hh=> ∃ (i:Nat) (o:V),(∃ j:Nat->V,vars= [aB n,j 1,o,aB i,j 4])/\i<=n/\eL hh o 1 (ints (zi ((bZ n).take i))) h.next/\Fr h hh/\k'=n-i) n
  ⟨0,.aC,aA rfl,mJ _,eL.aC _ _ _,Fr.refl h,rfl⟩ ?_
 rintro k' vars h2 ⟨i,o,⟨jk,rfl⟩,hi,oO,F,rfl⟩
 simp (disch:=first|omega|(simp only [Qn];(try omega);done)|fail) only [go_sem]
 by_cases hlt:(i:Int)<(n:Int)
 ·rw [decide_eq_true hlt]
  have hi':i<n:=by omega
  simp (disch:=first|omega|(simp only [Qn];(try omega);done)|fail) only [go_sem,Mo]
  have hf31:Fr h2 (h2.new (.cells false (ints [(i:Int)]))):=(Fr.refl h2).new _
  have hg31:(h2.new (.cells false (ints [(i:Int)]))).get h2.next=some (.cells false (ints [(i:Int)])):=H.aQ ..
  have hn31:(h2.new (.cells false (ints [(i:Int)]))).next=h2.next+1:=H.bD ..
  generalize h2.new (.cells false (ints [(i:Int)]))=h31 at*
  have sx:SV h31 (.sl h2.next 0 1 (.kn 1)) 1 (ints [(i:Int)]):=SV.all rfl (by omega) hg31 _
  have nF:=F.next
  have hl:=iN n
  obtain ⟨v2,h32,e32,a32⟩:=(oO.fr hf31).app (bytes:=8) (n:=i) (m:=1) (by omega) sx (by rw [aS,aT,List.length_take,Nat.mul_one];omega) rfl (by omega) (by omega)
  simp (disch:=first|omega|(simp only [Qn];(try omega);done)|fail) only [go_sem,e32]
  have t32:=a32.own
  have hm:=fG hi'
  have e1:zi ((bZ n).take i)++ [(i:Int)]=zi ((bZ n).take (i+1)):=by rw [Ns (by omega),Qt,hm]
  rw [←uG,e1] at t32
  rw [iJ i]
  exact ⟨n-(i+1),by omega,i+1,v2,aA rfl,by omega,t32,a32.fr h (F.trans hf31) (jI _),rfl⟩
 rw [decide_eq_false hlt]
 obtain rfl:i=n:=by omega
 simp (disch:=first|omega|(simp only [Qn];(try omega);done)|fail) only [go_sem]
 rw [List.take_of_length_le (by rw [iN];omega)] at oO
 exact ⟨oO,F⟩
structure Mp (h:H) (v:V) (n id:Nat) (l:List Nat):Prop where
 ex: ∃ cap rest,v= .sl id 0 n cap/\id<h.next/\h.get id=some (.cells false (ints (zi l)++rest))
 dR:bI n l
theorem Mp.of {h:H} {v:V} {n b:Nat} {l:List Nat} (h0:0<n) (X:bI n l) (o:eL h v 1 (ints (zi l)) b): ∃ id,Mp h v n id l/\b<=id:=by
 rcases o with ⟨_,e⟩|⟨id,m,cap,rest,rfl,e2,e3,e4,e5,e6⟩
 ·have:=congrArg List.length e
  rw [aS,aT,List.length_nil,X.len] at this
  omega
 ·rw [aS,aT,Nat.mul_one,X.len] at e2
  subst e2
  exact ⟨id,⟨⟨cap,rest,rfl,e5,e6⟩,X⟩,e4⟩
theorem Mp.si {h:H} {v:V} {n id:Nat} {l:List Nat} (m:Mp h v n id l):SI h v (zi l):=by
 obtain ⟨⟨cap,rest,rfl,h1,h2⟩,X⟩:=m
 refine .inr ⟨id,0,n,cap,false,_,rfl,by rw [aS,aT,X.len,Nat.mul_one],h1,h2,by rw [vA,aS,aT,X.len];omega,?_⟩
 rw [List.drop_zero,Nat.mul_one,List.take_left' (by rw [aS,aT,X.len])]
theorem Mp.mono {h h':H} {v:V} {n id:Nat} {l:List Nat} (m:Mp h v n id l) (hn:h.next<=h'.next) (hg:h'.get id=h.get id):Mp h' v n id l:=by
 obtain ⟨⟨cap,rest,h1,h2,h3⟩,X⟩:=m
 exact ⟨⟨cap,rest,h1,by omega,by rw [hg];exact h3⟩,X⟩
theorem ER {l:List Nat} {rest:List V} {i:Nat} (hi:i<l.length) (x:Nat):(ints (zi l)++rest).set i (aB x)=ints (zi (l.set i x))++rest:=by
 rw [List.set_append_left _ _ (by rw [aS,aT];exact hi)]
 congr 1
 simp [ints,zi,List.map_set]
def afC (n a b:Nat):List Nat:=(List.range n).map λ j=>if j=b- 1 then a else if a<=j/\j<b then j+1 else j
theorem Tv {n:Nat} {f:Nat->Nat} {j:Nat} (hj:j<n):((List.range n).map f).getD j 0=f j:=by simp [List.getD,hj]
theorem XE {n a b:Nat} (h1:a<b) (h2:b<=n):bI n (afC n a b):=by
 unfold afC
 refine bI.BW (by simp) (λ i hi=>?_) (λ i j hi hj h=>?_)
 ·rw [Tv hi]
  split
  ·omega
  ·split<;>omega
 ·rw [Tv hi,Tv hj] at h
  split at h<;>split at h<;>(try split at h)<;>(try split at h)<;>omega
theorem WC {n:Nat} (f:Nat->Nat):(rc n λ j=>aB (f j:Nat))=ints (zi ((List.range n).map f)):=by
 have e:=Ub ((List.range n).map f)
 rw [nO,List.length_range] at e
 rw [←e]
 exact cJ λ j hj=>by rw [Tv hj]
theorem HP (h:H) (v:V) (n id a b:Nat) (hn:n<=64) (m:Mp h v n id (bZ n)) (h1:a<b) (h2:b<=n):
  Ev T HI [v,aB a,aB b] h (λ w h'=>w=v/\Mp h' v n id (afC n a b)/\Ft id h h'):=by
 refine aZ ES rfl ?_
 obtain ⟨⟨cap,rest,rfl,hid,hg⟩,_⟩:=m
 have e0:ints (zi (bZ n))=rc n λ j=> aB (((if a<=j/\j<a then j+1 else j:Nat)):Int):=by
  rw [WC]
  congr 2
  refine (Br (by simp [bZ]) λ i hi=>?_).symm
  rw [nO,List.length_range] at hi
  rw [Tv hi,fG hi,if_neg (by omega)]
 rw [e0] at hg
 simp (disch:=first|omega|(simp only [Qn];(try omega);done)|fail) only [go_sem,yT,aF]
 refine bV (λ vs hh=>(∃ g:Nat->V,vs= [.sl id 0 n cap,aB a,aB b,g 3,g 4,g 5])/\hh.get id=some (.cells false ((rc n λ j=> aB (((if a<=j/\j<b then j+1 else j:Nat)):Int))++rest))/\Ft id h hh) ?_ ?_
 ·refine aJ (λ k' vars hh=> ∃ (i:Nat),(∃ g:Nat->V,vars= [.sl id 0 n cap,aB a,aB b,g 3,aB i,g 5])/\a<=i/\i<=b/\hh.get id=some (.cells false ((rc n λ j=> aB (((if a<=j/\j<i then j+1 else j:Nat)):Int))++rest))/\Ft id h hh/\k'=b-i) (b-a)
   ⟨a,aA rfl,jI _,by omega,hg,Ft.refl _ _,rfl⟩ ?_
  rintro k' vars h3 ⟨i,⟨g,rfl⟩,hi1,hi2,g3,f3,rfl⟩
  by_cases hlt:(i:Int)<(b:Int)
  case neg=>
   have e1:=gJ hlt
   obtain rfl:i=b:=by omega
   simp (disch:=first|omega|(simp only [Qn];(try omega);done)|fail) only [go_sem,e1]
   exact ⟨aA rfl,g3,f3⟩
  have e1:=mG hlt
  have hin:i<n:=by omega
  have e3:decide ((i:Int)<0)=false:=gJ (by omega)
  have e4:decide ((n:Int)<=(i:Int))=false:=gJ (by omega)
  have pt:=bT (vs:=(rc n λ j=> aB (((if a<=j/\j<i then j+1 else j:Nat)):Int))++rest) (off:=i) (by rw [vA,gT];omega) h3 id (aB ((i:Int)+1))
  rw [List.set_append_left _ _ (by rw [gT];exact hin),lQ] at pt
  simp (disch:=first|omega|(simp only [Qn];(try omega);done)|fail) only [go_sem,e1,e3,e4,g3,pt]
  rw [iJ i]
  refine ⟨b-(i+1),by omega,i+1,aA rfl,by omega,by omega,?_,f3.set _,rfl⟩
  congr 3
  refine cJ λ j hj=>?_
  by_cases e:j=i
  ·rw [if_pos e,if_pos ⟨by omega,by omega⟩,e]
  ·rw [if_neg e]
   by_cases e5:a<=j/\j<i
   ·rw [if_pos e5,if_pos ⟨e5.1,by omega⟩]
   ·rw [if_neg e5,if_neg (by omega)]
 rintro vars h3 ⟨⟨g,rfl⟩,g3,f3⟩
 have eb:(b:Int)- 1=((b- 1:Nat):Int):=by omega
 have e3:decide (((b- 1:Nat):Int)<0)=false:=gJ (by omega)
 have e4:decide ((n:Int)<=((b- 1:Nat):Int))=false:=gJ (by omega)
 have pt:=bT (vs:=(rc n λ j=> aB (((if a<=j/\j<b then j+1 else j:Nat)):Int))++rest) (off:=b- 1) (by rw [vA,gT];omega) h3 id (aB a)
 rw [List.set_append_left _ _ (by rw [gT];omega),lQ] at pt
 simp (disch:=first|omega|(simp only [Qn];(try omega);done)|fail) only [go_sem,eb,e3,e4,g3,pt]
 refine ⟨⟨⟨cap,rest,rfl,mM hid f3.next,?_⟩,XE h1 h2⟩,f3.set _⟩
 rw [H.aW]
 congr 3
 unfold afC
 rw [←WC]
 refine cJ λ j hj=>?_
 by_cases e:j=b- 1
 ·rw [if_pos e,if_pos e]
 ·rw [if_neg e,if_neg e]
def RE (l:List Nat) (i k:Nat):List Nat:=(l.set i (l.getD k 0)).set k (l.getD i 0)
theorem WG {n:Nat} {l:List Nat} (X:bI n l) {i k:Nat} (hi:i<n) (hk:k<n):bI n (RE l i k):=by
 have hl:=X.len
 have at': ∀ j,j<n->(RE l i k).getD j 0=if j=k then l.getD i 0 else if j=i then l.getD k 0 else l.getD j 0:=λ j hj=>by
  unfold RE
  rw [bW (by simp;omega),List.getElem_set]
  by_cases e:k=j
  ·rw [if_pos e,if_pos e.symm]
  ·rw [if_neg e,if_neg (Ne.symm e),List.getElem_set]
   by_cases e2:i=j
   ·rw [if_pos e2,if_pos e2.symm]
   ·rw [if_neg e2,if_neg (Ne.symm e2)];exact (bW (by omega)).symm
 refine bI.BW (by unfold RE;simp [hl]) (λ j hj=>?_) (λ a c ha hc h=>?_)
 ·rw [at' j hj]
  split
  ·exact X.eS hi
  ·split
   ·exact X.eS hk
   ·exact X.eS hj
 ·rw [at' a ha,at' c hc] at h
  split at h<;>split at h<;>(try split at h)<;>(try split at h)
  all_goals first
   |omega
   |(have:=X.inj hi hi h;omega)
   |(have:=X.inj hi hk h;omega)
   |(have:=X.inj hk hi h;omega)
   |(have:=X.inj hi hc h;omega)
   |(have:=X.inj ha hi h;omega)
   |(have:=X.inj hk hk h;omega)
   |(have:=X.inj hk hc h;omega)
   |(have:=X.inj ha hk h;omega)
   |(have:=X.inj ha hc h;omega)
theorem HF (x:Nat) (l:List Int) (n:Nat) (h:H) (hn:n<=64) (n0:0<n) (ht:Tk h x l) (hl:l.length<9223372036854775808):
  Ev T KJ [.ptr x 0,aB n] h (λ v h'=> ∃ id q,Mp h' v n id q/\h.next<=id/\Tk h' x l/\Ft x h h'):=by
 refine aZ ML rfl ?_
 simp (disch:=first|omega|(simp only [Qn];(try omega);done)|fail) only [go_sem,Aw,aF]
 refine (Vc n h (by omega)).mono ?_
 rintro v h1 ⟨o1,f1⟩
 obtain ⟨id,m1,hid⟩:=Mp.of n0 (bI.one n) o1
 have m1':=m1
 obtain ⟨⟨cap,rest0,rfl,_,_⟩,_⟩:=m1'
 have hxn:x<h.next:=by obtain ⟨_,_,_,_,_,_,hx⟩:=ht;exact hx
 have hne:id≠x:=by omega
 simp (disch:=first|omega|(simp only [Qn];(try omega);done)|fail) only [go_sem]
 refine aJ (λ k' vars hh=> ∃ (i:Nat) (q:List Nat),(∃ g:Nat->V,vars= [.ptr x 0,aB n,g 2,.sl id 0 n cap,aB i,g 5,g 6])/\i<n/\Mp hh (.sl id 0 n cap) n id q/\Tk hh x l/\Ft x h hh/\k'=n-i) n
  ⟨0,bZ n,aA rfl,n0,m1,ht.mono f1,Ft.of f1,rfl⟩ ?_
 rintro k' vars h2 ⟨i,q,⟨g,rfl⟩,hi,m2,t2,f2,rfl⟩
 by_cases hlt:(i:Int)+1<(n:Int)
 case neg=>
  have e1:=gJ hlt
  simp (disch:=first|omega|(simp only [Qn];(try omega);done)|fail) only [go_sem,e1]
  exact ⟨id,q,m2,hid,t2,f2⟩
 have e1:=mG hlt
 simp (disch:=first|omega|(simp only [Qn];(try omega);done)|fail) only [go_sem,e1]
 refine (rR x l ((n:Int)-(i:Int)) h2 t2 hl (by omega) (by omega)).mono ?_
 rintro _ h3 ⟨z,rfl,hz0,hz1,t3,f3⟩
 obtain ⟨c,rfl⟩: ∃ c:Nat,z=(c:Int):=⟨z.toNat,by omega⟩
 obtain ⟨k,hk⟩: ∃ k,k=i+c:=⟨_,rfl⟩
 have ek:(i:Int)+(c:Int)=(k:Int):=by omega
 have hkn:k<n:=by omega
 have m3:=m2.mono f3.next (f3.get id (by obtain ⟨⟨_,_,_,h5,_⟩,_⟩:=m2;exact h5) hne)
 obtain ⟨⟨cap',rest,e,hid3,g3⟩,Q⟩:=m3
 cases e
 have ql:=Q.len
 have cell: ∀ hh:H,∀ l':List Nat,l'.length=n->hh.get id=some (.cells false (ints (zi l')++rest))-> ∀ j,j<n->hh.cell id j=some (aB (l'.getD j 0:Nat)):=λ hh l' hl' hg j hj=>by
  rw [H.aG hg,List.getElem?_append_left (by rw [aS,aT];omega),Dp (by omega)]
 have ci:=cell h3 q ql g3 i hi
 have ck:=cell h3 q ql g3 k hkn
 have a1:decide ((i:Int)<0)=false:=gJ (by omega)
 have a2:decide ((n:Int)<=(i:Int))=false:=gJ (by omega)
 have a3:decide ((k:Int)<0)=false:=gJ (by omega)
 have a4:decide ((n:Int)<=(k:Int))=false:=gJ (by omega)
 have pt: ∀ (hh:H) (l':List Nat) (j y:Nat),l'.length=n->j<n->fI (some (.cells false (ints (zi l')++rest))) hh id j [aB y]=some (hh.set id (some (.cells false (ints (zi (l'.set j y))++rest)))):=λ hh l' j y hl' hj=>by
  rw [bT (by rw [vA,aS,aT];omega),ER (by omega)]
 simp (disch:=first|omega|(simp only [Qn];(try omega);done)|fail) only [go_sem,ek]
 simp (disch:=first|omega|(simp only [Qn];(try omega);done)|fail) only [go_sem,a1,a2,a3,a4,ci,ck,g3,pt _ q i (q.getD k 0) ql hi,pt _ (q.set i (q.getD k 0)) k (q.getD i 0) (by simp [ql]) hkn]
 rw [iJ i]
 obtain ⟨h4,h4e⟩: ∃ h4:H,h4=((H.mk h3.tr (h3.next+16)).set id (some (.cells false (ints (zi (q.set i (q.getD k 0)))++rest)))).set id (some (.cells false (ints (zi ((q.set i (q.getD k 0)).set k (q.getD i 0)))++rest))):=⟨_,rfl⟩
 rw [←h4e]
 have n4:h4.next=h3.next+16:=by rw [h4e];rfl
 have o4: ∀ j,j≠id->h4.get j=h3.get j:=λ j hj=>by rw [h4e,H.aH _ hj,H.aH _ hj];rfl
 have g4:h4.get id=some (.cells false (ints (zi (RE q i k))++rest)):=by rw [h4e,H.aW];rfl
 refine ⟨n-(i+1),by omega,i+1,RE q i k,aA rfl,by omega,⟨⟨cap,rest,rfl,by omega,g4⟩,WG Q hi hkn⟩,t3.low (by omega) (λ j hj=>o4 j (by omega)),?_,rfl⟩
 have f23:=f2.trans f3
 have:=f23.next
 exact ⟨by omega,λ j hj hjx=>by rw [o4 j (by omega)];exact f23.get j hj hjx⟩
theorem WX (h:H) {v u:V} (hv1:v.one=true) (hu1:u.one=true):Qa h (.agg [v,u])=some (.ptr h.next 0,h.new (.cells false [v,u])):=Ew h _ (by simp [hv1,hu1])
theorem XV {x y:V} (h:H) (id:Nat) (u:V):fI (bQ [x,y]) h id 1 [u]=some (h.set id (bQ [x,u])):=by
 simp [fI,putAt]
theorem DA {v z w:V} (hc:v.cells= [v]) (ho:v.one=true):Eo [z,w] [(0,1,v)]=some (.agg [v,w]):=by
 have e1:putAt [z,w] 0 [v]=some [v,w]:=by simp [putAt]
 simp [Eo,jJ,e1,hc,ho]
theorem Ft.cell {x:Nat} {a c:H} (f:Ft x a c) {id off:Nat} (h1:id<a.next) (h2:id≠x):c.cell id off=a.cell id off:=by unfold H.cell;rw [f.get id h1 h2]
structure GJ (h hh:H) (T0 C D n:Nat) (l:List Int) (gens:LN):Prop where
 ex: ∃ vg ws,hh.get C=bQ [aB n,vg]/\eL hh vg 1 ws (C+1)/\jL (λ id=>id<=C∨ ∃ off m c,vg= .sl id off m c) hh ws gens
 tk:Tk hh T0 l
 gD:hh.get D=bQ [aB 0,.aC]
 dR: ∀ g∈gens,bI n g
 nx:C<hh.next
 fr:Fr h hh
theorem JZ (vl:V) (l:List Int) (most:Nat) (h:H) (hv:SI h vl l) (hl:l.length<9223372036854775808) (m1:1<=most) (m2:most<=60):
  Ev T Xb [vl,aB most] h (λ v h'=> ∃ (n:Nat) (vg:V) (gens:LN),v= .agg [aB n,vg]/\1<=n/\n<=most/\gens.length<=3/\(∀ g∈gens,bI n g)/\SP h' vg gens/\Fr h h'):=by
 refine aZ Xx rfl ?_
 obtain ⟨D,hD⟩: ∃ D,h.next=D:=⟨_,rfl⟩
 obtain ⟨h1,e1,n1,g1,o1,f1⟩:=iK hD [aB 0,.aC]
 obtain ⟨h2,e2,n2,g2,o2,f2⟩:=iK n1 [vl,aB 0]
 have wl:=SV.bP hv
 simp (disch:=omega) only [go_sem,tB,aF,hD,e1,DA wl.1 wl.2.1,WX h1 (v:=vl) (u:= aB 0) wl.2.1 rfl,n1,e2]
 have tk2:Tk h2 (D+1) l:=⟨vl,0,g2,hv.mono (f1.trans f2),λ id off len c e=>by have:=SV.in hv _ _ _ _ e;omega,mJ _,by omega⟩
 refine (rR (D+1) l most h2 tk2 hl (by omega) (by omega)).mono ?_
 rintro _ h3 ⟨z,rfl,hz0,hz1,tk3,f3⟩
 obtain ⟨n,hn⟩: ∃ n:Nat,1+z=(n:Int):=⟨(1+z).toNat,by omega⟩
 have n3:=f3.next
 obtain ⟨C,hC⟩: ∃ C,h3.next=C:=⟨_,rfl⟩
 obtain ⟨h4,e4,n4,g4,o4,f4⟩:=iK hC [aB 0,.aC]
 obtain ⟨h5,e5,n5,g5,o5⟩:=Ca h4 C [aB n,.aC]
 simp (disch:=omega) only [go_sem,hn,hC,e4,DA (v:= aB n) (z:= aB 0) (w:= .aC) rfl rfl,Sj h4 C 0 (v:= aB n) (u:= .aC) rfl rfl,g4,Lp,e5]
 have tk5:Tk h5 (D+1) l:=tk3.low (by omega) (λ id hid=>by rw [o5 id (by omega),o4 id (by omega)])
 refine (rR (D+1) l 4 h5 tk5 hl (by omega) (by omega)).mono ?_
 rintro _ h6 ⟨z2,rfl,hk0,hk1,tk6,f6⟩
 obtain ⟨K,rfl⟩: ∃ K:Nat,z2=(K:Int):=⟨z2.toNat,by omega⟩
 have n6:=f6.next
 simp (disch:=omega) only [go_sem]
 refine aJ (λ k' vars hh=> ∃ (k:Nat) (gens:LN),(∃ g:Nat->V,vars= [vl,aB most,.ptr D 0,.ptr (D+1) 0,.ptr C 0,aB k,g 6,g 7,g 8,g 9,g 10])/\gens.length+k<=3/\GJ h hh (D+1) C D n l gens/\k'=k) K
  ⟨K, [],aA rfl,by simp;omega,⟨⟨.aC, [],by rw [f6.get C (by omega) (by omega)];exact g5,eL.aC _ _ _,trivial⟩,tk6,?_,λ g hg=>absurd hg List.not_mem_nil,by omega,?_⟩,rfl⟩ ?_
 ·rw [f6.get D (by omega) (by omega),o5 D (by omega),o4 D (by omega),f3.get D (by omega) (by omega),o2 D (by omega)];exact g1
 ·refine ⟨by omega,λ id hid=>?_⟩
  rw [f6.get id (by omega) (by omega),o5 id (by omega),o4 id (by omega),f3.get id (by omega) (by omega),o2 id (by omega),o1 id (by omega)]
 rintro k' vars h7 ⟨k,gens,⟨g,rfl⟩,hk,J,rfl⟩
 have cn:h7.cell C 0=some (aB n):=by
  obtain ⟨⟨vg,ws,gC,_⟩,_⟩:=J
  rw [H.aG gC];rfl
 by_cases hlt:(0:Int)<(k':Int)
 case neg=>
  have d1:=gJ hlt
  obtain ⟨⟨vg,ws,gC,ow,pvs⟩,tk,gD,dR,nx,fr⟩:=J
  have rC:=Ra gC
  obtain ⟨h8,e8,n8,g8,o8⟩:=Ca h7 D [aB n,vg]
  have r8:=Ra g8
  have wg:=SV.bP ow.sv
  simp (disch:=omega) only [go_sem,d1,rC,Sj h7 D 0 (v:= aB n) (u:=vg) rfl wg.2.1,gD,Lp,e8,r8]
  have x8:Fx (λ id=>id<=C∨ ∃ off m c,vg= .sl id off m c) h7 h8:=⟨by omega,λ id _ hw=>o8 id (λ e=>hw (.inl (by omega)))⟩
  have sv8:SV h8 vg 1 ws:=(ow.Bi (h':=h8) (by omega) (λ id off m c e hid=>by have:=(ow.in _ _ _ _ e).2.1;exact o8 id (by omega))).sv
  refine ⟨n,vg,gens,rfl,by omega,by omega,by omega,dR,⟨ws,sv8,?_⟩,⟨by have:=fr.next;omega,λ id hid=>by rw [o8 id (by omega)];exact fr.get id hid⟩⟩
  have pv8:=jL.fx pvs x8
  have hl8:=bJ.length pv8
  exact bJ.oT (by simpa using hl8) λ i hi hj=>by
   have:=(bJ.get pv8 i hi (by omega)).si
   simpa using this
 have d1:=mG hlt
 have nx:=J.nx
 have hn0:0<n:=by omega
 have hn64:n<=64:=by omega
 simp (disch:=omega) only [go_sem,d1,cn]
 refine (Vc n h7 (by omega)).mono ?_
 rintro v6 h8 ⟨o6,f8⟩
 obtain ⟨id6,mp8,hid6⟩:=Mp.of hn0 (bI.one n) o6
 simp (disch:=omega) only [go_sem]
 refine (rR (D+1) l 3 h8 (J.tk.mono f8) hl (by omega) (by omega)).mono ?_
 rintro _ h9 ⟨z3,rfl,_,_,tk9,f9⟩
 have fT9:Ft (D+1) h7 h9:=(Ft.of f8).trans f9
 have mp9:Mp h9 v6 n id6 (bZ n):=mp8.mono f9.next (f9.get id6 (by obtain ⟨⟨_,_,_,h5,_⟩,_⟩:=mp8;exact h5) (by omega))
 have cell7: ∀ hh,Ft (D+1) h7 hh->hh.cell C 0=some (aB n):=λ hh f=>by rw [f.cell nx (by omega)];exact cn
 simp (disch:=omega) only [go_sem]
 refine oH (λ vs hh=> ∃ (v6:V) (x:List Nat),(∃ g:Nat->V,vs= [vl,aB most,.ptr D 0,.ptr (D+1) 0,.ptr C 0,aB (k':Int),v6,g 7,g 8,g 9,g 10])/\SI hh v6 (zi x)/\bI n x/\(∀ id off len cap,v6= .sl id off len cap->h7.next<=id)/\Tk hh (D+1) l/\Ft (D+1) h7 hh) ?_ ?_
 ·refine aY (λ _=>?_) (λ _=>?_)
  ·simp (disch:=omega) only [go_sem,cell7 h9 fT9]
   refine (HF (D+1) l n h9 hn64 hn0 tk9 hl).mono ?_
   rintro w h10 ⟨id,q,mp,hid,tk10,f10⟩
   have n9:=fT9.next
   simp (disch:=omega) only [go_sem]
   refine .inl ⟨w,q,aA rfl,mp.si,mp.dR,λ id' off len cap e=>?_,tk10,fT9.trans f10⟩
   obtain ⟨⟨_,_,e2,_⟩,_⟩:=mp
   rw [e2] at e;cases e;omega
  ·simp (disch:=omega) only [go_sem,cell7 h9 fT9]
   refine (rR (D+1) l n h9 tk9 hl (by omega) (by omega)).mono ?_
   rintro _ h10 ⟨z4,rfl,a4,b4,tk10,f10⟩
   obtain ⟨a,rfl⟩: ∃ a:Nat,z4=(a:Int):=⟨z4.toNat,by omega⟩
   have fT10:=fT9.trans f10
   simp (disch:=omega) only [go_sem,cell7 h10 fT10]
   refine (rR (D+1) l ((n:Int)-(a:Int)) h10 tk10 hl (by omega) (by omega)).mono ?_
   rintro _ h11 ⟨z5,rfl,a5,b5,tk11,f11⟩
   obtain ⟨c,rfl⟩: ∃ c:Nat,z5=(c:Int):=⟨z5.toNat,by omega⟩
   have fT11:=fT10.trans f11
   have f911:=f10.trans f11
   have id9:id6<h9.next:=by obtain ⟨⟨_,_,_,h5,_⟩,_⟩:=mp9;exact h5
   have mp11:Mp h11 v6 n id6 (bZ n):=mp9.mono f911.next (f911.get id6 id9 (by omega))
   have eb:(a:Int)+1+(c:Int)=((a+1+c:Nat):Int):=by omega
   simp (disch:=omega) only [go_sem,eb]
   refine (HP h11 v6 n id6 a (a+1+c) hn64 mp11 (by omega) (by omega)).mono ?_
   rintro w h12 ⟨hw,mp12,f12⟩
   have hw':=hw.symm
   subst hw'
   have n8:=fT9.next
   have n9:=f911.next
   have n12:=f12.next
   have fT12:Ft (D+1) h7 h12:=⟨by omega,λ id hid hne=>by rw [f12.get id (by omega) (by omega),f911.get id (by omega) hne];exact fT9.get id hid hne⟩
   have tk12:Tk h12 (D+1) l:=tk11.low n12 (λ id hid=>f12.get id (by omega) (by omega))
   have id12:id6<h12.next:=by omega
   simp (disch:=omega) only [go_sem,cell7 h12 fT12]
   refine (rR (D+1) l n h12 tk12 hl (by omega) (by omega)).mono ?_
   rintro _ h13 ⟨z6,rfl,a6,b6,tk13,f13⟩
   obtain ⟨a2,rfl⟩: ∃ a:Nat,z6=(a:Int):=⟨z6.toNat,by omega⟩
   simp (disch:=omega) only [go_sem]
   refine (rR (D+1) l 2 h13 tk13 hl (by omega) (by omega)).mono ?_
   rintro _ h14 ⟨z7,rfl,a7,b7,tk14,f14⟩
   have fT14:=(fT12.trans f13).trans f14
   have f1214:=f13.trans f14
   have n14:=f1214.next
   have mp14:Mp h14 v6 n id6 _:=mp12.mono f1214.next (f1214.get id6 id12 (by omega))
   have fr6: ∀ id off len cap,v6= .sl id off len cap->h7.next<=id:=λ id' off len cap e=>by
    obtain ⟨⟨_,_,e2,_⟩,_⟩:=mp14
    rw [e2] at e;cases e;omega
   simp (disch:=omega) only [go_sem]
   refine aY (λ hz=>?_) (λ hz=>?_)
   ·have v6e:=SV.eU mp14.si
    simp (disch:=omega) only [go_sem,cell7 h14 fT14]
    have fb:Fr h14 (H.mk h14.tr (h14.next+17)):=(Fr.refl h14).bF (by omega)
    refine (Vc n _ (by omega)).mono ?_
    rintro w h15 ⟨ow,f15⟩
    obtain ⟨idw,mp15,hidw⟩:=Mp.of hn0 (bI.one n) ow
    have n15:=f15.next
    have hb:(H.mk h14.tr (h14.next+17)).next=h14.next+17:=rfl
    rw [hb] at hidw n15
    have f1415:=fb.trans f15
    have fT15:=fT14.trans (Ft.of f1415)
    have idw15:idw<h15.next:=by obtain ⟨⟨_,_,_,h5,_⟩,_⟩:=mp15;exact h5
    simp (disch:=omega) only [go_sem,cell7 h15 fT15]
    refine (rR (D+1) l ((n:Int)-(a2:Int)) h15 (tk14.mono f1415) hl (by omega) (by omega)).mono ?_
    rintro _ h16 ⟨z8,rfl,a8,b8,tk16,f16⟩
    obtain ⟨c2,rfl⟩: ∃ c:Nat,z8=(c:Int):=⟨z8.toNat,by omega⟩
    have fT16:=fT15.trans f16
    have n16:=f16.next
    have n147:=fT14.next
    have mp16:Mp h16 w n idw (bZ n):=mp15.mono f16.next (f16.get idw idw15 (by omega))
    have eb2:(a2:Int)+1+(c2:Int)=((a2+1+c2:Nat):Int):=by omega
    simp (disch:=omega) only [go_sem,cell7 h16 fT16,eb2]
    refine (HP h16 w n idw a2 (a2+1+c2) hn64 mp16 (by omega) (by omega)).mono ?_
    rintro w' h17 ⟨hw2,mp17,f17⟩
    have hw2':=hw2.symm
    subst hw2'
    have n17:=f17.next
    have fT17:Ft (D+1) h7 h17:=⟨by have:=fT16.next;omega,λ id hid hne=>by rw [f17.get id (by have:=fT16.next;omega) (by omega)];exact fT16.get id hid hne⟩
    have tk17:Tk h17 (D+1) l:=tk16.low n17 (λ id hid=>f17.get id (by omega) (by omega))
    have id14:id6<h14.next:=by obtain ⟨⟨_,_,_,h5,_⟩,_⟩:=mp14;exact h5
    have mp617:Mp h17 v6 n id6 _:=mp14.mono (by omega) (by rw [f17.get id6 (by omega) (by omega),f16.get id6 (by omega) (by omega),f1415.get id6 id14])
    simp (disch:=omega) only [go_sem,cell7 h17 fT17,v6e]
    refine (Bg v6 w _ _ h17 (by rw [mp617.dR.len];omega) mp617.si mp17.si (λ j hj=>by rw [mp17.dR.len];exact mp617.dR.eS (by rw [←mp617.dR.len];exact hj))).mono ?_
    rintro v h18 ⟨s18,f18,l18⟩
    have fT18:=fT17.trans (Ft.of f18)
    simp (disch:=omega) only [go_sem,cell7 h18 fT18,v6e]
    exact .inl ⟨v,_,aA rfl,s18,mp617.dR.mul mp17.dR,λ id off len cap e=>by have:=l18 _ _ _ _ e;have:=fT17.next;omega,tk17.mono f18,fT18⟩
   ·simp (disch:=omega) only [go_sem]
    exact .inl ⟨v6,_,aA rfl,mp14.si,mp14.dR,fr6,tk14,fT14⟩
 clear mp8 mp9 o6 f8 tk9 fT9 v6 h8 h9 f9 hid6
 rintro vars h8 ⟨v6,x,⟨g,rfl⟩,sx,X,fr6,tk8,f8⟩
 obtain ⟨⟨vg,ws,gC,ow,pvs⟩,_,gD,dR,_,fr⟩:=J
 have n8:=f8.next
 have hvin:=λ id off m c (e:vg=V.sl id off m c)=>ow.in id off m c e
 have hlw:=bJ.length pvs
 have gC8:h8.get C=bQ [aB n,vg]:=by rw [f8.get C nx (by omega)];exact gC
 have c8:h8.cell C 1=some vg:=by rw [H.aG gC8];rfl
 have frn:=fr.next
 have Fr8:Fr h h8:=⟨by omega,λ id hid=>by rw [f8.get id (by omega) (by omega)];exact fr.get id hid⟩
 have ow8:eL h8 vg 1 ws (C+1):=ow.Bi n8 λ id off m c e hid=>by have:=(hvin _ _ _ _ e).2.1;exact f8.get id hid (by omega)
 have pv8:jL (λ id=>id<=C∨ ∃ off m c,vg= .sl id off m c) h8 ws gens:=jL.fx pvs ⟨n8,λ id hid hw=>f8.get id hid (λ e=>hw (.inl (by omega)))⟩
 have px:PV (λ id=>id<=C∨ ∃ off m c,vg= .sl id off m c) h8 v6 x:=by
  refine ⟨sx,?_⟩
  cases v6 with
  |sl id off len cap=>
   have:=fr6 _ _ _ _ rfl
   rintro (h|⟨off',m',c',e⟩)
   ·omega
   ·have:=(hvin _ _ _ _ e).1;omega
  |_=>trivial
 obtain ⟨h9,e9,n9,g9,o9,f9⟩:=iK (h:=h8) rfl [v6]
 have ow9:=ow8.fr f9
 obtain ⟨h10,a10,p10⟩:=ow9.push (bytes:=24) (SV.one (by omega) g9 (.kn 1)) (n:=gens.length) (m:=1) (by omega) rfl (by omega) (by omega) (by omega)
 have n10:=p10.next
 rw [n9] at a10
 have apC:eC vg C:=λ id off m c e e2=>by have:=(hvin _ _ _ _ e).2.1;omega
 have gC10:h10.get C=bQ [aB n,vg]:=by rw [p10.old C (by omega) apC,o9 C (by omega)];exact gC8
 obtain ⟨h11,e11,n11,g11,o11⟩:=Ca h10 C [aB n,.sl (h8.next+1) 0 (gens.length+1) (.un 1)]
 simp (disch:=omega) only [go_sem,c8,dN _ (z:= .aC) px.eP.1 px.eP.2,e9,a10,gC10,XV,e11]
 have ek:(k':Int)- 1=((k'- 1:Nat):Int):=by omega
 rw [ek]
 have old: ∀ id,id<h8.next->id≠C->eC vg id->h11.get id=h8.get id:=λ id h1 h2 h3=>by rw [o11 id h2,p10.old id (by omega) h3,o9 id (by omega)]
 have apl: ∀ id,id<=C->eC vg id:=λ id hid id' off m c e e2=>by have:=(hvin _ _ _ _ e).2.1;omega
 have ow11:=p10.own (by omega) rfl (b:=C+1) (by omega)
 rw [n9] at ow11
 have x11:Fx (λ id=>id<=C∨ ∃ off m c,vg= .sl id off m c) h8 h11:=⟨by omega,λ id hid hw=>old id hid (λ e=>hw (.inl (by omega))) (λ id' off m c e e2=>hw (.inr ⟨off,m,c,e2▸e⟩))⟩
 have hw11: ∀ id,id<h8.next->(id<=C∨ ∃ off m c,V.sl (h8.next+1) 0 (gens.length+1) (.un 1)= .sl id off m c)->(id<=C∨ ∃ off m c,vg= .sl id off m c):=λ id hid hw=>by
  rcases hw with hw|⟨off,m,c,e⟩
  ·exact .inl hw
  ·cases e;omega
 refine ⟨k'- 1,by omega,k'- 1,gens++ [x],aA rfl,by rw [vA];simp;omega,⟨⟨_,_,g11,ow11.Bi (by omega) (λ id off m c e hid=>by cases e;exact o11 _ (by omega)),(jL.go pv8 x11 hw11).append (jL.one (PV.go px x11 hw11))⟩,tk8.low (by omega) (λ id hid=>old id (by omega) (by omega) (apl id (by omega))),?_,λ u hu=>?_,by omega,⟨by omega,λ id hid=>?_⟩⟩,rfl⟩
 ·rw [old D (by omega) (by omega) (apl D (by omega)),f8.get D (by omega) (by omega)];exact gD
 ·rcases List.mem_append.1 hu with hu|hu
  ·exact dR u hu
  ·simp at hu;subst hu;exact X
 ·rw [old id (by omega) (by omega) (apl id (by omega))];exact Fr8.get id hid
theorem RD (vg:V) (n:Nat) (l:LN) (h:H) (n0:1<=n) (n7:n<=64) (hl:l.length<=16) (hv:SP h vg l) (hP: ∀ g∈l,bI n g):
  Ev T Xh [.agg [aB n,vg]] h (λ v h'=>v= aB 0/\Fr h h'):=by
 refine aZ Wm rfl ?_
 obtain ⟨B,hB⟩: ∃ B,h.next=B:=⟨_,rfl⟩
 obtain ⟨h1,e1,n1,g1,o1,f1⟩:=iK hB [aB n,vg]
 have d1:decide ((n:Int)<1)=false:=gJ (by omega)
 have d2:decide ((64:Int)<(n:Int))=false:=gJ (by omega)
 have lv:=hv.lens
 rw [nO] at lv
 have d3:decide ((16:Int)<(l.length:Int))=false:=gJ (by omega)
 obtain ⟨id,off,ws,sh,hid,hwl,hc,hall⟩:=hv.open
 obtain ⟨ws',sv',_⟩:=hv
 have wv:=SV.bP sv'
 have ev:=SV.eU sv'
 rw [nO] at sh hid hwl hc
 have cA: ∀ hh,Fr h1 hh->hh.cell B 0=some (aB n):=λ hh f=>by rw [f.cell (by omega),H.aG g1];rfl
 have cB: ∀ hh,Fr h1 hh->hh.cell B 1=some vg:=λ hh f=>by rw [f.cell (by omega),H.aG g1];rfl
 simp (disch:=omega) only [go_sem,tJ,aF,hB,Fh h (v:= aB n) (u:=vg) rfl wv.2.1,e1,cA h1 (Fr.refl _),cB h1 (Fr.refl _),d1,d2,lv,d3]
 refine aJ (λ k' vs hh=> ∃ (i:Nat),(∃ g:Nat->V,vs= [g 0,.ptr B 0,g 2,aB i,g 4,g 5,g 6,g 7,g 8,g 9])/\i<=l.length/\Fr h1 hh/\k'=l.length-i) l.length
  ⟨0,aA rfl,mJ _,Fr.refl h1,rfl⟩ ?_
 rintro k' vars h2 ⟨i,⟨g,rfl⟩,hi,f,rfl⟩
 by_cases hlt:(i:Int)<(l.length:Int)
 case neg=>
  have d4:=gJ hlt
  simp (disch:=omega) only [go_sem,cB h2 f,lv,d4]
  exact f1.trans f
 have d4:=mG hlt
 have hi':i<l.length:=by omega
 have F2:=f1.trans f
 have cell: ∀ hh,Fr h hh->hh.cell id (off+i)=some (ws.getD i .undef):=λ hh f=>by rw [f.cell (hid (by omega)),hc i hi']
 have s0:=Lj hall hi'
 have X:bI n (l.getD i []):=hP _ (bG hi')
 generalize ws.getD i .undef=vx at cell s0
 have lx:=s0.lens
 rw [aT,X.len] at lx
 have evx:=SV.eU s0
 simp (disch:=omega) only [go_sem,cB h2 f,lv,d4,sh.ixa,cell h2 F2]
 refine (Ju vx _ h2 (by rw [aT,X.len];omega) (s0.mono F2)).mono ?_
 rw [Uo X n0 (by omega)]
 rintro _ h3 ⟨rfl,f3⟩
 have f13:=f.trans f3
 simp (disch:=omega) only [go_sem]
 refine aY (λ hc=>(hc rfl).elim) (λ _=>?_)
 simp (disch:=omega) only [go_sem,cA h3 f13,cB h3 f13,sh.ixa,cell h3 (f1.trans f13),lx,ev,evx]
 refine aY (λ hc=>(hc rfl).elim) (λ _=>?_)
 simp (disch:=omega) only [go_sem]
 rw [iJ i]
 exact ⟨l.length-(i+1),by omega,i+1,aA rfl,by omega,f13.bF (by omega),rfl⟩
theorem aiA (vg:V) (n:Nat) (l:LN) (h:H) (n0:1<=n) (n7:n<=7) (hl:l.length<=16) (hv:SP h vg l) (hP: ∀ g∈l,bI n g):
  Ev T JN [.agg [aB n,vg]] h (λ v h'=> ∃ vc O R,v= .tup [vc,aB 0]/\GC (λ id=>id<h.next) h' vc n O R (fS n (· ∈l))/\Fr h h'):=by
 refine aZ JL rfl ?_
 obtain ⟨B,hB⟩: ∃ B,h.next=B:=⟨_,rfl⟩
 obtain ⟨h1,e1,n1,g1,o1,f1⟩:=iK hB [aB n,vg]
 obtain ⟨h2,e2,n2,g2,o2,f2⟩:=iK n1 [aB 0,.aC,.aC]
 have hv0:=hv
 obtain ⟨ws',sv',_⟩:=hv
 have wv:=SV.bP sv'
 have g12:h2.get B=bQ [aB n,vg]:=by rw [o2 B (by omega)];exact g1
 have r2:=Ra g12
 simp (disch:=omega) only [go_sem,Ao,aF,hB,Fh h (v:= aB n) (u:=vg) rfl wv.2.1,e1,n1,e2,r2]
 have F2:=f1.trans f2
 refine (RD vg n l h2 n0 (by omega) hl (hv0.mono F2) hP).mono ?_
 rintro _ h3 ⟨rfl,f3⟩
 have g13:h3.get B=bQ [aB n,vg]:=by rw [f3.get B (by omega)];exact g12
 have c0:h3.cell B 0=some (aB n):=by rw [H.aG g13];rfl
 have c1:h3.cell B 1=some vg:=by rw [H.aG g13];rfl
 simp (disch:=omega) only [go_sem]
 refine aY (λ hc=>(hc rfl).elim) (λ _=>?_)
 simp (disch:=omega) only [go_sem,c0,c1]
 refine (Ec vg n l h3 n0 n7 (by omega) (hv0.mono (F2.trans f3)) hP).mono ?_
 rintro _ h4 ⟨vc,O,R,rfl,gc,f4⟩
 have n3:=f3.next
 have n4:=f4.next
 have g4:h4.get (B+1)=bQ [aB 0,.aC,.aC]:=by rw [f4.get _ (by omega),f3.get _ (by omega)];exact g2
 obtain ⟨vO,vR,wsO,wsR,e,t1,_,_,t2,_,_⟩:=gc.cw
 subst e
 obtain ⟨h5,e5,n5,g5,o5⟩:=Ca h4 (B+1) [aB n,vO,vR]
 have r5:=aX g5
 simp (disch:=omega) only [go_sem,dS h4 (B+1) 0 (v:= aB n) (u:=vO) (w:=vR) rfl t1.bP.2.1 t2.bP.2.1,g4,dX,e5,r5]
 have F4:=(F2.trans f3).trans f4
 have x5:Fx (λ id=>id<h3.next) h4 h5:=⟨by omega,λ id _ hid=>o5 id (by omega)⟩
 exact ⟨_,O,R,rfl,gc.go x5 (λ id _ hid=>by omega),⟨by omega,λ id hid=>by rw [o5 id (by omega)];exact F4.get id hid⟩⟩
section
variable {n:Nat} {G:List Nat->Prop} {L:LN} {K:List Nat}
theorem Er (E:iL G L) {y:List Nat} (hy:G y):L.idxOf y<L.length/\L.getD (L.idxOf y) []=y:=by
 have h1:=(E.mem y).2 hy
 have h2:=List.idxOf_lt_length_iff.2 h1
 refine ⟨h2,?_⟩
 rw [List.getD,iH h2]
 simp
theorem Qe.lt (k:Qe n G L K) {r:Nat} (hr:r∈K):r<L.length:=(iE.1 (k.perm.mem_iff.1 hr)).1
theorem Qe.nd (k:Qe n G L K):K.Nodup:=k.perm.nodup_iff.2 (by unfold jS;exact List.nodup_range.filter _)
theorem BV {x c:List Nat} (X:bI n x) (C:bI n c): ∀ k,cV (pw n x k) c=pw n (cV x c) k
 |0=>by
  show bE (bE (eA c) (bZ n)) c=bZ n
  rw [cE C.inv,gG C]
 |k+1=>by
  have P:=mO X k
  show cV (bE (pw n x k) x) c=bE (pw n (cV x c) k) (cV x c)
  rw [←BV X C k]
  unfold cV
  rw [aV (C.inv.mul P) C (C.inv.mul X|>.mul C),←aV C (C.inv.mul X) C,←aV C C.inv X,gU C,eH X,←aV (C.inv.mul P) X C,aV C.inv P X]
theorem vI {x c:List Nat} (X:bI n x) (C:bI n c):cV x c=bZ n↔x=bZ n:=by
 constructor
 ·intro h
  have e:=wG X C
  rw [h] at e
  rw [←e]
  show bE (bE (eA (eA c)) (bZ n)) (eA c)=bZ n
  rw [cE C.inv.inv,gG C.inv]
 ·rintro rfl
  show bE (bE (eA c) (bZ n)) c=bZ n
  rw [cE C.inv,gG C]
theorem Za {x c:List Nat} (X:bI n x) (C:bI n c):mY (cV x c) n=mY x n:=by
 refine Nat.dvd_antisymm ?_ ?_
 ·rw [tS (oD X C),←BV X C,vI (mO X _) C,←tS X]
  exact Nat.dvd_refl _
 ·rw [tS X,←vI (mO X _) C,BV X C,←tS (oD X C)]
  exact Nat.dvd_refl _
variable (hG:yV n G) (E:iL G L) (k:Qe n G L K)
include hG E k
theorem OO {j:Nat} (hj:j<L.length):yA G L K j<K.length/\cR G L (K.getD (yA G L K j) 0) j:=by
 obtain ⟨i,hi,h⟩:=My hG E k.perm hj
 have e:=Qr hG E k.perm hi h
 rw [e]
 exact ⟨hi,(fD.1 h).2⟩
end
def afU (n:Nat) (x:List Nat):Nat->Nat->Nat
 |0,k=>k
 |f+1,k=>if pw n x k=bZ n then k else afU n x f (k+1)
def BE (n:Nat) (x:List Nat):Nat:=afU n x 420 1
theorem NY {n:Nat} {x:List Nat} (X:bI n x): ∀ f k,0<k->k<=mY x n->mY x n<=k+f->afU n x f k=mY x n
 |0,k,_,h1,h2=>by show k=_;omega
 |f+1,k,h0,h1,h2=>by
  unfold afU
  split
  ·rename_i e
   exact Nat.le_antisymm h1 (Nat.le_of_dvd h0 ((tS X k).2 e))
  ·rename_i e
   refine NY X f (k+1) (by omega) ?_ (by omega)
   by_cases h:k=mY x n
   ·exact absurd ((tS X k).1 (by rw [h];exact Nat.dvd_refl _)) e
   ·omega
theorem afG {n:Nat} {x:List Nat} (X:bI n x) (hn:n<=7):mY x n=BE n x:=
 (NY X 420 1 (by omega) (Td X) (by have:=Nat.le_of_dvd (by omega) (GQ X hn);omega)).symm
def cRb (L:LN) (i j:Nat):Bool:=L.any λ c=>cV (L.getD i []) c==L.getD j []
def HA (L:LN) (i:Nat):List Nat:=(List.range L.length).filter (cRb L i)
def HH (L:LN):List Nat:=(List.range L.length).filter λ j=>(List.range j).all λ i=>!cRb L i j
def SZ (L:LN) (K:List Nat) (j:Nat):Nat:=K.findIdx λ r=>cRb L r j
def aiN (n:Nat) (L:LN) (r s:Nat):Bool:=decide (BE n (L.getD r [])<BE n (L.getD s [])∨BE n (L.getD r [])=BE n (L.getD s [])/\((HA L r).length<(HA L s).length∨(HA L r).length=(HA L s).length/\r<s))
def IT (n:Nat) (L:LN) (K:List Nat) (z:Int) (r:Nat):Nat:=SZ L K (L.idxOf (pw n (L.getD r []) (z%(BE n (L.getD r []):Nat)).toNat))
def agR (n:Nat) (L:LN) (K:List Nat):Nat:=uQ (K.map λ r=>BE n (L.getD r []))
def GK (L:LN) (r:Nat):Bool:=L.any λ c=>cV (L.getD r []) c==eA (L.getD r [])
section
variable {n:Nat} {G:List Nat->Prop} {L:LN} {K:List Nat}
theorem XF (E:iL G L) {x y:List Nat}:cj G x y↔(L.any λ c=>cV x c==y)=true:=by
 rw [List.any_eq_true]
 constructor
 ·rintro ⟨c,hc,e⟩
  exact ⟨c,(E.mem c).2 hc,by simpa using e⟩
 ·rintro ⟨c,hc,e⟩
  exact ⟨c,(E.mem c).1 hc,by simpa using e⟩
theorem JI (E:iL G L) {i j:Nat}:cR G L i j↔cRb L i j=true:=XF E
theorem UU (E:iL G L) (i j:Nat) (d:Decidable (cR G L i j)): @decide (cR G L i j) d=cRb L i j:=by
 rw [Bool.eq_iff_iff,decide_eq_true_iff]
 exact JI E
theorem Qp (E:iL G L) (i:Nat):iG G L i=HA L i:=by
 unfold iG HA
 exact List.filter_congr λ j _=>UU E i j _
theorem aaC (E:iL G L):jS G L L.length=HH L:=by
 unfold jS HH
 refine List.filter_congr λ j _=>?_
 classical
 rw [Bool.eq_iff_iff,decide_eq_true_iff,List.all_eq_true]
 unfold PD
 constructor
 ·intro h i hi
  have:=h i (List.mem_range.1 hi)
  rw [JI E] at this
  simpa using this
 ·intro h i hi
  have:=h i (List.mem_range.2 hi)
  rw [JI E]
  simpa using this
theorem BB (E:iL G L) (j:Nat):yA G L K j=SZ L K j:=by
 unfold yA SZ
 congr 1
 funext r
 exact UU E r j _
theorem QZ (E:iL G L) (r:Nat):zD G L r=GK L r:=by
 unfold zD GK
 classical
 rw [Bool.eq_iff_iff,decide_eq_true_iff]
 exact XF E
theorem alY (hG:yV n G) (E:iL G L): ∀ x∈L,bI n x:=λ x hx=>hG.dR ((E.mem x).1 hx)
theorem Vw (hG:yV n G) (E:iL G L) (hn:n<=7) {r:Nat} (hr:r<L.length):mY (L.getD r []) n=BE n (L.getD r []):=afG (alY hG E _ (bG hr)) hn
theorem afV (hG:yV n G) (E:iL G L) (hn:n<=7) {r s:Nat} (hr:r<L.length) (hs:s<L.length):kLt n G L r s↔aiN n L r s=true:=by
 unfold kLt aiN
 rw [decide_eq_true_iff,Vw hG E hn hr,Vw hG E hn hs,Qp E,Qp E]
def Qu (n:Nat) (L:LN) (K:List Nat):Bool:=K.isPerm (HH L)&&decide (K.Pairwise λ r s=>aiN n L r s=true)
theorem Qu.isK (hG:yV n G) (E:iL G L) (hn:n<=7) (h:Qu n L K=true):Qe n G L K:=by
 unfold Qu at h
 rw [Bool.and_eq_true,decide_eq_true_iff] at h
 have p:K.Perm (HH L):=List.isPerm_iff.1 h.1
 have hm: ∀ r∈K,r<L.length:=λ r hr=>by
  have:=p.mem_iff.1 hr
  unfold HH at this
  exact List.mem_range.1 (List.mem_filter.1 this).1
 exact ⟨by rw [aaC E];exact p,List.Pairwise.imp_of_mem (λ hr hs h=>(afV hG E hn (hm _ hr) (hm _ hs)).2 h) h.2⟩
theorem Qu.eq (hG:yV n G) (E:iL G L) (hn:n<=7) {K0:List Nat} (h:Qu n L K0=true) (k:Qe n G L K):K=K0:=k.uniq (Qu.isK hG E hn h)
theorem XI (hG:yV n G) (E:iL G L) (hn:n<=7) (z:Int) {r:Nat} (hr:r<L.length):Wr n G L K z r=IT n L K z r:=by
 unfold Wr IT
 rw [BB E,Vw hG E hn hr]
theorem ED (hG:yV n G) (E:iL G L) (hn:n<=7) (k:Qe n G L K):adR n L K=agR n L K:=by
 unfold adR agR
 congr 1
 exact List.map_congr_left λ r hr=>Vw hG E hn (k.lt hr)
end
def alP (n:Nat) (S:LN) (w:List Nat):List Nat:=w.foldl (λ x i=>bE x (S.getD i [])) (bZ n)
theorem EZ {n:Nat} {S:LN}: ∀ (w:List Nat) (x:List Nat),(∀ i∈w,i<S.length)->fS n (· ∈S) x->fS n (· ∈S) (w.foldl (λ x i=>bE x (S.getD i [])) x)
 | [],_,_,h=>h
 |i::w,x,hw,h=>EZ w _ (λ j hj=>hw j (by simp [hj])) (h.mul (bG (hw i (by simp))))
def RS (n:Nat) (S L:LN) (ws:LN):Bool:=
 L==ws.map (alP n S)&&ws.all (λ w=>w.all λ i=>decide (i<S.length))&&decide (L.Pairwise λ x y=>Jv x y=true)&&L.all (λ x=>x.length==n)&&L.contains (bZ n)&&L.all λ x=>S.all λ g=>L.contains (bE x g)
theorem RS.ajS {n:Nat} {S L:LN} {ws:LN} (h:RS n S L ws=true):iL (fS n (· ∈S)) L:=by
 unfold RS at h
 simp only [Bool.and_eq_true,beq_iff_eq,List.all_eq_true,decide_eq_true_iff,List.contains_iff_mem] at h
 obtain ⟨⟨⟨⟨⟨h1,h2⟩,h3⟩,h4⟩,h5⟩,h6⟩:=h
 refine ⟨List.Pairwise.imp_of_mem (λ hx hy h=>(PN (by rw [h4 _ hx,h4 _ hy])).1 h) h3,λ x=>⟨λ hx=>?_,λ hx=>?_⟩⟩
 ·rw [h1] at hx
  obtain ⟨w,hw,rfl⟩:=List.mem_map.1 hx
  exact EZ w _ (h2 w hw) .one
 ·induction hx with
  |one=>exact h5
  |mul _ hg ih=>exact h6 _ ih _ hg
def S3:LN:= [[1,0,2], [0,2,1]]
def C4:LN:= [[1,2,3,0]]
def A4:LN:= [[1,2,0,3], [0,2,3,1]]
def L3:LN:= [[0,1,2], [0,2,1], [1,0,2], [1,2,0], [2,0,1], [2,1,0]]
def L4:LN:= [[0,1,2,3], [1,2,3,0], [2,3,0,1], [3,0,1,2]]
def LA:LN:= [[0,1,2,3], [0,2,3,1], [0,3,1,2], [1,0,3,2], [1,2,0,3], [1,3,2,0], [2,0,1,3], [2,1,3,0], [2,3,0,1], [3,0,2,1], [3,1,0,2], [3,2,1,0]]
theorem oY:iL (fS 3 (· ∈S3)) L3:=RS.ajS (ws:= [[], [1], [0], [1,0], [0,1], [0,1,0]]) (by decide+kernel)
theorem Ii:iL (fS 4 (· ∈C4)) L4:=RS.ajS (ws:= [[], [0], [0,0], [0,0,0]]) (by decide+kernel)
theorem Zr:iL (fS 4 (· ∈A4)) LA:=RS.ajS (ws:= [[], [1], [1,1], [1,0], [0], [1,1,0], [0,0], [1,0,0], [0,1], [0,0,1], [0,1,1], [0,1,1,0]]) (by decide+kernel)
theorem Oq:Qu 3 L3 [0,1,3]=true:=by decide+kernel
theorem OV:Qu 4 L4 [0,2,1,3]=true:=by decide+kernel
theorem aaP:Qu 4 LA [0,3,1,2]=true:=by decide+kernel
def GO (n:Nat) (x:List Nat):Bool:=x.length==n&&decide x.Nodup&&x.all λ p=>decide (p<n)
theorem Vu {n:Nat} {x:List Nat} (h:GO n x=true):bI n x:=by
 unfold GO at h
 simp only [Bool.and_eq_true,beq_iff_eq,List.all_eq_true,decide_eq_true_iff] at h
 exact ⟨h.1.1,h.1.2,h.2⟩
theorem alX: ∀ g∈S3,bI 3 g:=λ g hg=>Vu ((List.all_eq_true.1 (show S3.all (GO 3)=true by decide+kernel)) g hg)
theorem alG: ∀ g∈C4,bI 4 g:=λ g hg=>Vu ((List.all_eq_true.1 (show C4.all (GO 4)=true by decide+kernel)) g hg)
theorem alE: ∀ g∈A4,bI 4 g:=λ g hg=>Vu ((List.all_eq_true.1 (show A4.all (GO 4)=true by decide+kernel)) g hg)
def agU (n:Nat) (L:LN) (K:List Nat):List (List Int×Nat×Nat):=K.map λ r=>(zi (L.getD r []),BE n (L.getD r []),(HA L r).length)
theorem Jw {n:Nat} {G:List Nat->Prop} {L:LN} {h:H} (hG:yV n G) (E:iL G L) (hn:n<=7): ∀ {ks:List Cls.KE} {K:List Nat},(∀ r∈K,r<L.length)->bJ (KR n G L h) ks K->bJ (YN h) ks (agU n L K)
 | [], [],_,_=>trivial
 | [],_::_,_,h=>h.elim
 |_::_, [],_,h=>h.elim
 |a::ks,r::K,hK,h=>⟨⟨h.1.rep,h.1.ord.trans (Vw hG E hn (hK r (by simp))),h.1.size.trans (by rw [Qp E])⟩,Jw hG E hn (λ r hr=>hK r (by simp [hr])) h.2⟩
theorem Ir (h:H) (x y z:Int):rV h 1 [aB 0] 3 [(0,1,aB x),(1,1,aB y),(2,1,aB z)]=some (.sl h.next 0 3 (.kn 3),h.new (.cells false (ints [x,y,z]))):=by
 have e:dQ [aB 0] 3= [aB 0,aB 0,aB 0]:=rfl
 simp [rV,jJ,e,putAt,V.cells,V.one,ints]
theorem Ug (h:H) (x y z w:Int):rV h 1 [aB 0] 4 [(0,1,aB x),(1,1,aB y),(2,1,aB z),(3,1,aB w)]=some (.sl h.next 0 4 (.kn 4),h.new (.cells false (ints [x,y,z,w]))):=by
 have e:dQ [aB 0] 4= [aB 0,aB 0,aB 0,aB 0]:=rfl
 simp [rV,jJ,e,putAt,V.cells,V.one,ints]
theorem ahY (h:H) (x y z w u v:Int):rV h 1 [aB 0] 6 [(0,1,aB x),(1,1,aB y),(2,1,aB z),(3,1,aB w),(4,1,aB u),(5,1,aB v)]=some (.sl h.next 0 6 (.kn 6),h.new (.cells false (ints [x,y,z,w,u,v]))):=by
 have e:dQ [aB 0] 6= [aB 0,aB 0,aB 0,aB 0,aB 0,aB 0]:=rfl
 simp [rV,jJ,e,putAt,V.cells,V.one,ints]
theorem YA (h:H) {v u:V} (hv:v.cells= [v]/\v.one=true) (hu:u.cells= [u]/\u.one=true):rV h 1 [.aC] 2 [(0,1,v),(1,1,u)]=some (.sl h.next 0 2 (.kn 2),h.new (.cells false [v,u])):=by
 have e:dQ [V.aC] 2= [.aC,.aC]:=rfl
 simp [rV,jJ,e,putAt,hv.1,hv.2,hu.1,hu.2]
theorem Lh (id o m:Nat) (c:uO):(V.sl id o m c).cells= [.sl id o m c]/\(V.sl id o m c).one=true:=⟨rfl,rfl⟩
theorem Qq {h:H} {ID:Nat} (hid:h.next=ID) (l:List Int): ∃ x,h.new (.cells false (ints l))=x/\x.next=ID+1/\SI x (.sl ID 0 l.length (.kn l.length)) l/\Fr h x:=by
 obtain ⟨x,e,n,g,o,f⟩:=iK hid (ints l)
 exact ⟨x,e,n,SV.all (by rw [aS,Nat.mul_one]) (by omega) g _,f⟩
theorem SP.two {h h':H} {id:Nat} {v u:V} {a b:List Nat} (hv:SI h v (zi a)) (hu:SI h u (zi b)) (hid:id<h'.next) (f:Fr h h') (g:h'.get id=bQ [v,u]) (cap:uO):SP h' (.sl id 0 2 cap) [a,b]:=
 ⟨[v,u],SV.all rfl hid g _,hv.mono f,hu.mono f,trivial⟩
theorem SP.alR {h h':H} {id:Nat} {v:V} {a:List Nat} (hv:SI h v (zi a)) (hid:id<h'.next) (f:Fr h h') (g:h'.get id=bQ [v]) (cap:uO):SP h' (.sl id 0 1 cap) [a]:=
 ⟨[v],SV.all rfl hid g _,hv.mono f,trivial⟩
theorem GC.sl {W:Nat->Prop} {h:H} {vc:V} {n:Nat} {O:LN} {R:qF} {G:List Nat->Prop} (g:GC W h vc n O R G): ∃ vO vR,vc= .agg [aB n,vO,vR]/\vO.one=true/\vR.one=true/\eU vO vO=true/\eU vR vR=true:=by
 obtain ⟨vO,vR,wsO,wsR,e,t1,_,_,t2,_,_⟩:=g.cw
 exact ⟨vO,vR,e,t1.bP.2.1,t2.bP.2.1,t1.eU,t2.eU⟩
theorem Zm (h:H):Ev T Vb [] h (λ v h'=> ∃ c1 c2 c3 O1 R1 O2 R2 O3 R3,v= .tup [c1,c2,c3]/\GC (λ id=>id<h.next) h' c1 3 O1 R1 (fS 3 (· ∈S3))/\GC (λ id=>id<h.next) h' c2 4 O2 R2 (fS 4 (· ∈C4))/\GC (λ id=>id<h.next) h' c3 4 O3 R3 (fS 4 (· ∈A4))/\Fr h h'):=by
 refine aZ Tt rfl ?_
 obtain ⟨B,hB⟩: ∃ B,h.next=B:=⟨_,rfl⟩
 obtain ⟨h1,e1,n1,g1,o1,f1⟩:=iK hB [aB 0,.aC,.aC]
 obtain ⟨h2,e2,n2,g2,o2,f2⟩:=iK n1 [aB 0,.aC,.aC]
 obtain ⟨h3,e3,n3,g3,o3,f3⟩:=iK n2 [aB 0,.aC,.aC]
 obtain ⟨h4,e4,n4,s4,f4⟩:=Qq n3 [1,0,2]
 obtain ⟨h5,e5,n5,s5,f5⟩:=Qq n4 [0,2,1]
 obtain ⟨h6,e6,n6,g6,o6,f6⟩:=iK n5 [.sl (B+1+1+1) 0 3 (.kn 3),.sl (B+1+1+1+1) 0 3 (.kn 3)]
 have F03:=(f1.trans f2).trans f3
 have F36:=(f4.trans f5).trans f6
 have sp6:SP h6 (.sl (B+1+1+1+1+1) 0 2 (.kn 2)) S3:=SP.two (a:= [1,0,2]) (b:= [0,2,1]) (h:=h5) (s4.mono f5) s5 (by omega) f6 g6 _
 simp (disch:=omega) only [go_sem,rS,aF,hB,e1,n1,e2,n2,e3,n3,Ir,e4,n4,e5,n5,YA _ (Lh ..) (Lh ..),e6]
 refine (Ec _ 3 S3 h6 (by omega) (by omega) (by decide) sp6 alX).mono ?_
 rintro _ h7 ⟨c1,O1,R1,rfl,gc1,f7⟩
 have x1:=gc1.sl
 obtain ⟨u1,w1,rfl,a1,b1,ea1,eb1⟩:=x1
 have n7:=f7.next
 have g7:h7.get B=bQ [aB 0,.aC,.aC]:=by rw [f7.get B (by omega),F36.get B (by omega),o3 B (by omega),o2 B (by omega)];exact g1
 obtain ⟨h8,e8,n8,g8,o8⟩:=Ca h7 B [aB (3:Nat),u1,w1]
 obtain ⟨Q,hQ⟩: ∃ Q,h7.next=Q:=⟨_,rfl⟩
 rw [hQ] at n8
 obtain ⟨h9,e9,n9,s9,f9⟩:=Qq n8 [1,2,3,0]
 obtain ⟨h10,e10,n10,g10,o10,f10⟩:=iK n9 [.sl Q 0 4 (.kn 4)]
 have F810:=f9.trans f10
 have sp10:SP h10 (.sl (Q+1) 0 1 (.kn 1)) C4:=SP.alR (a:= [1,2,3,0]) (h:=h9) s9 (by omega) f10 g10 _
 have st1:=dS h7 B 0 (v:= aB (3:Nat)) (u:=u1) (w:=w1) rfl a1 b1
 simp (disch:=omega) only [go_sem,st1,g7,dX,e8,n8,Ug,e9,n9,dN _ (z:= .aC) (v:= .sl Q 0 4 (.kn 4)) rfl rfl,e10]
 have F03n:=F03.next
 have W3: ∀ {a c:H},a.next<=c.next->(∀ id,B+3<=id->id<a.next->c.get id=a.get id)->Fx (λ id=>id<B+3) a c:=λ hn hg=>⟨hn,λ id h1 h2=>hg id (by omega) h1⟩
 have gcA:GC (λ id=>id<B+3) h8 _ 3 O1 R1 _:=gc1.go (⟨by omega,λ id h1 h2=>o8 id (by omega)⟩:Fx (λ id=>id<h6.next) h7 h8) (λ id h1 h2=>by omega)
 refine (Ec _ 4 C4 h10 (by omega) (by omega) (by decide) sp10 alG).mono ?_
 rintro _ h11 ⟨c2,O2,R2,rfl,gc2,f11⟩
 have x2:=gc2.sl
 obtain ⟨u2,w2,rfl,a2,b2,ea2,eb2⟩:=x2
 have n11:=f11.next
 have F811:=F810.trans f11
 have g23:h3.get (B+1)=bQ [aB 0,.aC,.aC]:=by rw [o3 _ (by omega)];exact g2
 have g711: ∀ id,id<B+3->id≠B->h11.get id=h3.get id:=λ id hid hne=>by rw [F811.get id (by omega),o8 id hne,f7.get id (by omega),F36.get id (by omega)]
 obtain ⟨h12,e12,n12,g12,o12⟩:=Ca h11 (B+1) [aB (4:Nat),u2,w2]
 obtain ⟨P,hP⟩: ∃ P,h11.next=P:=⟨_,rfl⟩
 rw [hP] at n12
 have gcB:GC (λ id=>id<B+3) h12 _ 4 O2 R2 _:=gc2.go (⟨by omega,λ id h1 h2=>o12 id (by omega)⟩:Fx (λ id=>id<h10.next) h11 h12) (λ id h1 h2=>by omega)
 obtain ⟨h13,e13,n13,s13,f13⟩:=Qq n12 [1,2,0,3]
 obtain ⟨h14,e14,n14,s14,f14⟩:=Qq n13 [0,2,3,1]
 obtain ⟨h15,e15,n15,g15,o15,f15⟩:=iK n14 [.sl P 0 4 (.kn 4),.sl (P+1) 0 4 (.kn 4)]
 have F1215:=(f13.trans f14).trans f15
 have sp15:SP h15 (.sl (P+1+1) 0 2 (.kn 2)) A4:=SP.two (a:= [1,2,0,3]) (b:= [0,2,3,1]) (h:=h14) (s13.mono f14) s14 (by omega) f15 g15 _
 have st2:=dS h11 (B+1) 0 (v:= aB (4:Nat)) (u:=u2) (w:=w2) rfl a2 b2
 have g11b:h11.get (B+1)=bQ [aB 0,.aC,.aC]:=by rw [g711 _ (by omega) (by omega)];exact g23
 simp (disch:=omega) only [go_sem,st2,g11b,dX,e12,n12,Ug,e13,n13,e14,n14,YA _ (Lh ..) (Lh ..),e15]
 refine (Ec _ 4 A4 h15 (by omega) (by omega) (by decide) sp15 alE).mono ?_
 rintro _ h16 ⟨c3,O3,R3,rfl,gc3,f16⟩
 have x3:=gc3.sl
 obtain ⟨u3,w3,rfl,a3,b3,ea3,eb3⟩:=x3
 have n16:=f16.next
 have F1216:=F1215.trans f16
 obtain ⟨h17,e17,n17,g17,o17⟩:=Ca h16 (B+1+1) [aB (4:Nat),u3,w3]
 have gcC:GC (λ id=>id<B+3) h17 _ 4 O3 R3 _:=gc3.go (⟨by omega,λ id h1 h2=>o17 id (by omega)⟩:Fx (λ id=>id<h15.next) h16 h17) (λ id h1 h2=>by omega)
 have st3:=dS h16 (B+1+1) 0 (v:= aB (4:Nat)) (u:=u3) (w:=w3) rfl a3 b3
 have g16c:h16.get (B+1+1)=bQ [aB 0,.aC,.aC]:=by rw [F1216.get _ (by omega),o12 _ (by omega),g711 _ (by omega) (by omega)];exact g3
 have gA:h17.get B=bQ [aB (3:Nat),u1,w1]:=by rw [o17 B (by omega),F1216.get B (by omega),o12 B (by omega),F811.get B (by omega)];exact g8
 have gB:h17.get (B+1)=bQ [aB (4:Nat),u2,w2]:=by rw [o17 _ (by omega),F1216.get _ (by omega)];exact g12
 obtain ⟨hb,ehb,nhb⟩: ∃ hb:H,H.mk h17.tr (h17.next+6)=hb/\hb.next=h17.next+6:=⟨_,rfl,rfl⟩
 have fb:Fr h17 hb:=by rw [←ehb];exact (Fr.refl h17).bF (by omega)
 obtain ⟨h18,e18,n18,g18,o18⟩:=Ca hb B [aB (3:Nat),u1,w1]
 obtain ⟨h19,e19,n19,g19,o19⟩:=Ca h18 (B+1) [aB (4:Nat),u2,w2]
 obtain ⟨h20,e20,n20,g20,o20⟩:=Ca h19 (B+1+1) [aB (4:Nat),u3,w3]
 have bA:hb.get B=bQ [aB (3:Nat),u1,w1]:=by rw [fb.get _ (by omega)];exact gA
 have bB:hb.get (B+1)=bQ [aB (4:Nat),u2,w2]:=by rw [fb.get _ (by omega)];exact gB
 have bC:hb.get (B+1+1)=bQ [aB (4:Nat),u3,w3]:=by rw [fb.get _ (by omega)];exact g17
 have k18B:h18.get (B+1)=bQ [aB (4:Nat),u2,w2]:=by rw [o18 _ (by omega)];exact bB
 have k18C:h18.get (B+1+1)=bQ [aB (4:Nat),u3,w3]:=by rw [o18 _ (by omega)];exact bC
 have k19C:h19.get (B+1+1)=bQ [aB (4:Nat),u3,w3]:=by rw [o19 _ (by omega)];exact k18C
 have k20A:h20.get B=bQ [aB (3:Nat),u1,w1]:=by rw [o20 _ (by omega),o19 _ (by omega)];exact g18
 have k20B:h20.get (B+1)=bQ [aB (4:Nat),u2,w2]:=by rw [o20 _ (by omega)];exact g19
 simp (disch:=omega) only [go_sem,st3,g16c,dX,e17,aX gA,aX gB,aX g17]
 rw [ehb]
 have t1:=dS hb B 0 (v:= aB (3:Nat)) (u:=u1) (w:=w1) rfl a1 b1
 have t2:=dS h18 (B+1) 0 (v:= aB (4:Nat)) (u:=u2) (w:=w2) rfl a2 b2
 have t3:=dS h19 (B+1+1) 0 (v:= aB (4:Nat)) (u:=u3) (w:=w3) rfl a3 b3
 have q1:eU (.agg [aB (3:Nat),u1,w1]) (.agg [aB (3:Nat),u1,w1])=true:=by simp [eU,yB,ea1,eb1]
 have q2:eU (.agg [aB (4:Nat),u2,w2]) (.agg [aB (4:Nat),u2,w2])=true:=by simp [eU,yB,ea2,eb2]
 have q3:eU (.agg [aB (4:Nat),u3,w3]) (.agg [aB (4:Nat),u3,w3])=true:=by simp [eU,yB,ea3,eb3]
 simp (disch:=omega) only [go_sem,t1,bA,dX,e18,aX k18B,aX k18C,t2,k18B,e19,aX k19C,t3,k19C,e20,q1,q2,q3,aX k20A,aX k20B,aX g20]
 have X1:Fx (λ id=>id<B+3) h8 h17:=⟨by omega,λ id h1 h2=>by rw [o17 id (by omega),F1216.get id (by omega),o12 id (by omega),F811.get id (by omega)]⟩
 have X2:Fx (λ id=>id<B+3) h12 h17:=⟨by omega,λ id h1 h2=>by rw [o17 id (by omega),F1216.get id (by omega)]⟩
 have X3:Fx (λ id=>id<B+3) h17 h20:=⟨by omega,λ id h1 h2=>by rw [o20 id (by omega),o19 id (by omega),o18 id (by omega),fb.get id (by omega)]⟩
 have low: ∀ {v n O R G},GC (λ id=>id<B+3) h17 v n O R G->GC (λ id=>id<B) h20 v n O R G:=λ g=>g.go X3 (λ id _ hid=>by omega)
 refine ⟨_,_,_,O1,R1,O2,R2,O3,R3,rfl,low (gcA.go X1 (λ id _ h=>h)),low (gcB.go X2 (λ id _ h=>h)),low gcC,⟨by omega,λ id hid=>?_⟩⟩
 rw [o20 id (by omega),o19 id (by omega),o18 id (by omega),fb.get id (by omega),o17 id (by omega),F1216.get id (by omega),o12 id (by omega),g711 id (by omega) (by omega),F03.get id hid]
theorem GC.el {W:Nat->Prop} {h:H} {vc:V} {n:Nat} {O:LN} {R:qF} {G:List Nat->Prop} {L:LN} (g:GC W h vc n O R G) (E:iL G L):dG O R n 0 (bZ n)=L:=(fC g.jY g.isc).1.uniq E
theorem DN {n:Nat} {G:List Nat->Prop} {L:LN} {K:List Nat} (hG:yV n G) (E:iL G L) (hn:n<=7) (k:Qe n G L K) (z:Int):(rc K.length λ i=>aB (Wr n G L K z (K.getD i 0):Nat))=ints (zi (K.map (IT n L K z))):=by
 have e:=Ub (K.map (IT n L K z))
 rw [nO] at e
 rw [←e]
 refine cJ λ i hi=>?_
 rw [XI hG E hn z (k.lt (bG hi))]
 congr 2
 rw [List.getD,List.getD,List.getElem?_map,iH hi];rfl
theorem UW {v:V} {h:H} {l:List Int} (s:SI h v l):v.cells= [v]/\v.one=true:=⟨(SV.bP s).1,(SV.bP s).2.1⟩
theorem ahZ (h:H) (A B C m:Nat) (x y z u v w:Int):rV h 3 [.aC,aB 0,aB 0] 3 [(0,3,.agg [.sl A 0 m (.kn m),aB x,aB y]),(3,3,.agg [.sl B 0 m (.kn m),aB z,aB u]),(6,3,.agg [.sl C 0 m (.kn m),aB v,aB w])]=some (.sl h.next 0 3 (.kn 3),h.new (.cells false [.sl A 0 m (.kn m),aB x,aB y,.sl B 0 m (.kn m),aB z,aB u,.sl C 0 m (.kn m),aB v,aB w])):=by
 have e:dQ [V.aC,aB 0,aB 0] 9= [.aC,aB 0,aB 0,.aC,aB 0,aB 0,.aC,aB 0,aB 0]:=rfl
 simp [rV,jJ,e,putAt,V.cells,V.one]
theorem ajJ (h:H) (A B C D m:Nat) (x y z u v w s t:Int):rV h 3 [.aC,aB 0,aB 0] 4 [(0,3,.agg [.sl A 0 m (.kn m),aB x,aB y]),(3,3,.agg [.sl B 0 m (.kn m),aB z,aB u]),(6,3,.agg [.sl C 0 m (.kn m),aB v,aB w]),(9,3,.agg [.sl D 0 m (.kn m),aB s,aB t])]=some (.sl h.next 0 4 (.kn 4),h.new (.cells false [.sl A 0 m (.kn m),aB x,aB y,.sl B 0 m (.kn m),aB z,aB u,.sl C 0 m (.kn m),aB v,aB w,.sl D 0 m (.kn m),aB s,aB t])):=by
 have e:dQ [V.aC,aB 0,aB 0] 12= [.aC,aB 0,aB 0,.aC,aB 0,aB 0,.aC,aB 0,aB 0,.aC,aB 0,aB 0]:=rfl
 simp [rV,jJ,e,putAt,V.cells,V.one]
theorem dT {i:Decidable True}: @decide True i=true:=decide_eq_true trivial
def yM (rep:V) (h:H) (l:List Int) (s:SI h rep l) (o z:Nat):Cls.KE:=⟨rep,o,z,.aC,0,⟨(SV.bP s).1,(SV.bP s).2.1,SV.eU s⟩,⟨rfl,rfl,rfl⟩⟩
theorem YG (h:H):Ev T Xj [] h (λ v h'=>v= .bool true/\Fr h h'):=by
 refine aZ Wv rfl ?_
 simp (disch:=omega) only [go_sem,tE,aF]
 refine (Zm h).mono ?_
 rintro _ h1 ⟨c1,c2,c3,O1,R1,O2,R2,O3,R3,rfl,gA,gB,gC,f1⟩
 have L1:=gA.el oY
 have L2:=gB.el Ii
 obtain ⟨u1,w1,rfl,a1,b1,_,_⟩:=gA.sl
 obtain ⟨u2,w2,rfl,a2,b2,_,_⟩:=gB.sl
 obtain ⟨u3,w3,rfl,a3,b3,_,_⟩:=gC.sl
 obtain ⟨B,hB⟩: ∃ B,h1.next=B:=⟨_,rfl⟩
 obtain ⟨h2,e2,n2,g2,o2,f2⟩:=iK hB [aB 0,.aC,.aC]
 obtain ⟨h3,e3,n3,g3,o3,f3⟩:=iK n2 [aB 0,.aC,.aC]
 obtain ⟨h4,e4,n4,g4,o4,f4⟩:=iK n3 [aB 0,.aC,.aC]
 obtain ⟨h5,e5,n5,g5,o5⟩:=Ca h4 B [aB (3:Nat),u1,w1]
 obtain ⟨h6,e6,n6,g6,o6⟩:=Ca h5 (B+1) [aB (4:Nat),u2,w2]
 obtain ⟨h7,e7,n7,g7,o7⟩:=Ca h6 (B+1+1) [aB (4:Nat),u3,w3]
 have q4:h4.get B=some (.cells false [aB 0,.aC,.aC]):=by rw [o4 _ (by omega),o3 _ (by omega)];exact g2
 have q5:h5.get (B+1)=some (.cells false [aB 0,.aC,.aC]):=by rw [o5 _ (by omega),o4 _ (by omega)];exact g3
 have q6:h6.get (B+1+1)=some (.cells false [aB 0,.aC,.aC]):=by rw [o6 _ (by omega),o5 _ (by omega)];exact g4
 have F17:Fr h1 h7:=⟨by omega,λ id hid=>by rw [o7 id (by omega),o6 id (by omega),o5 id (by omega),o4 id (by omega),o3 id (by omega),o2 id (by omega)]⟩
 have r1:h7.get B=some (.cells false [aB (3:Nat),u1,w1]):=by rw [o7 _ (by omega),o6 _ (by omega)];exact g5
 have r2:h7.get (B+1)=some (.cells false [aB (4:Nat),u2,w2]):=by rw [o7 _ (by omega)];exact g6
 simp (disch:=omega) only [go_sem,hB,e2,n2,e3,n3,e4,dS h4 B 0 (v:= aB (3:Nat)) (u:=u1) (w:=w1) rfl a1 b1,q4,dX,e5,
  dS h5 (B+1) 0 (v:= aB (4:Nat)) (u:=u2) (w:=w2) rfl a2 b2,q5,e6,
  dS h6 (B+1+1) 0 (v:= aB (4:Nat)) (u:=u3) (w:=w3) rfl a3 b3,q6,e7,aX r1]
 refine (Ep _ 3 O1 R1 _ h7 (gA.mono F17) L3 L1).mono ?_
 rintro _ h8 ⟨vl,K,ks,rfl,ik,sl8,al8,f8⟩
 obtain rfl:=Qu.eq gA.jY oY (by omega) Oq ik
 have x2:h8.get (B+1)=some (.cells false [aB (4:Nat),u2,w2]):=by rw [f8.get _ (by omega)];exact r2
 simp (disch:=omega) only [go_sem,aX x2]
 refine (AQ _ 3 4 O2 R2 _ h8 (gB.mono (F17.trans f8)) L4 (by omega) L2).mono ?_
 rintro _ h9 ⟨K,vp,ik2,rfl,sp9,f9⟩
 obtain rfl:=Qu.eq gB.jY Ii (by omega) OV ik2
 rw [DN gB.jY Ii (by omega) ik2,show ([0,2,1,3]:List Nat).map (IT 4 L4 [0,2,1,3] 3)= [0,1,3,2] by decide+kernel] at sp9
 have f79:=f8.trans f9
 have x1:h9.get B=some (.cells false [aB (3:Nat),u1,w1]):=by rw [f79.get _ (by omega)];exact r1
 simp (disch:=omega) only [go_sem,aX x1]
 refine (NU _ 3 O1 R1 _ h9 (gA.mono (F17.trans f79)) L3 L1).mono ?_
 rintro _ h10 ⟨K,ik3,rfl,f10⟩
 obtain rfl:=Qu.eq gA.jY oY (by omega) Oq ik3
 rw [ED gA.jY oY (by omega) ik3,show agR 3 L3 [0,1,3]=6 by decide+kernel]
 obtain ⟨Q,hQ⟩: ∃ Q,h10.next=Q:=⟨_,rfl⟩
 obtain ⟨h11,e11,n11,s11,f11⟩:=Qq hQ [0,1,2]
 obtain ⟨h12,e12,n12,s12,f12⟩:=Qq n11 [0,2,1]
 obtain ⟨h13,e13,n13,s13,f13⟩:=Qq n12 [1,2,0]
 obtain ⟨h14,e14,n14,g14,o14,f14⟩:=iK n13 [.sl Q 0 3 (.kn 3),aB 1,aB 1,.sl (Q+1) 0 3 (.kn 3),aB 2,aB 3,.sl (Q+1+1) 0 3 (.kn 3),aB 3,aB 2]
 simp (disch:=omega) only [go_sem,dT,hQ,Ir,e11,n11,e12,n12,e13,n13,qC (v:= .sl Q 0 3 (.kn 3)) rfl rfl,qC (v:= .sl (Q+1) 0 3 (.kn 3)) rfl rfl,qC (v:= .sl (Q+1+1) 0 3 (.kn 3)) rfl rfl,ahZ,e14]
 have F814:=((((((f9.trans f10).trans f11).trans f12).trans f13).trans f14))
 have F914:=f10.trans (((f11.trans f12).trans f13).trans f14)
 have z11:SI h14 (.sl Q 0 3 (.kn 3)) [0,1,2]:=s11.mono ((f12.trans f13).trans f14)
 have z12:SI h14 (.sl (Q+1) 0 3 (.kn 3)) [0,2,1]:=s12.mono (f13.trans f14)
 have z13:SI h14 (.sl (Q+1+1) 0 3 (.kn 3)) [1,2,0]:=s13.mono f14
 have see:bJ (YN h14) [yM _ _ _ z11 1 1,yM _ _ _ z12 2 3,yM _ _ _ z13 3 2] [([0,1,2],1,1),([0,2,1],2,3),([1,2,0],3,2)]:=⟨⟨z11,rfl,rfl⟩,⟨z12,rfl,rfl⟩,⟨z13,rfl,rfl⟩,trivial⟩
 have sl14:SV h14 (.sl (Q+1+1+1) 0 3 (.kn 3)) 3 (sF [yM _ _ _ z11 1 1,yM _ _ _ z12 2 3,yM _ _ _ z13 3 2]):=SV.all rfl (by omega) g14 _
 have see8:=Jw gA.jY oY (by omega) (λ r hr=>ik.lt hr) (al8.mono λ _ _ x=>x.mono F814)
 have hks:=bJ.length al8
 refine (Ex vl _ ks _ _ _ h14 (sl8.mono F814) sl14 see8 see (by rw [hks];decide) (show 3<1000000 by decide) (by decide) (by decide)).mono ?_
 rw [show decide (agU 3 L3 [0,1,3]= [([0,1,2],1,1),([0,2,1],2,3),([1,2,0],3,2)])=true by decide+kernel]
 rintro _ h15 ⟨rfl,f15⟩
 obtain ⟨P,hP⟩: ∃ P,h15.next=P:=⟨_,rfl⟩
 obtain ⟨h16,e16,n16,s16,f16⟩:=Qq hP [0,1,3,2]
 simp (disch:=omega) only [go_sem,dT,hP,Ug,e16]
 refine (Au vp _ _ _ h16 (SI.mono (show SI h9 vp (zi [0,1,3,2]) from sp9) (F914.trans (f15.trans f16))) s16 (by decide) (by decide)).mono ?_
 rw [show decide (zi [0,1,3,2]= [0,1,3,2])=true by decide+kernel]
 rintro _ h17 ⟨rfl,f17⟩
 have e6:decide (((6:Nat):Int)=6)=true:=rfl
 simp (disch:=omega) only [go_sem,dT,e6]
 exact (((f1.trans F17).trans f8).trans F814).trans ((f15.trans f16).trans f17)
def SB (h:H) (v:V) (l:List Bool):Prop:=SV h v 1 (l.map V.bool)
theorem SB.mono {h h':H} {v:V} {l:List Bool} (s:SB h v l) (f:Fr h h'):SB h' v l:=SV.mono s f
theorem SB.open {h:H} {v:V} {l:List Bool} (s:SB h v l):dW v=some (aB (l.length:Int))/\ ∃ id off,Sl v 1 l.length id off/\ ∀ i,i<l.length->id<h.next/\h.cell id (off+i)=some (.bool (l.getD i false)):=by
 have hl:(l.map V.bool).length=l.length:=nO ..
 refine ⟨by unfold dW;rw [SV.len s (n:=l.length) (by omega) (by omega)];rfl,?_⟩
 obtain ⟨id,off,sh,hid,hc⟩:=SV.shape s l.length (by omega) (by omega)
 exact ⟨id,off,sh,λ i hi=>⟨hid (by omega),by rw [hc i (by omega),List.getElem?_map,List.getD,iH hi];rfl⟩⟩
theorem HJ (va vb:V) (a b:List Bool) (h:H) (ha:SB h va a) (hb:SB h vb b) (hla:a.length<1000000) (hlb:b.length<1000000):Ev T Pl [va,vb] h (λ v h'=>v= .bool (decide (a=b))/\Fr h h'):=by
 refine aZ Qi rfl ?_
 obtain ⟨la,id,off,hsl,hc⟩:=ha.open
 obtain ⟨lb,id2,off2,hsl2,hc2⟩:=hb.open
 simp (disch:=omega) only [go_sem,pE,aF,la,lb]
 refine aY (λ hne=>?_) (λ heq=>?_)
 ·simp (disch:=omega) only [go_sem]
  have:a≠b:=λ e=>hne (by rw [e])
  exact ⟨by rw [decide_eq_false this],Fr.refl h⟩
 have heq:a.length=b.length:=by omega
 simp (disch:=omega) only [go_sem,la]
 refine aJ (λ k vars h2=> ∃ (i:Nat),(∃ g:Nat->V,vars= [va,vb,g 2,aB i,g 4,g 5,g 6])/\i<=a.length/\(∀ j,j<i->a.getD j false=b.getD j false)/\Fr h h2/\k=a.length-i) a.length
  ⟨0,aA rfl,mJ _,λ j hj=>by omega,Fr.refl h,rfl⟩ ?_
 rintro k vars h2 ⟨i,⟨g,rfl⟩,hi,hpre,hf2,rfl⟩
 by_cases hlt:(i:Int)<(a.length:Int)
 case neg=>
  have e1:=gJ hlt
  simp (disch:=omega) only [go_sem,la,e1]
  have:a=b:=by
   refine List.ext_getElem heq λ j h1 h2=>?_
   have:=hpre j (by omega)
   rwa [List.getD,iH h1,List.getD,iH h2] at this
  exact ⟨by rw [decide_eq_true this],hf2⟩
 have e1:=mG hlt
 have hia:i<a.length:=by omega
 obtain ⟨i1,c1⟩:=hc i hia
 obtain ⟨i2,c2⟩:=hc2 i (by omega)
 have c1':=(hf2.cell (off:=off+i) i1).trans c1
 have c2':=(hf2.cell (off:=off2+i) i2).trans c2
 generalize hA:a.getD i false=x at c1' c1
 generalize hB:b.getD i false=y at c2' c2
 by_cases hxy:x=y
 ·subst hxy
  have eb:(x==x)=true:=by cases x<;>rfl
  simp (disch:=omega) only [go_sem,la,e1,hsl.ixa,hsl2.ixa,c1',c2',eb]
  rw [iJ i]
  refine ⟨a.length-(i+1),by omega,i+1,aA rfl,by omega,λ j hj=>?_,hf2.bF (by omega),rfl⟩
  by_cases h3:j=i
  ·rw [h3,hA,hB]
  ·exact hpre j (by omega)
 ·have eb:(x==y)=false:=by cases x<;>cases y<;>first|rfl|exact absurd rfl hxy
  simp (disch:=omega) only [go_sem,la,e1,hsl.ixa,hsl2.ixa,c1',c2',eb]
  have:a≠b:=λ e=>hxy (by rw [←hA,←hB,e])
  exact ⟨by rw [decide_eq_false this],hf2.bF (by omega)⟩
def RN (n:Nat) (M:LN) (i:Nat):List Nat:=(List.range n).filter λ p=>M.any λ x=>(List.range i).all (λ j=>x.getD j 0==j)&&x.getD i 0==p
theorem SK {n:Nat} {G:List Nat->Prop} {M:LN} {O:LN} {R:qF} (hG:yV n G) (c:eE n G O R) (E:iL G M):O=(List.range n).map (RN n M):=by
 refine De (d:= []) (by rw [c.lo];simp) λ i hi=>?_
 rw [c.lo] at hi
 have e:((List.range n).map (RN n M)).getD i []=RN n M i:=by simp [List.getD,hi]
 rw [e]
 refine Sd (c.asc i hi) (by unfold RN;exact List.pairwise_lt_range.filter _) λ p=>?_
 rw [c.mem i hi]
 unfold RN
 rw [List.mem_filter,List.mem_range,List.any_eq_true]
 constructor
 ·rintro ⟨x,hx,hf,hp⟩
  refine ⟨by rw [←hp];exact (hG.dR hx).eS hi,x,(E.mem x).2 hx,?_⟩
  rw [Bool.and_eq_true,List.all_eq_true]
  exact ⟨λ j hj=>by simpa using hf j (List.mem_range.1 hj),by simpa using hp⟩
 ·rintro ⟨_,x,hx,h⟩
  rw [Bool.and_eq_true,List.all_eq_true] at h
  exact ⟨x,(E.mem x).1 hx,λ j hj=>by simpa using h.1 j (List.mem_range.2 hj),by simpa using h.2⟩
theorem agK {n:Nat} {G:List Nat->Prop} {L:LN} {K:List Nat} (E:iL G L):Kl G L K=(List.range L.length).map (SZ L K):=by
 unfold Kl
 exact List.map_congr_left λ j _=>BB E j
theorem GB {G:List Nat->Prop} {L:LN} {K:List Nat} (E:iL G L):(rc K.length λ i=>V.bool (zD G L (K.getD i 0)))=(K.map (GK L)).map V.bool:=by
 refine Ly (by simp) λ i hi=>?_
 rw [List.getElem?_map,List.getElem?_map,iH hi,QZ E,List.getD,iH hi];rfl
theorem XT (h:H) (x y z w:Bool):rV h 1 [.bool false] 4 [(0,1,.bool x),(1,1,.bool y),(2,1,.bool z),(3,1,.bool w)]=some (.sl h.next 0 4 (.kn 4),h.new (.cells false [.bool x,.bool y,.bool z,.bool w])):=by
 have e:dQ [V.bool false] 4= [.bool false,.bool false,.bool false,.bool false]:=rfl
 simp [rV,jJ,e,putAt,V.cells,V.one]
theorem UT (h:H) (A B C a b c:Nat):rV h 1 [.aC] 3 [(0,1,.sl A 0 a (.kn a)),(1,1,.sl B 0 b (.kn b)),(2,1,.sl C 0 c (.kn c))]=some (.sl h.next 0 3 (.kn 3),h.new (.cells false [.sl A 0 a (.kn a),.sl B 0 b (.kn b),.sl C 0 c (.kn c)])):=by
 have e:dQ [V.aC] 3= [.aC,.aC,.aC]:=rfl
 simp [rV,jJ,e,putAt,V.cells,V.one]
theorem mkB {h:H} {ID:Nat} (hid:h.next=ID) (l:List Bool): ∃ x,h.new (.cells false (l.map V.bool))=x/\x.next=ID+1/\SB x (.sl ID 0 l.length (.kn l.length)) l/\Fr h x:=by
 obtain ⟨x,e,n,g,o,f⟩:=iK hid (l.map V.bool)
 exact ⟨x,e,n,SV.all (by rw [nO,Nat.mul_one]) (by omega) g _,f⟩
theorem YV (h:H):Ev T Eb [] h (λ v h'=>v= .bool true/\Fr h h'):=by
 refine aZ Dq rfl ?_
 simp (disch:=omega) only [go_sem,jM,aF]
 refine (Zm h).mono ?_
 rintro _ h1 ⟨c1,c2,c3,O1,R1,O2,R2,O3,R3,rfl,gA,gB,gC,f1⟩
 have L1:=gA.el oY
 have L2:=gB.el Ii
 have L3e:=gC.el Zr
 obtain ⟨u1,w1,rfl,a1,b1,_,_⟩:=gA.sl
 obtain ⟨u2,w2,rfl,a2,b2,_,_⟩:=gB.sl
 obtain ⟨u3,w3,rfl,a3,b3,_,_⟩:=gC.sl
 obtain ⟨B,hB⟩: ∃ B,h1.next=B:=⟨_,rfl⟩
 obtain ⟨h2,e2,n2,g2,o2,f2⟩:=iK hB [aB 0,.aC,.aC]
 obtain ⟨h3,e3,n3,g3,o3,f3⟩:=iK n2 [aB 0,.aC,.aC]
 obtain ⟨h4,e4,n4,g4,o4,f4⟩:=iK n3 [aB 0,.aC,.aC]
 obtain ⟨h5,e5,n5,g5,o5⟩:=Ca h4 B [aB (3:Nat),u1,w1]
 obtain ⟨h6,e6,n6,g6,o6⟩:=Ca h5 (B+1) [aB (4:Nat),u2,w2]
 obtain ⟨h7,e7,n7,g7,o7⟩:=Ca h6 (B+1+1) [aB (4:Nat),u3,w3]
 have q4:h4.get B=bQ [aB 0,.aC,.aC]:=by rw [o4 _ (by omega),o3 _ (by omega)];exact g2
 have q5:h5.get (B+1)=bQ [aB 0,.aC,.aC]:=by rw [o5 _ (by omega),o4 _ (by omega)];exact g3
 have q6:h6.get (B+1+1)=bQ [aB 0,.aC,.aC]:=by rw [o6 _ (by omega),o5 _ (by omega)];exact g4
 have F17:Fr h1 h7:=⟨by omega,λ id hid=>by rw [o7 id (by omega),o6 id (by omega),o5 id (by omega),o4 id (by omega),o3 id (by omega),o2 id (by omega)]⟩
 have rA: ∀ hh,Fr h7 hh->hh.row B 0 3=some [aB (3:Nat),u1,w1]:=λ hh f=>aX (by rw [f.get _ (by omega),o7 _ (by omega),o6 _ (by omega)];exact g5)
 have rB: ∀ hh,Fr h7 hh->hh.row (B+1) 0 3=some [aB (4:Nat),u2,w2]:=λ hh f=>aX (by rw [f.get _ (by omega),o7 _ (by omega)];exact g6)
 have rC: ∀ hh,Fr h7 hh->hh.row (B+1+1) 0 3=some [aB (4:Nat),u3,w3]:=λ hh f=>aX (by rw [f.get _ (by omega)];exact g7)
 have gA7:=gA.mono F17
 have gB7:=gB.mono F17
 have gC7:=gC.mono F17
 have A7: ∀ hh,Fr h7 hh->GC (λ id=>id<h.next) hh _ 3 O1 R1 _:=λ hh f=>gA7.mono f
 have B7: ∀ hh,Fr h7 hh->GC (λ id=>id<h.next) hh _ 4 O2 R2 _:=λ hh f=>gB7.mono f
 have C7: ∀ hh,Fr h7 hh->GC (λ id=>id<h.next) hh _ 4 O3 R3 _:=λ hh f=>gC7.mono f
 have F07:=f1.trans F17
 simp (disch:=omega) only [go_sem,hB,e2,n2,e3,n3,e4,dS h4 B 0 (v:= aB (3:Nat)) (u:=u1) (w:=w1) rfl a1 b1,q4,dX,e5,
  dS h5 (B+1) 0 (v:= aB (4:Nat)) (u:=u2) (w:=w2) rfl a2 b2,q5,e6,
  dS h6 (B+1+1) 0 (v:= aB (4:Nat)) (u:=u3) (w:=w3) rfl a3 b3,q6,e7,rA h7 (Fr.refl _)]
 clear e2 e3 e4 e5 e6 e7 q4 q5 q6 g2 g3 g4 g5 g6 g7 o2 o3 o4 o5 o6 o7 f2 f3 f4
 refine (ajZ _ 3 O1 R1 _ h7 gA7 L3 L1).mono ?_
 rintro _ h8 ⟨v4,K,rfl,ik,s4,f8⟩
 obtain rfl:=Qu.eq gA.jY oY (by omega) Oq ik
 rw [agK (n:=3) oY,show (List.range L3.length).map (SZ L3 [0,1,3])= [0,1,1,2,2,1] by decide+kernel] at s4
 obtain ⟨Q,hQ⟩: ∃ Q,h8.next=Q:=⟨_,rfl⟩
 obtain ⟨h9,e9,n9,s9,f9⟩:=Qq hQ [2,0,1]
 have F9:=f8.trans f9
 simp (disch:=omega) only [go_sem,rA h8 f8,hQ,Ir,e9]
 refine (GX _ _ [2,0,1] 3 O1 R1 _ h9 (A7 h9 F9) s9 (by decide) L3 L1).mono ?_
 rintro v h10 ⟨K,ik1,f10,fs⟩
 obtain rfl:=Qu.eq gA.jY oY (by omega) Oq ik1
 obtain rfl:v= .tup [aB (2:Nat),aB 0]:=by
  rcases fs with ⟨hp,_⟩|⟨_,hl,_⟩|⟨y,hy,Y,⟨i,hi,ei,e⟩|⟨hn,_⟩⟩
  ·exact absurd (show Sk [2,0,1]=0 by decide+kernel) hp
  ·exact absurd rfl hl
  ·have hy':y= [2,0,1]:=(Sy (show zi [2,0,1]=zi y from hy)).symm
   have e4:L3.getD 4 []= [2,0,1]:=rfl
   have:i=4:=Jf oY.nodup hi (by decide) (by rw [ei,hy',e4])
   subst this
   rw [BB oY,show SZ L3 [0,1,3] 4=2 by decide+kernel] at e
   exact e
  ·have hy':y= [2,0,1]:=(Sy (show zi [2,0,1]=zi y from hy)).symm
   exact absurd ((oY.mem _).1 (by rw [hy'];decide)) hn
 have F10:=F9.trans f10
 simp (disch:=omega) only [go_sem,rA h10 F10]
 refine (AQ _ 2 3 O1 R1 _ h10 (A7 h10 F10) L3 (by omega) L1).mono ?_
 rintro _ h11 ⟨K,v8,ik2,rfl,s8,f11⟩
 obtain rfl:=Qu.eq gA.jY oY (by omega) Oq ik2
 rw [DN gA.jY oY (by omega) ik2,show ([0,1,3]:List Nat).map (IT 3 L3 [0,1,3] 2)= [0,0,2] by decide+kernel] at s8
 have F11:=F10.trans f11
 simp (disch:=omega) only [go_sem,rA h11 F11]
 refine (AQ _ (-1) 3 O1 R1 _ h11 (A7 h11 F11) L3 (by omega) L1).mono ?_
 rintro _ h12 ⟨K,v10,ik3,rfl,s10,f12⟩
 obtain rfl:=Qu.eq gA.jY oY (by omega) Oq ik3
 rw [DN gA.jY oY (by omega) ik3,show ([0,1,3]:List Nat).map (IT 3 L3 [0,1,3] (-1))= [0,1,2] by decide+kernel] at s10
 have F12:=F11.trans f12
 obtain ⟨P,hP⟩: ∃ P,h12.next=P:=⟨_,rfl⟩
 obtain ⟨h13,e13,n13,s13,f13⟩:=Qq hP [0,1,1,2,2,1]
 simp (disch:=omega) only [go_sem,dT,hP,ahY,e13]
 refine (Au v4 _ _ _ h13 (SI.mono (show SI h8 v4 (zi [0,1,1,2,2,1]) from s4) (((f9.trans f10).trans f11).trans (f12.trans f13))) s13 (by decide) (by decide)).mono ?_
 rw [show decide (zi [0,1,1,2,2,1]= [0,1,1,2,2,1])=true by decide+kernel]
 rintro _ h14 ⟨rfl,f14⟩
 obtain ⟨P2,hP2⟩: ∃ P,h14.next=P:=⟨_,rfl⟩
 obtain ⟨h15,e15,n15,s15,f15⟩:=Qq hP2 [0,0,2]
 have i2:decide (((2:Nat):Int)=2)=true:=rfl
 simp (disch:=omega) only [go_sem,dT,i2,hP2,Ir,e15]
 refine (Au v8 _ _ _ h15 (SI.mono (show SI h11 v8 (zi [0,0,2]) from s8) ((f12.trans f13).trans (f14.trans f15))) s15 (by decide) (by decide)).mono ?_
 rw [show decide (zi [0,0,2]= [0,0,2])=true by decide+kernel]
 rintro _ h16 ⟨rfl,f16⟩
 obtain ⟨P3,hP3⟩: ∃ P,h16.next=P:=⟨_,rfl⟩
 obtain ⟨h17,e17,n17,s17,f17⟩:=Qq hP3 [0,1,2]
 simp (disch:=omega) only [go_sem,dT,i2,hP3,Ir,e17]
 refine (Au v10 _ _ _ h17 (SI.mono (show SI h12 v10 (zi [0,1,2]) from s10) (((f13.trans f14).trans (f15.trans f16)).trans f17)) s17 (by decide) (by decide)).mono ?_
 rw [show decide (zi [0,1,2]= [0,1,2])=true by decide+kernel]
 rintro _ h18 ⟨rfl,f18⟩
 have F18:=(((F12.trans f13).trans (f14.trans f15)).trans (f16.trans f17)).trans f18
 simp (disch:=omega) only [go_sem,dT,i2,rB h18 F18]
 clear e9 e13 e15 e17 s9 s13 s15 s17 s4 s8 s10
 refine (Ep _ 4 O2 R2 _ h18 (B7 h18 F18) L4 L2).mono ?_
 rintro _ h19 ⟨v13,K,ks,rfl,ik4,sl19,al19,f19⟩
 obtain rfl:=Qu.eq gB.jY Ii (by omega) OV ik4
 have F19:=F18.trans f19
 simp (disch:=omega) only [go_sem,rB h19 F19]
 refine (EV _ 4 O2 R2 _ h19 (B7 h19 F19) L4 L2).mono ?_
 rintro _ h20 ⟨K,v15,ik5,rfl,s15,f20⟩
 obtain rfl:=Qu.eq gB.jY Ii (by omega) OV ik5
 rw [GB Ii,show ([0,2,1,3]:List Nat).map (GK L4)= [true,true,false,false] by decide+kernel] at s15
 have F20:=F19.trans f20
 simp (disch:=omega) only [go_sem,rB h20 F20]
 refine (NU _ 4 O2 R2 _ h20 (B7 h20 F20) L4 L2).mono ?_
 rintro _ h21 ⟨K,ik6,rfl,f21⟩
 obtain rfl:=Qu.eq gB.jY Ii (by omega) OV ik6
 rw [ED gB.jY Ii (by omega) ik6,show agR 4 L4 [0,2,1,3]=4 by decide+kernel]
 have F21:=F20.trans f21
 obtain ⟨Q2,hQ2⟩: ∃ Q,h21.next=Q:=⟨_,rfl⟩
 obtain ⟨h22,e22,n22,s22,f22⟩:=Qq hQ2 [0,1,2,3]
 obtain ⟨h23,e23,n23,s23,f23⟩:=Qq n22 [2,3,0,1]
 obtain ⟨h24,e24,n24,s24,f24⟩:=Qq n23 [1,2,3,0]
 obtain ⟨h25,e25,n25,s25,f25⟩:=Qq n24 [3,0,1,2]
 obtain ⟨h26,e26,n26,g26,o26,f26⟩:=iK n25 [.sl Q2 0 4 (.kn 4),aB 1,aB 1,.sl (Q2+1) 0 4 (.kn 4),aB 2,aB 1,.sl (Q2+1+1) 0 4 (.kn 4),aB 4,aB 1,.sl (Q2+1+1+1) 0 4 (.kn 4),aB 4,aB 1]
 have F2126:=(((f22.trans f23).trans f24).trans f25).trans f26
 have F1926:=(f20.trans f21).trans F2126
 have z22:SI h26 (.sl Q2 0 4 (.kn 4)) [0,1,2,3]:=s22.mono (((f23.trans f24).trans f25).trans f26)
 have z23:SI h26 (.sl (Q2+1) 0 4 (.kn 4)) [2,3,0,1]:=s23.mono ((f24.trans f25).trans f26)
 have z24:SI h26 (.sl (Q2+1+1) 0 4 (.kn 4)) [1,2,3,0]:=s24.mono (f25.trans f26)
 have z25:SI h26 (.sl (Q2+1+1+1) 0 4 (.kn 4)) [3,0,1,2]:=s25.mono f26
 have see:bJ (YN h26) [yM _ _ _ z22 1 1,yM _ _ _ z23 2 1,yM _ _ _ z24 4 1,yM _ _ _ z25 4 1] [([0,1,2,3],1,1),([2,3,0,1],2,1),([1,2,3,0],4,1),([3,0,1,2],4,1)]:=⟨⟨z22,rfl,rfl⟩,⟨z23,rfl,rfl⟩,⟨z24,rfl,rfl⟩,⟨z25,rfl,rfl⟩,trivial⟩
 have sl26:SV h26 (.sl (Q2+1+1+1+1) 0 4 (.kn 4)) 3 (sF [yM _ _ _ z22 1 1,yM _ _ _ z23 2 1,yM _ _ _ z24 4 1,yM _ _ _ z25 4 1]):=SV.all rfl (by omega) g26 _
 have see19:=Jw gB.jY Ii (by omega) (λ r hr=>ik4.lt hr) (al19.mono λ _ _ x=>x.mono F1926)
 have hks:=bJ.length al19
 simp (disch:=omega) only [go_sem,dT,hQ2,Ug,e22,n22,e23,n23,e24,n24,e25,n25,qC (v:= .sl Q2 0 4 (.kn 4)) rfl rfl,qC (v:= .sl (Q2+1) 0 4 (.kn 4)) rfl rfl,qC (v:= .sl (Q2+1+1) 0 4 (.kn 4)) rfl rfl,qC (v:= .sl (Q2+1+1+1) 0 4 (.kn 4)) rfl rfl,ajJ,e26]
 refine (Ex v13 _ ks _ _ _ h26 (sl19.mono F1926) sl26 see19 see (by rw [hks];decide) (show 4<1000000 by decide) (by decide) (by decide)).mono ?_
 rw [show decide (agU 4 L4 [0,2,1,3]= [([0,1,2,3],1,1),([2,3,0,1],2,1),([1,2,3,0],4,1),([3,0,1,2],4,1)])=true by decide+kernel]
 rintro _ h27 ⟨rfl,f27⟩
 obtain ⟨P4,hP4⟩: ∃ P,h27.next=P:=⟨_,rfl⟩
 obtain ⟨h28,e28,n28,s28,f28⟩:=mkB hP4 [true,true,false,false]
 have e28x:h27.new (.cells false [.bool true,.bool true,.bool false,.bool false])=h28:=e28
 simp (disch:=omega) only [go_sem,dT,hP4,XT,e28x]
 have F2028:=((f21.trans F2126).trans f27).trans f28
 refine (HJ v15 _ _ _ h28 (SB.mono s15 F2028) s28 (by decide) (by decide)).mono ?_
 rw [show decide ([true,true,false,false]= [true,true,false,false])=true by decide]
 rintro _ h29 ⟨rfl,f29⟩
 have i4:decide (((4:Nat):Int)=4)=true:=rfl
 have F29:=(F20.trans F2028).trans f29
 simp (disch:=omega) only [go_sem,dT,i4,rC h29 F29]
 clear see19 see sl26 al19 sl19 e22 e23 e24 e25 e26 e28 s15 s28 z22 z23 z24 z25 s22 s23 s24 s25
 refine (Ep _ 4 O3 R3 _ h29 (C7 h29 F29) LA L3e).mono ?_
 rintro _ h30 ⟨v20,K,ks,rfl,ik7,sl30,al30,f30⟩
 obtain rfl:=Qu.eq gC.jY Zr (by omega) aaP ik7
 have F30:=F29.trans f30
 simp (disch:=omega) only [go_sem,rC h30 F30]
 refine (EV _ 4 O3 R3 _ h30 (C7 h30 F30) LA L3e).mono ?_
 rintro _ h31 ⟨K,v22,ik8,rfl,s22,f31⟩
 obtain rfl:=Qu.eq gC.jY Zr (by omega) aaP ik8
 rw [GB Zr,show ([0,3,1,2]:List Nat).map (GK LA)= [true,true,false,false] by decide+kernel] at s22
 have F31:=F30.trans f31
 have see30:=Jw gC.jY Zr (by omega) (λ r hr=>ik7.lt hr) al30
 rw [show agU 4 LA [0,3,1,2]= [([0,1,2,3],1,1),([1,0,3,2],2,3),([0,2,3,1],3,4),([0,3,1,2],3,4)] by decide+kernel] at see30
 obtain ⟨k0,k1,k2,k3,rfl⟩: ∃ k0 k1 k2 k3,ks= [k0,k1,k2,k3]:=by
  have:=bJ.length al30
  match ks,this with
  | [a,b,c,d],_=>exact ⟨a,b,c,d,rfl⟩
 obtain ⟨c0,c1,c2,c3,_⟩:=see30
 have sl31:=sl30.mono f31
 obtain ⟨id,off,sh,hid,hc⟩:=SV.shape sl31 4 rfl (by omega)
 have l20:dW v20=some (aB (4:Nat)):=by unfold dW;rw [SV.len sl31 (n:=4) rfl (by omega)];rfl
 have x11:h31.cell id (off+1*3+1)=some (aB 2):=by
  show h31.cell id (off+4)=_
  rw [hc 4 (show 4<12 by decide)];show some (aB (k1.ord:Int))=_;rw [c1.ord];rfl
 have x12:h31.cell id (off+1*3+2)=some (aB 3):=by
  show h31.cell id (off+5)=_
  rw [hc 5 (show 5<12 by decide)];show some (aB (k1.size:Int))=_;rw [c1.size];rfl
 have x21:h31.cell id (off+Int.toNat 2*3+1)=some (aB 3):=by
  show h31.cell id (off+7)=_
  rw [hc 7 (show 7<12 by decide)];show some (aB (k2.ord:Int))=_;rw [c2.ord];rfl
 have x22:h31.cell id (off+Int.toNat 2*3+2)=some (aB 4):=by
  show h31.cell id (off+8)=_
  rw [hc 8 (show 8<12 by decide)];show some (aB (k2.size:Int))=_;rw [c2.size];rfl
 have x32:h31.cell id (off+Int.toNat 3*3+2)=some (aB 4):=by
  show h31.cell id (off+11)=_
  rw [hc 11 (show 11<12 by decide)];show some (aB (k3.size:Int))=_;rw [c3.size];rfl
 obtain ⟨P5,hP5⟩: ∃ P,h31.next=P:=⟨_,rfl⟩
 obtain ⟨h32,e32,n32,s32,f32⟩:=mkB hP5 [true,true,false,false]
 have e32x:h31.new (.cells false [.bool true,.bool true,.bool false,.bool false])=h32:=e32
 simp (disch:=omega) only [go_sem,dT,i4,l20,sh.ixa,x11,x12,x21,x22,x32,hP5,XT,e32x]
 refine (HJ v22 _ _ _ h32 (SB.mono s22 f32) s32 (by decide) (by decide)).mono ?_
 rw [show decide ([true,true,false,false]= [true,true,false,false])=true by decide]
 rintro _ h33 ⟨rfl,f33⟩
 have F33:=(F31.trans f32).trans f33
 simp (disch:=omega) only [go_sem,dT,i4,rA h33 F33]
 clear e32 s32 s22 x11 x12 x21 x22 x32 sh hc hid sl31 c0 c1 c2 c3
 refine (afM _ 2 3 O1 R1 _ h33 (A7 h33 F33) L3 L1).mono ?_
 rintro v h34 ⟨K,ik9,f34,hcen⟩
 obtain rfl:=Qu.eq gA.jY oY (by omega) Oq ik9
 obtain ⟨vr,O',R',rfl,gD⟩: ∃ vr O' R',v= .tup [vr,aB 0]/\GC (λ id=>id<h33.next) h34 vr 3 O' R' (Se (fS 3 (· ∈S3)) [1,2,0]):=by
  rcases hcen with ⟨hz,_⟩|⟨k,vr,O',R',hz,hk,e,g⟩
  ·rcases hz with hz|hz
   ·omega
   ·have:(([0,1,3]:List Nat).length:Int)=3:=rfl
    omega
  ·have:k=2:=by omega
   subst this
   exact ⟨vr,O',R',e,g⟩
 have F34:=F33.trans f34
 have EM:iL (Se (fS 3 (· ∈S3)) [1,2,0]) (Jz L3 [1,2,0]):=⟨by unfold Jz;exact oY.asc.filter _,λ x=>Sg oY⟩
 have hO:=SK gD.jY gD.isc EM
 rw [show (List.range 3).map (RN 3 (Jz L3 [1,2,0]))= [[0,1,2], [1], [2]] by decide+kernel] at hO
 subst hO
 obtain ⟨u4,w4,rfl,a4,b4,_,_⟩:=gD.sl
 have sO:SR h34 u4 [[0,1,2], [1], [2]]:=by
  obtain ⟨vO,vR,e,s1,_⟩:=gD.ch
  cases e
  exact s1
 obtain ⟨D,hD⟩: ∃ D,h34.next=D:=⟨_,rfl⟩
 obtain ⟨h35,e35,n35,g35,o35,f35⟩:=iK hD [aB 0,.aC,.aC]
 obtain ⟨h36,e36,n36,g36,o36⟩:=Ca h35 D [aB (3:Nat),u4,w4]
 have F3436:Fr h34 h36:=⟨by omega,λ id hid=>by rw [o36 id (by omega),o35 id (by omega)]⟩
 have F36:=F34.trans F3436
 simp (disch:=omega) only [go_sem,hD,e35,dS h35 D 0 (v:= aB (3:Nat)) (u:=u4) (w:=w4) rfl a4 b4,g35,dX,e36,rA h36 F36]
 refine (QU _ 1 3 O1 R1 _ h36 (A7 h36 F36) L3 L1).mono ?_
 rintro v h37 ⟨K,ik10,f37,hel⟩
 obtain rfl:=Qu.eq gA.jY oY (by omega) Oq ik10
 obtain ⟨v27,rfl,s27⟩: ∃ v27,v= .tup [v27,aB 0]/\SP h37 v27 [[0,2,1], [1,0,2], [2,1,0]]:=by
  rcases hel with ⟨hz,_⟩|⟨k,vl,hz,hk,e,g⟩
  ·rcases hz with hz|hz
   ·omega
   ·have:(([0,1,3]:List Nat).length:Int)=3:=rfl
    omega
  ·have:k=1:=by omega
   subst this
   rw [Qp oY,show (HA L3 (([0,1,3]:List Nat).getD 1 0)).map (λ r=>L3.getD r [])= [[0,2,1], [1,0,2], [2,1,0]] by decide+kernel] at g
   exact ⟨vl,e,g⟩
 have F37:=F36.trans f37
 obtain ⟨P6,hP6⟩: ∃ P,h37.next=P:=⟨_,rfl⟩
 obtain ⟨h38,e38,n38,s38,f38⟩:=Qq hP6 [1,0,2,3]
 have F38:=F37.trans f38
 simp (disch:=omega) only [go_sem,rC h37 F37,hP6,Ug,e38]
 refine (GX _ _ [1,0,2,3] 4 O3 R3 _ h38 (C7 h38 F38) s38 (by decide) LA L3e).mono ?_
 rintro v h39 ⟨K,ik11,f39,fs⟩
 obtain rfl:=Qu.eq gC.jY Zr (by omega) aaP ik11
 obtain rfl:v= .tup [aB 0,aB 18]:=by
  rcases fs with ⟨hp,_⟩|⟨_,hl,_⟩|⟨y,hy,Y,⟨i,hi,ei,e⟩|⟨hn,e⟩⟩
  ·exact absurd (show Sk [1,0,2,3]=0 by decide+kernel) hp
  ·exact absurd rfl hl
  ·have hy':y= [1,0,2,3]:=(Sy (show zi [1,0,2,3]=zi y from hy)).symm
   have hm:LA.getD i []∈LA:=bG hi
   rw [ei,hy'] at hm
   exact absurd hm (by decide)
  ·exact e
 have F39:=F38.trans f39
 have g39:h39.get D=bQ [aB (3:Nat),u4,w4]:=by rw [((f37.trans f38).trans f39).get D (by omega)];exact g36
 have c39:h39.cell D 1=some u4:=by rw [H.aG g39];rfl
 obtain ⟨P7,hP7⟩: ∃ P,h39.next=P:=⟨_,rfl⟩
 obtain ⟨h40,e40,n40,s40,f40⟩:=Qq hP7 [0,1,2]
 obtain ⟨h41,e41,n41,s41,f41⟩:=Qq n40 [1]
 obtain ⟨h42,e42,n42,s42,f42⟩:=Qq n41 [2]
 obtain ⟨h43,e43,n43,g43,o43,f43⟩:=iK n42 [.sl P7 0 3 (.kn 3),.sl (P7+1) 0 1 (.kn 1),.sl (P7+1+1) 0 1 (.kn 1)]
 have F4043:=((f41.trans f42).trans f43)
 have sr43:SR h43 (.sl (P7+1+1+1) 0 3 (.kn 3)) [[0,1,2], [1], [2]]:=⟨_,SV.all rfl (by omega) g43 _,s40.mono F4043,s41.mono (f42.trans f43),s42.mono f43,trivial⟩
 have F3943:=f40.trans F4043
 simp (disch:=omega) only [go_sem,dT,c39,hP7,Ir,e40,n40,Mo,e41,n41,e42,n42,UT,e43]
 refine (AS u4 _ _ _ h43 (sO.mono ((((F3436.trans f37).trans f38).trans f39).trans F3943)) sr43 (by decide) (by decide) (by decide) (by decide)).mono ?_
 rw [show decide (([[0,1,2], [1], [2]]:List (List Int))= [[0,1,2], [1], [2]])=true by decide]
 rintro _ h44 ⟨rfl,f44⟩
 obtain ⟨P8,hP8⟩: ∃ P,h44.next=P:=⟨_,rfl⟩
 obtain ⟨h45,e45,n45,s45,f45⟩:=Qq hP8 [0,2,1]
 obtain ⟨h46,e46,n46,s46,f46⟩:=Qq n45 [1,0,2]
 obtain ⟨h47,e47,n47,s47,f47⟩:=Qq n46 [2,1,0]
 obtain ⟨h48,e48,n48,g48,o48,f48⟩:=iK n47 [.sl P8 0 3 (.kn 3),.sl (P8+1) 0 3 (.kn 3),.sl (P8+1+1) 0 3 (.kn 3)]
 have F4548:=((f46.trans f47).trans f48)
 have sr48:SR h48 (.sl (P8+1+1+1) 0 3 (.kn 3)) [[0,2,1], [1,0,2], [2,1,0]]:=⟨_,SV.all rfl (by omega) g48 _,s45.mono F4548,s46.mono (f47.trans f48),s47.mono f48,trivial⟩
 have F3748:=(((f38.trans f39).trans F3943).trans f44).trans (f45.trans F4548)
 simp (disch:=omega) only [go_sem,dT,hP8,Ir,e45,n45,e46,n46,e47,n47,UT,e48]
 refine (DF v27 _ _ _ h48 (SR.mono (show SR h37 v27 [[0,2,1], [1,0,2], [2,1,0]] from s27) F3748) sr48 (by decide) (by decide) (by decide) (by decide)).mono ?_
 rw [show decide (([[0,2,1], [1,0,2], [2,1,0]]:List (List Int))= [[0,2,1], [1,0,2], [2,1,0]])=true by decide]
 rintro _ h49 ⟨rfl,f49⟩
 simp (disch:=omega) only [go_sem,dT]
 refine (YG h49).mono ?_
 rintro _ h50 ⟨rfl,f50⟩
 simp (disch:=omega) only [go_sem,dT]
 exact ((F07.trans F37).trans F3748).trans (f49.trans f50)
theorem GC.all {W:Nat->Prop} {h:H} {vc:V} {n:Nat} {O:LN} {R:qF} {G:List Nat->Prop} (g:GC W h vc n O R G):iL G (dG O R n 0 (bZ n))/\(dG O R n 0 (bZ n)).length<=5040:=by
 have e:=fC g.jY g.isc
 exact ⟨e.1,by rw [e.2];exact qN g⟩
theorem Rj {n:Nat} {a b x:List Nat} (A:bI n a) (B:bI n b) (X:bI n x):cV (bE a b) x=bE (cV a x) (cV b x):=by
 unfold cV
 rw [aV (X.inv.mul A) X (X.inv.mul B|>.mul X),←aV X (X.inv.mul B) X,←aV X X.inv B,gU X,eH B,←aV (X.inv.mul A) B X,aV X.inv A B]
theorem Ti {n:Nat} {g c x:List Nat} (G':bI n g) (C:bI n c) (X:bI n x):cV (cV g x) (cV c x)=cV (cV g c) x:=by
 have e:bE x (cV c x)=bE c x:=by
  unfold cV
  rw [←aV X (X.inv.mul C) X,←aV X X.inv C,gU X,eH C]
 rw [←sW G' X (oD C X),e,sW G' C X]
theorem Yw {n:Nat} {a b x:List Nat} (A:bI n a) (B:bI n b) (X:bI n x) (h:cV a x=cV b x):a=b:=by
 rw [←wG A X,h,wG B X]
theorem ZO {n:Nat} {S:LN} {x:List Nat} (hS: ∀ g∈S,bI n g) (X:bI n x) (y:List Nat):fS n (· ∈S.map λ g=>cV g x) y↔ ∃ g,fS n (· ∈S) g/\cV g x=y:=by
 constructor
 ·intro h
  induction h with
  |one=>exact ⟨bZ n,.one,(vI (bI.one n) X).2 rfl⟩
  |mul _ hg ih=>
   obtain ⟨a,ha,rfl⟩:=ih
   obtain ⟨g,hg',rfl⟩:=List.mem_map.1 hg
   exact ⟨bE a g,ha.mul hg',Rj (ha.dR hS) (hS g hg') X⟩
 ·rintro ⟨g,h,rfl⟩
  induction h with
  |one=>rw [(vI (bI.one n) X).2 rfl];exact .one
  |mul ha hg ih=>
   rw [Rj (fS.dR hS ha) (hS _ hg) X]
   exact ih.mul (List.mem_map.2 ⟨_,hg,rfl⟩)
theorem Zk {α:Type} {R:α->α->Prop} (anti: ∀ a b,R a b->R b a->a=b): ∀ {l m:List α},l.Perm m->l.Pairwise R->m.Pairwise R->l=m
 | [],m,p,_,_=>(List.Perm.nil_eq p)
 |a::l,m,p,hl,hm=>by
  match m,p,hm with
  | [],p,_=>exact absurd p.length_eq (by simp)
  |b::m,p,hm=>
   have e:a=b:=by
    have h1:a∈b::m:=p.mem_iff.1 (by simp)
    have h2:b∈a::l:=p.mem_iff.2 (by simp)
    rcases List.mem_cons.1 h1 with h1|h1
    ·exact h1
    ·rcases List.mem_cons.1 h2 with h2|h2
     ·exact h2.symm
     ·exact anti a b ((List.pairwise_cons.1 hl).1 b h2) ((List.pairwise_cons.1 hm).1 a h1)
   subst e
   rw [Zk anti (List.Perm.cons_inv p) (List.pairwise_cons.1 hl).2 (List.pairwise_cons.1 hm).2]
def pLe (a b:Nat×Nat):Prop:=a.1<b.1∨a.1=b.1/\a.2<=b.2
theorem ZH (a b:Nat×Nat) (h:pLe a b) (k:pLe b a):a=b:=by
 unfold pLe at h k
 refine Prod.ext ?_ ?_<;>omega
section
variable {n:Nat} {G H:List Nat->Prop} {L M:LN} {K K':List Nat} {x:List Nat}
noncomputable def NW (n:Nat) (G:List Nat->Prop) (L:LN) (r:Nat):Nat×Nat:=(mY (L.getD r []) n,(iG G L r).length)
theorem Qe.NW (k:Qe n G L K):(K.map (NW n G L)).Pairwise pLe:=by
 rw [List.pairwise_map]
 refine k.asc.imp ?_
 intro r s h
 unfold kLt at h
 unfold pLe Go.Proofs.YtddpkbicnolafaaGreat.NW
 simp only
 omega
variable (hG:yV n G) (E:iL G L) (k:Qe n G L K) (hH:yV n H) (F:iL H M) (k':Qe n H M K') (X:bI n x) (hx: ∀ y,H y↔ ∃ g,G g/\cV g x=y)
include hG E k hH F k' X hx
omit E k hH F k' in
theorem Qy {a b:List Nat} (A:bI n a) (B:bI n b):cj G a b↔cj H (cV a x) (cV b x):=by
 constructor
 ·rintro ⟨c,hc,rfl⟩
  exact ⟨cV c x,(hx _).2 ⟨c,hc,rfl⟩,Ti A (hG.dR hc) X⟩
 ·rintro ⟨d,hd,e⟩
  obtain ⟨c,hc,rfl⟩:=(hx d).1 hd
  rw [Ti A (hG.dR hc) X] at e
  exact ⟨c,hc,Yw (oD A (hG.dR hc)) B X e⟩
noncomputable def psi (M:LN) (H:List Nat->Prop) (L:LN) (K':List Nat) (x:List Nat) (r:Nat):Nat:=K'.getD (yA H M K' (M.idxOf (cV (L.getD r []) x))) 0
omit hG k X in
theorem Ua {r:Nat} (hr:r<L.length):psi M H L K' x r∈K'/\cj H (M.getD (psi M H L K' x r) []) (cV (L.getD r []) x):=by
 have A:=rQ E hr
 have hm:H (cV (L.getD r []) x):=(hx _).2 ⟨_,A,rfl⟩
 obtain ⟨j1,j2⟩:=Er F hm
 obtain ⟨h1,h2⟩:=OO hH F k' j1
 refine ⟨bG h1,?_⟩
 have h2':cj H (M.getD (psi M H L K' x r) []) (M.getD (M.idxOf (cV (L.getD r []) x)) []):=h2
 rwa [j2] at h2'
omit k in
theorem afW {r:Nat} (hr:r<L.length):NW n H M (psi M H L K' x r)=NW n G L r:=by
 obtain ⟨s0,s1⟩:=Ua E hH F k' hx hr
 obtain ⟨s,hs⟩: ∃ s,psi M H L K' x r=s:=⟨_,rfl⟩
 rw [hs] at s0 s1 ⊢
 have hsl:=k'.lt s0
 have A:=gZ hG E hr
 have B:=gZ hH F hsl
 obtain ⟨c,hc,ec⟩:=s1
 unfold Go.Proofs.YtddpkbicnolafaaGreat.NW
 refine Prod.ext ?_ ?_
 ·show mY (M.getD s []) n=mY (L.getD r []) n
  rw [←Za B (hH.dR hc),ec,Za A X]
 ·show (iG H M s).length=(iG G L r).length
  have p:((iG G L r).map λ j=>M.idxOf (cV (L.getD j []) x)).Perm (iG H M s):=by
   refine (List.perm_ext_iff_of_nodup ?_ (sV s)).2 λ q=>?_
   ·rw [List.Nodup,List.pairwise_map]
    refine List.Pairwise.imp_of_mem ?_ (sV r)
    intro i j hi hj hne e
    obtain ⟨i1,_⟩:=fD.1 hi
    obtain ⟨j1,_⟩:=fD.1 hj
    have hi2:=Er F ((hx _).2 ⟨_,rQ E i1,rfl⟩)
    have hj2:=Er F ((hx _).2 ⟨_,rQ E j1,rfl⟩)
    have e2:cV (L.getD i []) x=cV (L.getD j []) x:=by rw [←hi2.2,e,hj2.2]
    exact hne (Jf E.nodup i1 j1 (Yw (gZ hG E i1) (gZ hG E j1) X e2))
   ·rw [List.mem_map,fD]
    constructor
    ·rintro ⟨j,hj,rfl⟩
     obtain ⟨j1,j2⟩:=fD.1 hj
     have hj2:=Er F ((hx _).2 ⟨_,rQ E j1,rfl⟩)
     refine ⟨hj2.1,?_⟩
     show cj H (M.getD s []) (M.getD _ [])
     rw [hj2.2]
     exact Dr hH B ⟨c,hc,ec⟩ ((Qy hG X hx A (gZ hG E j1)).1 j2)
    ·rintro ⟨q1,q2⟩
     obtain ⟨y,hy,ey⟩:=(hx _).1 (rQ F q1)
     obtain ⟨i1,i2⟩:=Er E hy
     refine ⟨L.idxOf y,fD.2 ⟨i1,?_⟩,?_⟩
     ·show cj G (L.getD r []) (L.getD _ [])
      rw [i2,Qy hG X hx A (hG.dR hy),ey]
      exact Dr hH (oD A X) (AJ hH B ⟨c,hc,ec⟩) q2
     ·rw [i2,ey]
      exact Jf F.nodup (Er F (rQ F q1)).1 q1 (Er F (rQ F q1)).2
  rw [←p.length_eq,nO]
theorem VM:(K.map (psi M H L K' x)).Perm K':=by
 refine (List.perm_ext_iff_of_nodup ?_ k'.nd).2 λ s=>?_
 ·rw [List.Nodup,List.pairwise_map]
  refine List.Pairwise.imp_of_mem ?_ k.nd
  intro r t hr ht hne e
  have r1:=k.lt hr
  have t1:=k.lt ht
  obtain ⟨a0,a1⟩:=Ua E hH F k' hx r1
  obtain ⟨_,b1⟩:=Ua E hH F k' hx t1
  rw [←e] at b1
  have B:=gZ hH F (k'.lt a0)
  have h2:=Dr hH (oD (gZ hG E r1) X) (AJ hH B a1) b1
  rw [←Qy hG X hx (gZ hG E r1) (gZ hG E t1)] at h2
  have hr2:=iE.1 (k.perm.mem_iff.1 hr)
  have ht2:=iE.1 (k.perm.mem_iff.1 ht)
  exact hne (Sn hG E r1 t1 hr2.2 ht2.2 h2 (Lg hG E t1))
 ·rw [List.mem_map]
  constructor
  ·rintro ⟨r,hr,rfl⟩
   exact (Ua E hH F k' hx (k.lt hr)).1
  ·intro hs
   have s1:=k'.lt hs
   obtain ⟨y,hy,ey⟩:=(hx _).1 (rQ F s1)
   obtain ⟨i1,i2⟩:=Er E hy
   obtain ⟨n1,n2⟩:=OO hG E k i1
   have hr:=bG (d:=0) n1
   obtain ⟨r,er⟩: ∃ r,K.getD (yA G L K (L.idxOf y)) 0=r:=⟨_,rfl⟩
   rw [er] at n2 hr
   have r1:=k.lt hr
   refine ⟨r,hr,?_⟩
   obtain ⟨a0,a1⟩:=Ua E hH F k' hx r1
   have n2':cj G (L.getD r []) (L.getD (L.idxOf y) []):=n2
   rw [i2,Qy hG X hx (gZ hG E r1) (hG.dR hy),ey] at n2'
   have h3:=Dr hH (gZ hH F (k'.lt a0)) a1 n2'
   have p1:=iE.1 (k'.perm.mem_iff.1 a0)
   have p2:=iE.1 (k'.perm.mem_iff.1 hs)
   exact Sn hH F p1.1 p2.1 p1.2 p2.2 h3 (Lg hH F s1)
theorem SN:K.map (NW n G L)=K'.map (NW n H M):=by
 refine Zk ZH ?_ k.NW k'.NW
 have e:K.map (NW n G L)=(K.map (psi M H L K' x)).map (NW n H M):=by
  rw [List.map_map]
  exact List.map_congr_left λ r hr=>(afW hG E hH F k' X hx (k.lt hr)).symm
 rw [e]
 exact (VM hG E k hH F k' X hx).map _
end
def IV (v:V) (id:Nat):Prop:= ∃ off m c,v= .sl id off m c
theorem jL.sp' {W:Nat->Prop} {h:H} {v:V} {ws:List V} {l:LN} (sv:SV h v 1 ws) (p:jL W h ws l):SP h v l:=by
 refine ⟨ws,sv,?_⟩
 have hl:=bJ.length p
 exact bJ.oT (by simpa using hl) λ i hi hj=>by
  have:=(bJ.get p i hi (by omega)).si
  simpa using this
theorem adM (u w:V) (l m:List Int) (h:H) (hu:SI h u l) (hw:SI h w m) (hl:(l.length:Int)<=2^63- 1) (hm:(m.length:Int)<=2^63- 1):
  Ev T Gl [u,w] h (λ v h'=>v= .bool true/\Fr h h'):=by
 refine aZ Hj rfl ?_
 simp (disch:=omega) only [go_sem,kN,aF]
 refine (YV h).mono ?_
 rintro _ h1 ⟨rfl,f1⟩
 simp (disch:=omega) only [go_sem]
 refine (JZ u l 5 h1 (hu.mono f1) (by omega) (by omega) (by omega)).mono ?_
 rintro _ h2 ⟨n,vg,gens,rfl,hn1,hn5,hg3,gP,sg,f2⟩
 obtain ⟨B,hB⟩: ∃ B,h2.next=B:=⟨_,rfl⟩
 obtain ⟨h3,e3,n3,g3,o3,f3⟩:=iK hB [aB 0,.aC]
 obtain ⟨h4,e4,n4,g4,o4⟩:=Ca h3 B [aB n,vg]
 have F24:Fr h2 h4:=⟨by omega,λ id hid=>by rw [o4 id (by omega),o3 id (by omega)]⟩
 have wg:vg.one=true/\eU vg vg=true:=by obtain ⟨ws,s,_⟩:=sg;exact ⟨s.bP.2.1,s.eU⟩
 have n4':h4.next=B+1:=by omega
 obtain ⟨h5,e5,n5,g5,o5,f5⟩:=iK n4' [w,aB 0]
 have ww:=SV.bP hw
 have F04:=(f1.trans f2).trans F24
 have F05:=F04.trans f5
 have hwi: ∀ id off len c,w= .sl id off len c->id<h.next:=SV.in hw
 have nh:=F04.next
 have tk5:Tk h5 (B+1) m:=⟨w,0,g5,hw.mono F05,λ id off len c e=>by have:=hwi _ _ _ _ e;have:=(f1.trans f2).next;omega,mJ _,by omega⟩
 have gB5:h5.get B=bQ [aB n,vg]:=by rw [o5 B (by omega)];exact g4
 have cB5:h5.cell B 0=some (aB n):=by rw [H.aG gB5];rfl
 simp (disch:=omega) only [go_sem,hB,e3,Sj h3 B 0 (v:= aB n) (u:=vg) rfl wg.1,g3,Lp,e4,DA ww.1 ww.2.1,Fh h4 (v:=w) (u:= aB 0) ww.2.1 rfl,n4',e5,cB5]
 refine (HF (B+1) m n h5 (by omega) (by omega) tk5 (by omega)).mono ?_
 rintro vx h6 ⟨ix,x,mp,hix,tk6,f6⟩
 have X:=mp.dR
 have sx:=mp.si
 have n6:=f6.next
 have F06:Fr h h6:=⟨by omega,λ id hid=>by rw [f6.get id (by omega) (by omega)];exact F05.get id hid⟩
 have gB6:h6.get B=bQ [aB n,vg]:=by rw [f6.get B (by omega) (by omega)];exact gB5
 have sg6:SP h6 vg gens:=sg.mono ⟨by omega,λ id hid=>by rw [f6.get id (by omega) (by omega),o5 id (by omega)];exact F24.get id hid⟩
 have r6:=Ra gB6
 simp (disch:=omega) only [go_sem,r6]
 refine (aiA vg n gens h6 hn1 (by omega) (by omega) sg6 gP).mono ?_
 rintro _ h7 ⟨vc,O,R,rfl,gc,f7⟩
 obtain ⟨E,hLl⟩:=gc.all
 obtain ⟨L,hL⟩: ∃ L,dG O R n 0 (bZ n)=L:=⟨_,rfl⟩
 rw [hL] at E hLl
 have hG:=gc.jY
 obtain ⟨u1,w1,rfl,a1,b1,_,_⟩:=gc.sl
 obtain ⟨C,hC⟩: ∃ C,h7.next=C:=⟨_,rfl⟩
 obtain ⟨h8,e8,n8,g8,o8,f8⟩:=iK hC [aB 0,.aC,.aC]
 obtain ⟨h9,e9,n9,g9,o9⟩:=Ca h8 C [aB n,u1,w1]
 have n7:=f7.next
 have F79:Fr h7 h9:=⟨by omega,λ id hid=>by rw [o9 id (by omega),o8 id (by omega)]⟩
 have F69:=f7.trans F79
 have gc9:=gc.mono F79
 have rC: ∀ hh,Fr h9 hh->hh.row C 0 3=some [aB n,u1,w1]:=λ hh f=>aX (by rw [f.get _ (by omega)];exact g9)
 have cB0: ∀ hh,Fr h9 hh->hh.cell B 0=some (aB n):=λ hh f=>by rw [(F69.trans f).cell (by omega),H.aG gB6];rfl
 have cB1: ∀ hh,Fr h9 hh->hh.cell B 1=some vg:=λ hh f=>by rw [(F69.trans f).cell (by omega),H.aG gB6];rfl
 have F09:=F06.trans F69
 have sg9:=sg6.mono F69
 have lg:=sg9.lens
 rw [nO] at lg
 obtain ⟨id,off,ws,sh,hid,hwl,hc,hall⟩:=sg9.open
 rw [nO] at sh hid hwl hc
 have sx9:=sx.mono F69
 have evx:=SV.eU sx
 simp (disch:=omega) only [go_sem,hC,e8,dS h8 C 0 (v:= aB n) (u:=u1) (w:=w1) rfl a1 b1,g8,dX,e9]
 refine bV (λ vs hh=> ∃ vm,(∃ g:Nat->V,vs= [g 0,g 1,g 2,.bool true,.ptr B 0,g 5,.ptr C 0,vm,g 8,g 9,g 10,g 11,g 12,g 13,g 14,g 15,g 16,g 17,g 18])/\SP hh vm (gens.map λ g=>cV g x)/\Fr h9 hh) ?_ ?_
 ·refine aJ (λ k' vars hh=> ∃ (i:Nat) (vm:V) (wm:List V),(∃ g:Nat->V,vars= [g 0,g 1,g 2,.bool true,.ptr B 0,vx,.ptr C 0,vm,aB i,g 9,g 10,g 11,g 12,g 13,g 14,g 15,g 16,g 17,g 18])/\i<=gens.length/\eL hh vm 1 wm h9.next/\jL (IV vm) hh wm ((gens.take i).map λ g=>cV g x)/\Fr h9 hh/\k'=gens.length-i) gens.length
   ⟨0,.aC, [],aA rfl,mJ _,eL.aC _ _ _,trivial,Fr.refl h9,rfl⟩ ?_
  rintro k' vars h10 ⟨i,vm,wm,⟨g,rfl⟩,hi,ow,pvs,F,rfl⟩
  by_cases hlt:(i:Int)<(gens.length:Int)
  case neg=>
   have d1:=gJ hlt
   obtain rfl:i=gens.length:=by omega
   simp (disch:=omega) only [go_sem,cB1 h10 F,lg,d1]
   rw [List.take_length] at pvs
   exact ⟨vm,aA rfl,jL.sp' ow.sv pvs,F⟩
  have d1:=mG hlt
  have hi':i<gens.length:=by omega
  have cell: ∀ hh,Fr h9 hh->hh.cell id (off+i)=some (ws.getD i .undef):=λ hh f=>by rw [f.cell (hid (by omega)),hc i hi']
  have s0:=Lj hall hi'
  have A:bI n (gens.getD i []):=gP _ (bG hi')
  have evm:=SV.eU ow.sv
  generalize ws.getD i .undef=va at cell s0
  have eva:=SV.eU s0
  simp (disch:=omega) only [go_sem,cB1 h10 F,lg,d1,sh.ixa,cell h10 F]
  have fb:Fr h10 (H.mk h10.tr (h10.next+14)):=(Fr.refl h10).bF (by omega)
  have Fb:=F.trans fb
  refine (NB vx n x _ (by omega) X (sx9.mono Fb)).mono ?_
  rintro v1 h11 nw
  have f11:=nw.fr
  have F11:=Fb.trans f11
  have s1:=(nw.pv (W:=λ _=>False) (λ h=>h)).si
  have ev1:=SV.eU s1
  simp (disch:=omega) only [go_sem,cB1 h11 F11,cell h11 F11,evx,evm,eva,wg.2]
  refine (Bg v1 va (eA x) (gens.getD i []) h11 (by rw [X.inv.len];omega) s1 (s0.mono F11) (λ j hj=>by rw [A.len];exact X.inv.eS (by rw [←X.inv.len];exact hj))).mono ?_
  rintro v2 h12 ⟨s2,f12,l12⟩
  have F12:=F11.trans f12
  have XA:=X.inv.mul A
  have ev2:=SV.eU s2
  simp (disch:=omega) only [go_sem,cB1 h12 F12,cell h12 F12,evx,evm,eva,wg.2,ev1,ev2]
  refine (Bg v2 vx _ x h12 (by rw [XA.len];omega) s2 (sx9.mono F12) (λ j hj=>by rw [X.len];exact XA.eS (by rw [←XA.len];exact hj))).mono ?_
  rintro v3 h13 ⟨s3,f13,l13⟩
  have F13:=F12.trans f13
  have ev3:=SV.eU s3
  have c3:=UW s3
  simp (disch:=omega) only [go_sem,cB1 h13 F13,cell h13 F13,evx,evm,eva,wg.2,ev1,ev2,ev3,dN _ (z:= .aC) c3.1 c3.2]
  obtain ⟨hd,hde⟩: ∃ hd:H,hd=H.mk ((H.mk h13.tr (h10.next+11)).new (Ob.cells false [v3])).tr h13.next:=⟨_,rfl⟩
  rw [←hde]
  obtain ⟨Q,hQ⟩: ∃ Q,h10.next+11=Q:=⟨_,rfl⟩
  rw [hQ] at hde ⊢
  have gd:hd.get Q=bQ [v3]:=by rw [hde];exact H.aQ (H.mk h13.tr Q) _
  have od: ∀ k,k≠Q->hd.get k=h13.get k:=λ k hk=>by rw [hde];exact H.bM (H.mk h13.tr Q) hk _
  have nd:hd.next=h13.next:=by rw [hde]
  have n10:h10.next+14<=h11.next:=f11.next
  have n11:=f12.next
  have n12:=f13.next
  have f1013:Fr h10 h13:=((fb.trans f11).trans f12).trans f13
  have fd:Fr h10 hd:=⟨by omega,λ k hk=>by rw [od k (by omega)];exact f1013.get k hk⟩
  have owd:=ow.fr fd
  have pvd:jL (IV vm) hd wm ((gens.take i).map λ g=>cV g x):=jL.fx pvs (Fx.of fd)
  have hvin:=λ id off m c (e:vm=V.sl id off m c)=>ow.in id off m c e
  have Y:bI n (cV (gens.getD i []) x):=oD A X
  have p3:PV (IV vm) hd v3 (cV (gens.getD i []) x):=by
   have q:PV (λ k=>k=Q∨IV vm k) h13 v3 (cV (gens.getD i []) x):=by
    refine ⟨s3,?_⟩
    cases v3 with
    |sl k off m c=>
     have:=l13 _ _ _ _ rfl
     rintro (h|⟨off',m',c',e⟩)
     ·omega
     ·have:=(hvin _ _ _ _ e).1;omega
    |_=>trivial
   exact PV.go q ⟨by omega,λ k _ hk=>od k (λ e=>hk (.inl e))⟩ (λ k _ hk=> .inr hk)
  have hlw:=bJ.length pvs
  rw [nO,List.length_take] at hlw
  obtain ⟨h14,a14,p14⟩:=owd.push (bytes:=24) (SV.one (by omega) gd (.kn 1)) (n:=i) (m:=1) (by omega) rfl (by omega) (by omega) (by omega)
  have n14:=p14.next
  have F14:Fr h9 h14:=xU.frb p14 (F.trans fd) owd
  simp (disch:=omega) only [go_sem,a14,cB1 h14 F14,cell h14 F14,evx,eva,wg.2,ev1,ev2,ev3]
  rw [iJ i]
  have x14:Fx (IV vm) hd h14:=p14.fx λ k off m c e=>⟨off,m,c,e⟩
  have hw14: ∀ k,k<hd.next->IV (.sl hd.next 0 (i+1) (.un 1)) k->IV vm k:=λ k hk ⟨off,m,c,e⟩=>by cases e;omega
  have e9:=F.next
  refine ⟨gens.length-(i+1),by omega,i+1,_,_,aA rfl,by omega,p14.own (by omega) rfl (by omega),?_,F14,rfl⟩
  rw [iV [] hi',List.map_append]
  exact (jL.go pvd x14 hw14).append (jL.one (PV.go p3 x14 hw14))
 rintro vars h10 ⟨vm,⟨g,rfl⟩,sm,F⟩
 have mP: ∀ g∈gens.map (λ g=>cV g x),bI n g:=λ g hg=>by
  obtain ⟨a,ha,rfl⟩:=List.mem_map.1 hg
  exact oD (gP a ha) X
 simp (disch:=omega) only [go_sem,cB0 h10 F]
 refine (Ec vm n _ h10 hn1 (by omega) (by rw [nO];omega) sm mP).mono ?_
 rintro _ h11 ⟨vd,O',R',rfl,gd,f11⟩
 obtain ⟨E',hLl'⟩:=gd.all
 obtain ⟨M,hM⟩: ∃ M,dG O' R' n 0 (bZ n)=M:=⟨_,rfl⟩
 rw [hM] at E' hLl'
 have hH:=gd.jY
 obtain ⟨u2,w2,rfl,a2,b2,_,_⟩:=gd.sl
 obtain ⟨D,hD⟩: ∃ D,h11.next=D:=⟨_,rfl⟩
 obtain ⟨h12,e12,n12,g12,o12,f12⟩:=iK hD [aB 0,.aC,.aC]
 obtain ⟨h13,e13,n13,g13,o13⟩:=Ca h12 D [aB n,u2,w2]
 have n11:=f11.next
 have F1113:Fr h11 h13:=⟨by omega,λ id hid=>by rw [o13 id (by omega),o12 id (by omega)]⟩
 have F913:=(F.trans f11).trans F1113
 simp (disch:=omega) only [go_sem,hD,e12,dS h12 D 0 (v:= aB n) (u:=u2) (w:=w2) rfl a2 b2,g12,dX,e13,rC h13 F913]
 refine (Ep _ n O R _ h13 (gc9.mono F913) L hL).mono ?_
 rintro _ h14 ⟨v10,K,ks,rfl,ik,sl14,al14,f14⟩
 have rD:h14.row D 0 3=some [aB n,u2,w2]:=aX (by rw [f14.get D (by omega)];exact g13)
 simp (disch:=omega) only [go_sem,rD]
 refine (Ep _ n O' R' _ h14 ((gd.mono F1113).mono f14) M hM).mono ?_
 rintro _ h15 ⟨v12,K',ks',rfl,ik',sl15,al15,f15⟩
 have hsame:=SN hG E ik hH E' ik' X (ZO gP X)
 have hk1:=bJ.length al14
 have hk2:=bJ.length al15
 have hkk:K.length=K'.length:=by
  have:=congrArg List.length hsame
  rwa [nO,nO] at this
 have kl:K.length<=5040:=Nat.le_trans (by rw [ik.perm.length_eq];exact qE _) hLl
 have sl14':=sl14.mono f15
 have l10:dW v10=some (aB (K.length:Int)):=by unfold dW;rw [SV.len sl14' (n:=K.length) (by rw [iU,hk1]) (by omega)];rfl
 have l12:dW v12=some (aB (K.length:Int)):=by unfold dW;rw [SV.len sl15 (n:=K.length) (by rw [iU,hk2,hkk]) (by omega)];rfl
 obtain ⟨id1,off1,sh1,hid1,hc1⟩:=SV.shape sl14' K.length (by rw [iU,hk1]) (by omega)
 obtain ⟨id2,off2,sh2,hid2,hc2⟩:=SV.shape sl15 K.length (by rw [iU,hk2,hkk]) (by omega)
 have d0:decide ((0:Int)≠0)=false:=rfl
 have dl:decide ((K.length:Int)≠(K.length:Int))=false:=decide_eq_false (by simp)
 simp (disch:=omega) only [go_sem,d0,l10,l12,dl]
 have F015:=((F09.trans F913).trans f14).trans f15
 refine aJ (λ k' vars hh=> ∃ (i:Nat),(∃ g:Nat->V,vars= [g 0,g 1,g 2,.bool true,g 4,g 5,g 6,g 7,g 8,g 9,v10,g 11,v12,g 13,aB i,g 15,g 16,g 17,g 18])/\i<=K.length/\Fr h15 hh/\k'=K.length-i) K.length
  ⟨0,aA rfl,mJ _,Fr.refl h15,rfl⟩ ?_
 rintro k' vars h16 ⟨i,⟨g,rfl⟩,hi,f16,rfl⟩
 by_cases hlt:(i:Int)<(K.length:Int)
 case neg=>
  have d1:=gJ hlt
  simp (disch:=omega) only [go_sem,l10,d1]
  exact F015.trans f16
 have d1:=mG hlt
 have hi':i<K.length:=by omega
 obtain ⟨_,y2,y3⟩:=Mf (ks:=ks) (i:=i) (by omega)
 obtain ⟨_,z2,z3⟩:=Mf (ks:=ks') (i:=i) (by omega)
 have k1:=bJ.get al14 i (by omega) hi'
 have k2:=bJ.get al15 i (by omega) (by omega)
 have eo:NW n (fS n (· ∈gens)) L (K.getD i 0)=NW n (fS n (· ∈gens.map λ g=>cV g x)) M (K'.getD i 0):=by
  have:=congrArg (λ l=>l[i]?) hsame
  simp only [List.getElem?_map,iH hi',iH (show i<K'.length by omega),Option.map_some,Option.some.injEq] at this
  rw [List.getD,List.getD,iH hi',iH (show i<K'.length by omega)]
  exact this
 have eo1:ks[i].ord=ks'[i].ord:=by
  rw [k1.ord,k2.ord]
  have:=congrArg Prod.fst eo
  rwa [List.getD,List.getD,iH hi',iH (show i<K'.length by omega)] at this
 have eo2:ks[i].size=ks'[i].size:=by
  rw [k1.size,k2.size]
  have:=congrArg Prod.snd eo
  rwa [List.getD,List.getD,iH hi',iH (show i<K'.length by omega)] at this
 have lk1:=iU ks
 have lk2:=iU ks'
 have x1:h16.cell id1 (off1+i*3+1)=some (aB (ks[i].ord:Int)):=by rw [f16.cell (hid1 (by omega)),Nat.add_assoc,hc1 _ (by omega)];exact y2
 have x2:h16.cell id1 (off1+i*3+2)=some (aB (ks[i].size:Int)):=by rw [f16.cell (hid1 (by omega)),Nat.add_assoc,hc1 _ (by omega)];exact y3
 have x3:h16.cell id2 (off2+i*3+1)=some (aB (ks[i].ord:Int)):=by rw [f16.cell (hid2 (by omega)),Nat.add_assoc,hc2 _ (by omega),eo1];exact z2
 have x4:h16.cell id2 (off2+i*3+2)=some (aB (ks[i].size:Int)):=by rw [f16.cell (hid2 (by omega)),Nat.add_assoc,hc2 _ (by omega),eo2];exact z3
 generalize ks[i].ord=p at x1 x3
 generalize ks[i].size=q at x2 x4
 have dp:decide ((p:Int)≠(p:Int))=false:=decide_eq_false (by simp)
 have dq:decide ((q:Int)≠(q:Int))=false:=decide_eq_false (by simp)
 simp (disch:=omega) only [go_sem,l10,d1,sh1.ixa,sh2.ixa,x1,x2,x3,x4,dp,dq]
 rw [iJ i]
 exact ⟨K.length-(i+1),by omega,i+1,aA rfl,by omega,f16.bF (by omega),rfl⟩
end Go.Proofs.YtddpkbicnolafaaGreat
