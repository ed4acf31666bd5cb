/- A chain, as a law is given it: a number, lists of numbers, lists of lists of numbers. -/
import Derived.Test.YtddpkbicnolafaaGreatAy34
import Derived.Deep.Strs
namespace Go.Ay
open Go Go.RowKit Go.WideShapes Go.ChangeShapes Go.ChangeAt
section
variable {os:List Ob} {ps:List (Nat×Nat×Nat)} {t e q s:TypeId} {v:Value}
section
variable {P:Program} {W:World}
variable {Hh:Type} {enc:TypeId×Value->Hh} {base:Nat} {held:Bool}
theorem AF {V0:Nat->Value}{ws:List V}{a:Addr}{len cap:Nat}(h3:len<=cap)(hc:0<cap-> ∃v,W.cell? a=some v)(hv: ∀i,i<len->W.cell? (a.add i)=some (V0 i))(hwl:ws.length=len)
    (I:Ins P W os ps) (v1:aZ (VR (Vf ps)) ws ((List.range len).map V0)) (o1: ∀w∈ws,w.one=true):
  ∃os' ps' u,Ins P W (os++os') (ps++ps')/\VR (Vf (ps++ps')) u (.slice (some a) len cap)/\SV (Go.Ay.H.mX (os++os')) u 1 ws/\u.one=true/\Kn u:=by
 by_cases h0:cap=0
 ·subst h0
  have:len=0:=by omega
  subst this
  have:ws= []:=List.length_eq_zero_iff.1 hwl
  subst this
  exact⟨[], [],.emp a,by simpa using I,rfl,SV.emp _ a 1,rfl,λ_ _ _ _ e=>by cases e⟩
 obtain⟨v,hv0⟩:=hc (by omega)
 obtain⟨ab,ao,asp⟩:=a
 obtain⟨hsp,c,el,fr,hcells,hfirst⟩:=Ju hv0
 simp only at hsp hcells hfirst
 subst hsp
 have hcell: ∀i,i<len->c[ao+i]? =some (V0 i):=λi hi=>Zp hcells (hv i hi)
 have hle:ao+len<=c.size:=by
  have h1:=(Array.getElem?_eq_some_iff.1 hfirst).1
  cases len with
  |zero=>omega
  |succ k=>
   have:=(Array.getElem?_eq_some_iff.1 (hcell k (by omega))).1;omega
 have I2:Ins P W (os++ [.cells true ws]) (ps++ [(ab,ao,c.size)]):=I.push ⟨c,el,fr,hcells,rfl,by rw[hwl];exact hle,λi v hv=>by
  have hi:=(List.getElem?_eq_some_iff.1 hv).1;rw[hwl] at hi;have hg:=v1.get i (by omega) (by simpa using hi);rw[List.getElem_map,List.getElem_range] at hg;have e1:ws[i]'(by omega)=v:=(List.getElem?_eq_some_iff.1 hv).2;rw[e1] at hg
  exact⟨o1 v (by rw[←e1];exact List.getElem_mem _),_,hcell i hi,hg⟩,λh=>by cases h⟩
 refine⟨[.cells true ws], [(ab,ao,c.size)],.sl os.length 0 len (.kn cap),I2,⟨(ab,ao,c.size),cap,0,?_,rfl,h3,λ_=>rfl,rfl,rfl⟩,?_,rfl,λ_ _ _ _ e=>by cases e;exact⟨_,rfl,h3⟩⟩
 ·simp only[Vf]
  rw[I.len,List.getElem?_append_right (gV _),Nat.sub_self];rfl
 ·exact SV.all (by rw[hwl,Nat.mul_one]) (by rw[qK,pW];simp) (by rw[pY,List.getElem?_append_right (gV _),Nat.sub_self];rfl) _
theorem Uv {fuel:Nat}{x:DataW Hh×List MemPlace}(ht:P.underlying t=some (.slice e))(he:P.underlying e=some (.slice q))(hq:P.underlying q=some (.int .i64))(hce:P.cellsOf e=1)(hcq:P.cellsOf q=1)
  (hd:DataW.trod enc P W base (λ_=>true) held fuel t [v]=some x)   (I:Ins P W os ps):
  ∃os' ps' u ll,Ins P W (os++os') (ps++ps')/\VR (Vf (ps++ps')) u v/\SR (Go.Ay.H.mX (os++os')) u ll/\u.one=true/\Kn u:=by
 rcases Go.Deep.open_int_rows ht he hq hce hcq hd with ⟨h1,h2⟩|⟨a,len,cap,A,L,C,Z,h1,_,h3,h4,_,hrow⟩
 ·simp only[List.cons.injEq,and_true] at h1
  subst h1
  exact⟨[], [],.aC, [],by simpa using I,rfl,SR.aC _,rfl,λ_ _ _ _ e=>by cases e⟩
 ·simp only[List.cons.injEq,and_true] at h1
  subst h1
  obtain⟨os1,ps1,ws,I1,v1,s1,o1⟩:=Rj (P:=P) len (λr hr=>by
   obtain⟨_,a2,_,a4,_,a6,a7⟩:=hrow r (by omega)
   exact⟨a2,a4,a6,λa' ha'=>(a7 a' ha').2⟩) I
  have hwl:ws.length=len:=by rw[v1.length];simp
  obtain⟨os2,ps2,u,I2,vu,su,ou,ku⟩:=AF h3 (λh0=>⟨_,by have:=(hrow 0 h0).1;rwa [show a.add 0=a by simp [Addr.add]] at this⟩) (λi hi=>(hrow i (by omega)).1) hwl I1 v1 (λw hw=>(o1 w hw).1)
  refine⟨os1++os2,ps1++ps2,u,(List.range len).map λr=>(Z r).take (L r),by rw[←List.append_assoc,←List.append_assoc];exact I2,by rw[←List.append_assoc];exact vu,⟨ws,by rw[←List.append_assoc];exact su,?_⟩,ou,ku⟩
  rw[←List.append_assoc]
  exact s1.mono λa b r=>r.mono (Ins.fr _ _)
theorem Vb {e q s:TypeId}{V0:Nat->Value}(he:P.underlying e=some (.slice q))(hq:P.underlying q=some (.slice s))(hs:P.underlying s=some (.int .i64))(hcq:P.cellsOf q=1)(hcs:P.cellsOf s=1): ∀(n:Nat),(∀r,r<n-> ∃fuel x,DataW.trod enc P W base (λ_=>true) held fuel e [V0 r]=some x)->
  ∀{os:List Ob} {ps:List (Nat×Nat×Nat)},Ins P W os ps-> ∃os' ps' ws lll,Ins P W (os++os') (ps++ps')/\aZ (VR (Vf (ps++ps'))) ws ((List.range n).map V0)/\aZ (SR (Go.Ay.H.mX (os++os'))) ws lll/\ ∀w∈ws,w.one=true/\Kn w
 |0,_,os,ps,I=>⟨[], [], [], [],by simpa using I,trivial,trivial,by simp⟩
 |n+1,h,os,ps,I=>by
  obtain⟨os1,ps1,ws,lll,I1,v1,s1,o1⟩:=Vb he hq hs hcq hcs n (λr hr=>h r (by omega)) I;obtain⟨fu,x,hx⟩:=h n (by omega);obtain⟨os2,ps2,u,ll,I2,v2,s2,o2,kn2⟩:=Uv he hq hs hcq hcs hx I1;rw[List.append_assoc,List.append_assoc] at I2;refine⟨os1++os2,ps1++ps2,ws++ [u],lll++ [ll],I2,?_,?_,?_⟩
  ·rw[List.range_succ,List.map_append,←List.append_assoc ps]
   exact aZ.snoc (v1.mono λa b r=>VR.mono (Ci _ _) _ _ r) v2
  ·rw[←List.append_assoc os]
   exact aZ.snoc (s1.mono λa b r=>r.mono (Ins.fr _ _)) (by rw[List.append_assoc];rw[List.append_assoc] at s2;exact s2)
  ·intro w hw
   rcases Bw.1 hw with hw|hw
   ·exact o1 w hw
   ·rw[List.mem_singleton.1 hw];exact⟨o2,kn2⟩
theorem KQ {fuel:Nat}{x:DataW Hh×List MemPlace}(ht:P.underlying t=some (.slice e))(he:P.underlying e=some (.slice q))(hq:P.underlying q=some (.slice s))(hs:P.underlying s=some (.int .i64))(hce:P.cellsOf e=1)(hcq:P.cellsOf q=1)(hcs:P.cellsOf s=1)
  (hd:DataW.trod enc P W base (λ_=>true) held fuel t [v]=some x)   (I:Ins P W os ps):
  ∃os' ps' u lll,Ins P W (os++os') (ps++ps')/\VR (Vf (ps++ps')) u v/\ ∃ws,SV (Go.Ay.H.mX (os++os')) u 1 ws/\aZ (SR (Go.Ay.H.mX (os++os'))) ws lll/\ ∀w∈ws,Kn w:=by
 rcases Go.Deep.open_slice1 ht hce hd with ⟨h1,h2⟩|⟨a,len,cap,m,n,V0,D,Pl,h1,_,h3,h4,hm,_,hx⟩
 ·simp only[List.cons.injEq,and_true] at h1
  subst h1
  exact⟨[], [],.aC, [],by simpa using I,rfl, [],SV.aC _ 1,trivial,by simp⟩
 ·simp only[List.cons.injEq,and_true] at h1
  subst h1
  simp only[if_true] at hm
  subst hm
  obtain⟨os1,ps1,ws,lll,I1,v1,s1,o1⟩:=Vb (P:=P) he hq hs hcq hcs len (λr hr=>⟨_,_,(hx r (by omega)).2⟩) I
  have hwl:ws.length=len:=by rw[v1.length];simp
  obtain⟨os2,ps2,u,I2,vu,su,ou,ku⟩:=AF h3 (λh0=>⟨_,by have:=(hx 0 h0).1;rwa [show a.add 0=a by simp [Addr.add]] at this⟩) (λi hi=>(hx i (by omega)).1) hwl I1 v1 (λw hw=>(o1 w hw).1)
  refine⟨os1++os2,ps1++ps2,u,lll,by rw[←List.append_assoc,←List.append_assoc];exact I2,by rw[←List.append_assoc];exact vu,ws,by rw[←List.append_assoc];exact su,?_,λw hw=>(o1 w hw).2⟩
  rw[←List.append_assoc]
  exact s1.mono λa b r=>r.mono (Ins.fr _ _)
theorem Wn {f0 f1 f2:Field}{r:Reach}{b0:Nat}{d:DataW Hh}{q:List MemPlace}(ht:P.underlying t=some (.struct #[f0,f1,f2]))
  (ho0:f0.offset=0) (ho1:f1.offset=1) (ho2:f2.offset=2) (hc0:P.cellsOf f0.type=1) (hc1:P.cellsOf f1.type=1) (hc2:P.cellsOf f2.type=1) (hct:P.cellsOf t=3) (hcs:P.cellTypes P.depth t=some [f0.type,f1.type,f2.type])
  (hval:Value.okWide P W r b0 t v) (hd:DataW.Trod enc P W base (λ_=>true) held t v d q):
  ∃c0 c1 c2 n y1 y2,v= .agg #[c0,c1,c2]/\Cell.okWide P W r b0 f0.type c0/\DataW.trod enc P W base (λ_=>true) held n f1.type [c1]=some y1/\DataW.trod enc P W base (λ_=>true) held n f2.type [c2]=some y2:=by
 obtain⟨fuel,hd⟩:=hd
 simp only[Value.okWide,ht] at hval
 obtain⟨cs,rfl,hsz,ts,hts,_,hok⟩:=hval
 rw[hct] at hsz
 rw[hcs] at hts
 cases hts
 obtain⟨l⟩:=cs
 match l,hsz with
 | [c0,c1,c2],_=>
  obtain⟨y0,y1,y2,n,_,_,h0,h1,h2⟩:=Go.Deep.trod_struct3 ht hd
  rw[ho1,hc1] at h1
  rw[ho2,hc2] at h2
  obtain⟨t0,e0,k0⟩:=hok 0 c0 rfl
  cases e0
  exact⟨c0,c1,c2,n,y1,y2,rfl,k0,h1,h2⟩
 | [],h=>cases h
 | [_],h=>cases h
 | [_,_],h=>cases h
 |_::_::_::_::_,h=>simp at h
theorem LD {e1 q1:TypeId}{f0 f1 f2:Field}{r:Reach}{b0:Nat}{d:DataW Hh}{qq:List MemPlace}(ht:P.underlying t=some (.struct #[f0,f1,f2]))
  (ho0:f0.offset=0) (ho1:f1.offset=1) (ho2:f2.offset=2) (hc0:P.cellsOf f0.type=1) (hc1:P.cellsOf f1.type=1) (hc2:P.cellsOf f2.type=1) (hct:P.cellsOf t=3) (hcs:P.cellTypes P.depth t=some [f0.type,f1.type,f2.type])
  (hu0:P.underlying f0.type=some (.int .i64)) (hu1:P.underlying f1.type=some (.slice e1)) (he1:P.underlying e1=some (.slice q1)) (hq1:P.underlying q1=some (.int .i64)) (hce1:P.cellsOf e1=1) (hcq1:P.cellsOf q1=1)
  (hu2:P.underlying f2.type=some (.slice e)) (he:P.underlying e=some (.slice q)) (hq:P.underlying q=some (.slice s)) (hs:P.underlying s=some (.int .i64)) (hce:P.cellsOf e=1) (hcq:P.cellsOf q=1) (hcs':P.cellsOf s=1)
  (hval:Value.okWide P W r b0 t v) (hd:DataW.Trod enc P W base (λ_=>true) held t v d qq)   (I:Ins P W os ps):
  ∃os' ps' n u w ll lll,Ins P W (os++os') (ps++ps')/\VR (Vf (ps++ps')) (.agg [.int .i64 n,u,w]) v/\SR (Go.Ay.H.mX (os++os')) u ll/\ ∃ws,SV (Go.Ay.H.mX (os++os')) w 1 ws/\aZ (SR (Go.Ay.H.mX (os++os'))) ws lll/\ ∀w∈ws,Kn w:=by
 obtain⟨c0,c1,c2,fu,y1,y2,rfl,k0,h1,h2⟩:=Wn ht ho0 ho1 ho2 hc0 hc1 hc2 hct hcs hval hd
 obtain⟨n,rfl,hn⟩:=HP hu0 k0
 obtain⟨os1,ps1,u,ll,I1,v1,s1,_,_⟩:=Uv hu1 he1 hq1 hce1 hcq1 h1 I
 obtain⟨os2,ps2,w,lll,I2,v2,ws,s2,a2,k2⟩:=KQ hu2 he hq hs hce hcq hcs' h2 I1
 refine⟨os1++os2,ps1++ps2,n,u,w,ll,lll,by rw[←List.append_assoc,←List.append_assoc];exact I2,?_,?_,ws,by rw[←List.append_assoc];exact s2,by rw[←List.append_assoc];exact a2,k2⟩
 ·rw[←List.append_assoc]
  exact⟨#[.int .i64 n,c1,c2],rfl,rfl,VR.mono (Ci _ _) _ _ v1,v2,trivial⟩
 ·rw[←List.append_assoc]
  exact s1.mono (Ins.fr _ _)
end
end
end Go.Ay
