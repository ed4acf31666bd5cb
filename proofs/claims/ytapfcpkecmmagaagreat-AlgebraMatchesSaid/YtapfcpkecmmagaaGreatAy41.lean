/- A chain, as a law is given it: a number, lists of numbers, lists of lists of numbers. -/
import Derived.Test.YtapfcpkecmmagaaGreatAy34
import Derived.Deep.Strs
namespace Go.Ay
open Go Go.RowKit Go.WideShapes Go.ChangeShapes Go.ChangeAt
section
variable {os:List Ob} {ps:List (Nat×Nat×Nat)} {t e q s:TypeId} {v:Value}
section
variable {P:Program} {W:World}
variable {Hh:Type} {enc:TypeId×Value->Hh} {base:Nat} {held:Bool}
theorem Od {x:Nat->Value}{ws:List V}{a:Addr}{len f:Nat}(h3:len<=f)(z:0<f-> ∃v,W.cell? a=some v)(n: ∀i,i<len->W.cell? (a.add i)=some (x i))(j:ws.length=len)
    (I:Ins P W os ps) (F:All2 (VR (Hr ps)) ws ((List.range len).map x)) (A: ∀w∈ws,w.one=true):
  ∃os' ps' u,Ins P W (os++os') (ps++ps')/\VR (Hr (ps++ps')) u (.slice (some a) len f)/\SV (Go.Ay.H.iT (os++os')) u 1 ws/\u.one=true/\Kn u:=by
 by_cases G:f=0
 ·subst G
  have:len=0:=om
  subst this
  have:ws= []:=List.length_eq_zero_iff.1 j
  subst this
  exact⟨[], [],.emp a,by simpa using I,rfl,SV.emp _ a 1,rfl,λ_ _ _ _ e=>by cases e⟩
 obtain⟨v,p⟩:=z om
 obtain⟨ab,l,B⟩:=a
 obtain⟨m,c,el,fr,b,d⟩:=Ch p
 simp only at m b d
 subst m
 have g: ∀i,i<len->c[l+i]? =some (x i):=λi hi=>Pt b (n i hi)
 have o:l+len<=c.size:=by
  have K:=(Er.1 d).1
  cases len with
  |zero=>omega
  |succ k=>
   have:=(Er.1 (g k om)).1;omega
 have J:Ins P W (os++ [.cells true ws]) (ps++ [(ab,l,c.size)]):=I.push ⟨c,el,fr,b,rfl,by rw[j];exact o,λi v n=>by
  have hi:=(xI.1 n).1;rw[j] at hi;have r:=F.get i om (by simpa using hi);rw[List.getElem_map,List.getElem_range] at r;have y:ws[i]'om=v:=(xI.1 n).2;rw[y] at r
  exact⟨A v (by rw[←y];exact xR _),_,g i hi,r⟩,λh=>by cases h⟩
 refine⟨[.cells true ws], [(ab,l,c.size)],.sl os.length 0 len (.kn f),J,⟨(ab,l,c.size),f,0,?_,rfl,h3,λ_=>rfl,rfl,rfl⟩,?_,rfl,λ_ _ _ _ e=>by cases e;exact⟨_,rfl,h3⟩⟩
 ·simp only[Hr]
  rw[I.len,Cq (eS _),Nat.sub_self];rfl
 ·exact SV.all (by rw[j,kF]) (by rw[kB,iZ];simp) (by rw[kG,Cq (eS _),Nat.sub_self];rfl) _
theorem Jq {d:Nat}{x:DataW Hh×List MemPlace}(J:P.underlying t=some (.slice e))(he:P.underlying e=some (.slice q))(N:P.underlying q=some (.int .i64))(j:P.cellsOf e=1)(n:P.cellsOf q=1)
  (F:DataW.trod enc P W base (λ_=>true) held d t [v]=some x)   (I:Ins P W os ps):
  ∃os' ps' u ll,Ins P W (os++os') (ps++ps')/\VR (Hr (ps++ps')) u v/\SR (Go.Ay.H.iT (os++os')) u ll/\u.one=true/\Kn u:=by
 rcases Go.Deep.open_int_rows J he N j n F with ⟨f,h2⟩|⟨a,len,a0,A,L,C,Z,f,_,h3,h4,_,c⟩
 ·simp only[List.cons.injEq,and_true] at f
  subst f
  exact⟨[], [],.aD, [],by simpa using I,rfl,SR.aD _,rfl,λ_ _ _ _ e=>by cases e⟩
 ·simp only[List.cons.injEq,and_true] at f
  subst f
  obtain⟨l,m,p,B,y,z,R⟩:=Kl (P:=P) len (λr hr=>by
   obtain⟨_,O,_,a4,_,Q,a7⟩:=c r om
   exact⟨O,a4,Q,λK h=>(a7 K h).2⟩) I
  have g:p.length=len:=by rw[y.length];simp
  obtain⟨o,k,u,I2,vu,Y,G,ku⟩:=Od h3 (λU=>⟨_,by have:=(c 0 U).1;rwa [show a.add 0=a by simp [Addr.add]] at this⟩) (λi hi=>(c i om).1) g B y (λw hw=>(R w hw).1)
  refine⟨l++o,m++k,u,(List.range len).map λr=>(Z r).take (L r),by rw[←oF,←oF];exact I2,by rw[←oF];exact vu,⟨p,by rw[←oF];exact Y,?_⟩,G,ku⟩
  rw[←oF]
  exact z.mono λa b r=>r.mono (Ins.fr _ _)
theorem Ko {e q s:TypeId}{z:Nat->Value}(y:P.underlying e=some (.slice q))(m:P.underlying q=some (.slice s))(p:P.underlying s=some (.int .i64))(c:P.cellsOf q=1)(f:P.cellsOf s=1): ∀(n:Nat),(∀r,r<n-> ∃fuel x,DataW.trod enc P W base (λ_=>true) held fuel e [z r]=some x)->
  ∀{os:List Ob} {ps:List (Nat×Nat×Nat)},Ins P W os ps-> ∃os' ps' ws lll,Ins P W (os++os') (ps++ps')/\All2 (VR (Hr (ps++ps'))) ws ((List.range n).map z)/\All2 (SR (Go.Ay.H.iT (os++os'))) ws lll/\ ∀w∈ws,w.one=true/\Kn w
 |0,_,os,ps,I=>⟨[], [], [], [],by simpa using I,trivial,trivial,by simp⟩
 |n+1,h,os,ps,I=>by
  obtain⟨g,i,ws,lll,F,L,B,K⟩:=Ko y m p c f n (λr R=>h r om) I;obtain⟨Q,x,J⟩:=h n om;obtain⟨k,l,u,G,A,O,o,N,j⟩:=Jq y m p c f J F;rw[oF,oF] at A;refine⟨g++k,i++l,ws++ [u],lll++ [G],A,?_,?_,?_⟩
  ·rw[List.range_succ,List.map_append,←oF ps]
   exact All2.snoc (L.mono λa b r=>VR.mono (kU _ _) _ _ r) O
  ·rw[←oF os]
   exact All2.snoc (B.mono λa b r=>r.mono (Ins.fr _ _)) (by rw[oF];rw[oF] at o;exact o)
  ·intro w d
   rcases sZ.1 d with d|d
   ·exact K w d
   ·rw[List.mem_singleton.1 d];exact⟨N,j⟩
theorem Xf {c:Nat}{x:DataW Hh×List MemPlace}(L:P.underlying t=some (.slice e))(he:P.underlying e=some (.slice q))(N:P.underlying q=some (.slice s))(hs:P.underlying s=some (.int .i64))(g:P.cellsOf e=1)(o:P.cellsOf q=1)(y:P.cellsOf s=1)
  (K:DataW.trod enc P W base (λ_=>true) held c t [v]=some x)   (I:Ins P W os ps):
  ∃os' ps' u lll,Ins P W (os++os') (ps++ps')/\VR (Hr (ps++ps')) u v/\ ∃ws,SV (Go.Ay.H.iT (os++os')) u 1 ws/\All2 (SR (Go.Ay.H.iT (os++os'))) ws lll/\ ∀w∈ws,Kn w:=by
 rcases Go.Deep.open_slice1 L g K with ⟨d,h2⟩|⟨a,len,R,m,n,V0,D,Pl,d,_,Y,h4,B,_,k⟩
 ·simp only[List.cons.injEq,and_true] at d
  subst d
  exact⟨[], [],.aD, [],by simpa using I,rfl, [],SV.aD _ 1,trivial,by simp⟩
 ·simp only[List.cons.injEq,and_true] at d
  subst d
  simp only[if_true] at B
  subst B
  obtain⟨j,l,ws,lll,J,F,G,A⟩:=Ko (P:=P) he N hs o y len (λr hr=>⟨_,_,(k r om).2⟩) I
  have f:ws.length=len:=by rw[F.length];simp
  obtain⟨p,h,u,U,Z,Q,ou,ku⟩:=Od Y (λO=>⟨_,by have:=(k 0 O).1;rwa [show a.add 0=a by simp [Addr.add]] at this⟩) (λi hi=>(k i om).1) f J F (λw z=>(A w z).1)
  refine⟨j++p,l++h,u,lll,by rw[←oF,←oF];exact U,by rw[←oF];exact Z,ws,by rw[←oF];exact Q,?_,λw z=>(A w z).2⟩
  rw[←oF]
  exact G.mono λa b r=>r.mono (Ins.fr _ _)
theorem Mt {f b c:Field}{r:Reach}{z:Nat}{d:DataW Hh}{q:List MemPlace}(y:P.underlying t=some (.struct #[f,b,c]))
  (N:f.offset=0) (p:b.offset=1) (w:c.offset=2) (K:P.cellsOf f.type=1) (u:P.cellsOf b.type=1) (o:P.cellsOf c.type=1) (m:P.cellsOf t=3) (x:P.cellTypes P.depth t=some [f.type,b.type,c.type])
  (a:Value.okWide P W r z t v) (j:DataW.Trod enc P W base (λ_=>true) held t v d q):
  ∃c0 c1 c2 n y1 y2,v= .agg #[c0,c1,c2]/\Cell.okWide P W r z f.type c0/\DataW.trod enc P W base (λ_=>true) held n b.type [c1]=some y1/\DataW.trod enc P W base (λ_=>true) held n c.type [c2]=some y2:=by
 obtain⟨A,j⟩:=j
 simp only[Value.okWide,y] at a
 obtain⟨J,rfl,g,U,i,_,k⟩:=a
 rw[m] at g
 rw[x] at i
 cases i
 obtain⟨l⟩:=J
 match l,g with
 | [c0,c1,c2],_=>
  obtain⟨O,y1,y2,n,_,_,R,B,F⟩:=Go.Deep.trod_struct3 y j
  rw[p,u] at B
  rw[w,o] at F
  obtain⟨Q,L,G⟩:=k 0 c0 rfl
  cases L
  exact⟨c0,c1,c2,n,y1,y2,rfl,G,B,F⟩
 | [],h=>cases h
 | [_],h=>cases h
 | [_,_],h=>cases h
 |_::_::_::_::_,h=>simp at h
theorem Yb {e1 q1:TypeId}{f h a:Field}{r:Reach}{b0:Nat}{d:DataW Hh}{qq:List MemPlace}(Z:P.underlying t=some (.struct #[f,h,a]))
  (m:f.offset=0) (L:h.offset=1) (Q:a.offset=2) (J:P.cellsOf f.type=1) (p:P.cellsOf h.type=1) (k:P.cellsOf a.type=1) (j:P.cellsOf t=3) (K:P.cellTypes P.depth t=some [f.type,h.type,a.type])
  (z:P.underlying f.type=some (.int .i64)) (F:P.underlying h.type=some (.slice e1)) (o:P.underlying e1=some (.slice q1)) (l:P.underlying q1=some (.int .i64)) (i:P.cellsOf e1=1) (b:P.cellsOf q1=1)
  (N:P.underlying a.type=some (.slice e)) (he:P.underlying e=some (.slice q)) (hq:P.underlying q=some (.slice s)) (hs:P.underlying s=some (.int .i64)) (x:P.cellsOf e=1) (G:P.cellsOf q=1) (g:P.cellsOf s=1)
  (c:Value.okWide P W r b0 t v) (Y:DataW.Trod enc P W base (λ_=>true) held t v d qq)   (I:Ins P W os ps):
  ∃os' ps' n u w ll lll,Ins P W (os++os') (ps++ps')/\VR (Hr (ps++ps')) (.agg [.int .i64 n,u,w]) v/\SR (Go.Ay.H.iT (os++os')) u ll/\ ∃ws,SV (Go.Ay.H.iT (os++os')) w 1 ws/\All2 (SR (Go.Ay.H.iT (os++os'))) ws lll/\ ∀w∈ws,Kn w:=by
 obtain⟨c0,c1,c2,fu,y1,y2,rfl,k0,h1,h2⟩:=Mt Z m L Q J p k j K c Y
 obtain⟨n,rfl,hn⟩:=Vd z k0
 obtain⟨A,B,u,ll,U,v1,R,_,_⟩:=Jq F o l i b h1 I
 obtain⟨O,y,w,lll,I2,v2,ws,s2,a2,k2⟩:=Xf N he hq hs x G g h2 U
 refine⟨A++O,B++y,n,u,w,ll,lll,by rw[←oF,←oF];exact I2,?_,?_,ws,by rw[←oF];exact s2,by rw[←oF];exact a2,k2⟩
 ·rw[←oF]
  exact⟨#[.int .i64 n,c1,c2],rfl,rfl,VR.mono (kU _ _) _ _ v1,v2,trivial⟩
 ·rw[←oF]
  exact R.mono (Ins.fr _ _)
end
end
end Go.Ay
