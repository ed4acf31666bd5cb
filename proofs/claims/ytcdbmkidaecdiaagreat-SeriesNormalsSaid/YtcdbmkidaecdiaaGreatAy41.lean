/- A chain, as a law is given it: a number, lists of numbers, lists of lists of numbers. -/
import Derived.Test.YtcdbmkidaecdiaaGreatAy34
import Derived.Deep.Strs
namespace Go.Ay
open Go Go.RowKit Go.WideShapes Go.ChangeShapes Go.ChangeAt
section
variable {os:List Ob} {ps:List (Nat×Nat×Nat)} {t e q s:TypeId} {v:Value}
section
variable {P:Program} {W:World}
variable {Hh:Type} {enc:TypeId×Value->Hh} {base:Nat} {held:Bool}
theorem AP {p:Nat->Value}{ws:List V}{a:Addr}{len f:Nat}(h3:len<=f)(G:0<f-> ∃v,W.cell? a=some v)(n: ∀i,i<len->W.cell? (a.add i)=some (p i))(j:ws.length=len)
    (I:Ins P W os ps) (F:aN (VR (Wc ps)) ws ((List.range len).map p)) (J: ∀w∈ws,w.one=true):
  ∃os' ps' u,Ins P W (os++os') (ps++ps')/\VR (Wc (ps++ps')) u (.slice (some a) len f)/\SV (Go.Ay.H.yH (os++os')) u 1 ws/\u.one=true/\Kn u:=by
 by_cases A:f=0
 ·subst A
  have:len=0:=om
  subst this
  have:ws= []:=List.length_eq_zero_iff.1 j
  subst this
  exact⟨[], [],.emp a,by simpa using I,rfl,SV.emp _ a 1,rfl,λ_ _ _ _ e=>by cases e⟩
 obtain⟨v,o⟩:=G om
 obtain⟨ab,m,z⟩:=a
 obtain⟨l,c,el,fr,b,d⟩:=Fv o
 simp only at l b d
 subst l
 have g: ∀i,i<len->c[m+i]? =some (p i):=λi hi=>AQ b (n i hi)
 have r:m+len<=c.size:=by
  have K:=(HF.1 d).1
  cases len with
  |zero=>omega
  |succ k=>
   have:=(HF.1 (g k om)).1;omega
 have B:Ins P W (os++ [.cells true ws]) (ps++ [(ab,m,c.size)]):=I.push ⟨c,el,fr,b,rfl,by rw[j];exact r,λi v n=>by
  have hi:=(vJ.1 n).1;rw[j] at hi;have x:=F.get i om (by simpa using hi);rw[List.getElem_map,List.getElem_range] at x;have y:ws[i]'om=v:=(vJ.1 n).2;rw[y] at x
  exact⟨J v (by rw[←y];exact xG _),_,g i hi,x⟩,λh=>by cases h⟩
 refine⟨[.cells true ws], [(ab,m,c.size)],.sl os.length 0 len (.kn f),B,⟨(ab,m,c.size),f,0,?_,rfl,h3,λ_=>rfl,rfl,rfl⟩,?_,rfl,λ_ _ _ _ e=>by cases e;exact⟨_,rfl,h3⟩⟩
 ·simp only[Wc]
  rw[I.len,Jg (dT _),Nat.sub_self];rfl
 ·exact SV.all (by rw[j,tW]) (by rw[uT,iV];simp) (by rw[tV,Jg (dT _),Nat.sub_self];rfl) _
theorem Uh {f:Nat}{x:DataW Hh×List MemPlace}(ht:P.underlying t=some (.slice e))(R:P.underlying e=some (.slice q))(hq:P.underlying q=some (.int .i64))(k:P.cellsOf e=1)(g:P.cellsOf q=1)
  (G:DataW.trod enc P W base (λ_=>true) held f t [v]=some x)   (I:Ins P W os ps):
  ∃os' ps' u ll,Ins P W (os++os') (ps++ps')/\VR (Wc (ps++ps')) u v/\SR (Go.Ay.H.yH (os++os')) u ll/\u.one=true/\Kn u:=by
 rcases Go.Deep.open_int_rows ht R hq k g G with ⟨d,h2⟩|⟨a,len,U,A,L,C,Z,d,_,B,h4,_,c⟩
 ·simp only[List.cons.injEq,and_true] at d
  subst d
  exact⟨[], [],.aD, [],by simpa using I,rfl,SR.aD _,rfl,λ_ _ _ _ e=>by cases e⟩
 ·simp only[List.cons.injEq,and_true] at d
  subst d
  obtain⟨n,h,y,Y,p,N,o1⟩:=Rx (P:=P) len (λr hr=>by
   obtain⟨_,a2,_,a4,_,K,z⟩:=c r om
   exact⟨a2,a4,K,λa' l=>(z a' l).2⟩) I
  have m:y.length=len:=by rw[p.length];simp
  obtain⟨j,o,u,O,vu,su,Q,ku⟩:=AP B (λJ=>⟨_,by have:=(c 0 J).1;rwa [show a.add 0=a by simp [Addr.add]] at this⟩) (λi hi=>(c i om).1) m Y p (λw F=>(o1 w F).1)
  refine⟨n++j,h++o,u,(List.range len).map λr=>(Z r).take (L r),by rw[←Lz,←Lz];exact O,by rw[←Lz];exact vu,⟨y,by rw[←Lz];exact su,?_⟩,Q,ku⟩
  rw[←Lz]
  exact N.mono λa b r=>r.mono (Ins.fr _ _)
theorem Rs {e q s:TypeId}{m:Nat->Value}(z:P.underlying e=some (.slice q))(A:P.underlying q=some (.slice s))(o:P.underlying s=some (.int .i64))(d:P.cellsOf q=1)(f:P.cellsOf s=1): ∀(n:Nat),(∀r,r<n-> ∃fuel x,DataW.trod enc P W base (λ_=>true) held fuel e [m r]=some x)->
  ∀{os:List Ob} {ps:List (Nat×Nat×Nat)},Ins P W os ps-> ∃os' ps' ws lll,Ins P W (os++os') (ps++ps')/\aN (VR (Wc (ps++ps'))) ws ((List.range n).map m)/\aN (SR (Go.Ay.H.yH (os++os'))) ws lll/\ ∀w∈ws,w.one=true/\Kn w
 |0,_,os,ps,I=>⟨[], [], [], [],by simpa using I,trivial,trivial,by simp⟩
 |n+1,h,os,ps,I=>by
  obtain⟨g,j,ws,lll,K,N,B,O⟩:=Rs z A o d f n (λr R=>h r om) I;obtain⟨Q,x,G⟩:=h n om;obtain⟨k,i,u,F,p,J,y,L,l⟩:=Uh z A o d f G K;rw[Lz,Lz] at p;refine⟨g++k,j++i,ws++ [u],lll++ [F],p,?_,?_,?_⟩
  ·rw[List.range_succ,List.map_append,←Lz ps]
   exact aN.snoc (N.mono λa b r=>VR.mono (Hp _ _) _ _ r) J
  ·rw[←Lz os]
   exact aN.snoc (B.mono λa b r=>r.mono (Ins.fr _ _)) (by rw[Lz];rw[Lz] at y;exact y)
  ·intro w c
   rcases oD.1 c with c|c
   ·exact O w c
   ·rw[List.mem_singleton.1 c];exact⟨L,l⟩
theorem QF {d:Nat}{x:DataW Hh×List MemPlace}(ht:P.underlying t=some (.slice e))(Q:P.underlying e=some (.slice q))(hq:P.underlying q=some (.slice s))(J:P.underlying s=some (.int .i64))(l:P.cellsOf e=1)(g:P.cellsOf q=1)(z:P.cellsOf s=1)
  (K:DataW.trod enc P W base (λ_=>true) held d t [v]=some x)   (I:Ins P W os ps):
  ∃os' ps' u lll,Ins P W (os++os') (ps++ps')/\VR (Wc (ps++ps')) u v/\ ∃ws,SV (Go.Ay.H.yH (os++os')) u 1 ws/\aN (SR (Go.Ay.H.yH (os++os'))) ws lll/\ ∀w∈ws,Kn w:=by
 rcases Go.Deep.open_slice1 ht l K with ⟨c,h2⟩|⟨a,len,R,m,n,V0,D,Pl,c,_,G,h4,F,_,h⟩
 ·simp only[List.cons.injEq,and_true] at c
  subst c
  exact⟨[], [],.aD, [],by simpa using I,rfl, [],SV.aD _ 1,trivial,by simp⟩
 ·simp only[List.cons.injEq,and_true] at c
  subst c
  simp only[if_true] at F
  subst F
  obtain⟨p,j,ws,lll,U,A,N,B⟩:=Rs (P:=P) Q hq J g z len (λr hr=>⟨_,_,(h r om).2⟩) I
  have o:ws.length=len:=by rw[A.length];simp
  obtain⟨k,y,u,O,Z,Y,ou,ku⟩:=AP G (λL=>⟨_,by have:=(h 0 L).1;rwa [show a.add 0=a by simp [Addr.add]] at this⟩) (λi hi=>(h i om).1) o U A (λw f=>(B w f).1)
  refine⟨p++k,j++y,u,lll,by rw[←Lz,←Lz];exact O,by rw[←Lz];exact Z,ws,by rw[←Lz];exact Y,?_,λw f=>(B w f).2⟩
  rw[←Lz]
  exact N.mono λa b r=>r.mono (Ins.fr _ _)
theorem Zg {f b g:Field}{r:Reach}{B:Nat}{d:DataW Hh}{q:List MemPlace}(F:P.underlying t=some (.struct #[f,b,g]))
  (J:f.offset=0) (m:b.offset=1) (k:g.offset=2) (N:P.cellsOf f.type=1) (x:P.cellsOf b.type=1) (p:P.cellsOf g.type=1) (w:P.cellsOf t=3) (u:P.cellTypes P.depth t=some [f.type,b.type,g.type])
  (a:Value.okWide P W r B t v) (j:DataW.Trod enc P W base (λ_=>true) held t v d q):
  ∃c0 c1 c2 n y1 y2,v= .agg #[c0,c1,c2]/\Cell.okWide P W r B f.type c0/\DataW.trod enc P W base (λ_=>true) held n b.type [c1]=some y1/\DataW.trod enc P W base (λ_=>true) held n g.type [c2]=some y2:=by
 obtain⟨A,j⟩:=j
 simp only[Value.okWide,F] at a
 obtain⟨G,rfl,c,U,i,_,o⟩:=a
 rw[w] at c
 rw[u] at i
 cases i
 obtain⟨l⟩:=G
 match l,c with
 | [c0,c1,c2],_=>
  obtain⟨R,y1,y2,n,_,_,O,y,z⟩:=Go.Deep.trod_struct3 F j
  rw[m,x] at y
  rw[k,p] at z
  obtain⟨Q,K,L⟩:=o 0 c0 rfl
  cases K
  exact⟨c0,c1,c2,n,y1,y2,rfl,L,y,z⟩
 | [],h=>cases h
 | [_],h=>cases h
 | [_,_],h=>cases h
 |_::_::_::_::_,h=>simp at h
theorem RU {e1 q1:TypeId}{g f i:Field}{r:Reach}{b0:Nat}{d:DataW Hh}{U:List MemPlace}(ht:P.underlying t=some (.struct #[g,f,i]))
  (k:g.offset=0) (m:f.offset=1) (l:i.offset=2) (y:P.cellsOf g.type=1) (Q:P.cellsOf f.type=1) (K:P.cellsOf i.type=1) (A:P.cellsOf t=3) (O:P.cellTypes P.depth t=some [g.type,f.type,i.type])
  (N:P.underlying g.type=some (.int .i64)) (J:P.underlying f.type=some (.slice e1)) (L:P.underlying e1=some (.slice q1)) (z:P.underlying q1=some (.int .i64)) (b:P.cellsOf e1=1) (a:P.cellsOf q1=1)
  (x:P.underlying i.type=some (.slice e)) (he:P.underlying e=some (.slice q)) (hq:P.underlying q=some (.slice s)) (Z:P.underlying s=some (.int .i64)) (B:P.cellsOf e=1) (j:P.cellsOf q=1) (c:P.cellsOf s=1)
  (h:Value.okWide P W r b0 t v) (hd:DataW.Trod enc P W base (λ_=>true) held t v d U)   (I:Ins P W os ps):
  ∃os' ps' n u w ll lll,Ins P W (os++os') (ps++ps')/\VR (Wc (ps++ps')) (.agg [.int .i64 n,u,w]) v/\SR (Go.Ay.H.yH (os++os')) u ll/\ ∃ws,SV (Go.Ay.H.yH (os++os')) w 1 ws/\aN (SR (Go.Ay.H.yH (os++os'))) ws lll/\ ∀w∈ws,Kn w:=by
 obtain⟨c0,c1,c2,fu,y1,y2,rfl,k0,R,Y⟩:=Zg ht k m l y Q K A O h hd
 obtain⟨n,rfl,hn⟩:=PU N k0
 obtain⟨F,o,u,ll,I1,v1,s1,_,_⟩:=Uh J L z b a R I
 obtain⟨p,G,w,lll,I2,v2,ws,s2,a2,k2⟩:=QF x he hq Z B j c Y I1
 refine⟨F++p,o++G,n,u,w,ll,lll,by rw[←Lz,←Lz];exact I2,?_,?_,ws,by rw[←Lz];exact s2,by rw[←Lz];exact a2,k2⟩
 ·rw[←Lz]
  exact⟨#[.int .i64 n,c1,c2],rfl,rfl,VR.mono (Hp _ _) _ _ v1,v2,trivial⟩
 ·rw[←Lz]
  exact s1.mono (Ins.fr _ _)
end
end
end Go.Ay
