/- A chain, as a law is given it: a number, lists of numbers, lists of lists of numbers. -/
import Derived.Test.YtcdbmkidaecdiaaGreatAy34
import Derived.Deep.Strs
namespace Go.Ay
open Go Go.RowKit Go.WideShapes Go.ChangeShapes Go.ChangeAt
section
variable {os:List Ob} {ps:List (Nat×Nat×Nat)} {t e q s:TypeId} {v:Value}
section
variable {P:Program} {W:World}
variable {Hh:Type} {enc:TypeId×Value->Hh} {base:Nat} {held:Bool}
theorem JD {o:Nat->Value}{ws:List V}{a:Addr}{len f:Nat}(h3:len<=f)(z:0<f-> ∃v,W.cell? a=some v)(n: ∀i,i<len->W.cell? (a.add i)=some (o i))(j:ws.length=len)
    (I:Ins P W os ps) (F:aM (VR (BS ps)) ws ((List.range len).map o)) (J: ∀w∈ws,w.one=true):
  ∃os' ps' u,Ins P W (os++os') (ps++ps')/\VR (BS (ps++ps')) u (.slice (some a) len f)/\SV (Go.Ay.H.mE (os++os')) u 1 ws/\u.one=true/\Kn u:=by
 by_cases B:f=0
 ·subst B
  have:len=0:=om
  subst this
  have:ws= []:=List.length_eq_zero_iff.1 j
  subst this
  exact⟨[], [],.emp a,by simpa using I,rfl,SV.emp _ a 1,rfl,λ_ _ _ _ e=>by cases e⟩
 obtain⟨v,x⟩:=z om
 obtain⟨ab,l,A⟩:=a
 obtain⟨m,c,el,fr,b,d⟩:=Nb x
 simp only at m b d
 subst m
 have g: ∀i,i<len->c[l+i]? =some (o i):=λi hi=>IH b (n i hi)
 have p:l+len<=c.size:=by
  have K:=(Wi.1 d).1
  cases len with
  |zero=>omega
  |succ k=>
   have:=(Wi.1 (g k om)).1;omega
 have G:Ins P W (os++ [.cells true ws]) (ps++ [(ab,l,c.size)]):=I.push ⟨c,el,fr,b,rfl,by rw[j];exact p,λi v n=>by
  have hi:=(zG.1 n).1;rw[j] at hi;have r:=F.get i om (by simpa using hi);rw[List.getElem_map,List.getElem_range] at r;have y:ws[i]'om=v:=(zG.1 n).2;rw[y] at r
  exact⟨J v (by rw[←y];exact Bu _),_,g i hi,r⟩,λh=>by cases h⟩
 refine⟨[.cells true ws], [(ab,l,c.size)],.sl os.length 0 len (.kn f),G,⟨(ab,l,c.size),f,0,?_,rfl,h3,λ_=>rfl,rfl,rfl⟩,?_,rfl,λ_ _ _ _ e=>by cases e;exact⟨_,rfl,h3⟩⟩
 ·simp only[BS]
  rw[I.len,Eb (eH _),Nat.sub_self];rfl
 ·exact SV.all (by rw[j,uH]) (by rw[pW,iA];simp) (by rw[qC,Eb (eH _),Nat.sub_self];rfl) _
theorem AW {f:Nat}{x:DataW Hh×List MemPlace}(ht:P.underlying t=some (.slice e))(he:P.underlying e=some (.slice q))(U:P.underlying q=some (.int .i64))(g:P.cellsOf e=1)(o:P.cellsOf q=1)
  (hd:DataW.trod enc P W base (λ_=>true) held f t [v]=some x)   (I:Ins P W os ps):
  ∃os' ps' u ll,Ins P W (os++os') (ps++ps')/\VR (BS (ps++ps')) u v/\SR (Go.Ay.H.mE (os++os')) u ll/\u.one=true/\Kn u:=by
 rcases Go.Deep.open_int_rows ht he U g o hd with ⟨d,h2⟩|⟨a,len,O,A,L,C,Z,d,_,h3,h4,_,c⟩
 ·simp only[List.cons.injEq,and_true] at d
  subst d
  exact⟨[], [],.aE, [],by simpa using I,rfl,SR.aE _,rfl,λ_ _ _ _ e=>by cases e⟩
 ·simp only[List.cons.injEq,and_true] at d
  subst d
  obtain⟨j,n,p,z,y,s1,N⟩:=Zq (P:=P) len (λr hr=>by
   obtain⟨_,a2,_,K,_,Q,a7⟩:=c r om
   exact⟨a2,K,Q,λa' l=>(a7 a' l).2⟩) I
  have h:p.length=len:=by rw[y.length];simp
  obtain⟨m,k,u,J,R,B,G,ku⟩:=JD h3 (λY=>⟨_,by have:=(c 0 Y).1;rwa [show a.add 0=a by simp [Addr.add]] at this⟩) (λi hi=>(c i om).1) h z y (λw F=>(N w F).1)
  refine⟨j++m,n++k,u,(List.range len).map λr=>(Z r).take (L r),by rw[←rS,←rS];exact J,by rw[←rS];exact R,⟨p,by rw[←rS];exact B,?_⟩,G,ku⟩
  rw[←rS]
  exact s1.mono λa b r=>r.mono (Ins.fr _ _)
theorem Zl {e q s:TypeId}{p:Nat->Value}(o:P.underlying e=some (.slice q))(m:P.underlying q=some (.slice s))(y:P.underlying s=some (.int .i64))(f:P.cellsOf q=1)(c:P.cellsOf s=1): ∀(n:Nat),(∀r,r<n-> ∃fuel x,DataW.trod enc P W base (λ_=>true) held fuel e [p r]=some x)->
  ∀{os:List Ob} {ps:List (Nat×Nat×Nat)},Ins P W os ps-> ∃os' ps' ws lll,Ins P W (os++os') (ps++ps')/\aM (VR (BS (ps++ps'))) ws ((List.range n).map p)/\aM (SR (Go.Ay.H.mE (os++os'))) ws lll/\ ∀w∈ws,w.one=true/\Kn w
 |0,_,os,ps,I=>⟨[], [], [], [],by simpa using I,trivial,trivial,by simp⟩
 |n+1,h,os,ps,I=>by
  obtain⟨k,i,ws,lll,B,J,K,N⟩:=Zl o m y f c n (λr R=>h r om) I;obtain⟨Q,x,O⟩:=h n om;obtain⟨g,l,u,G,z,L,A,F,j⟩:=AW o m y f c O B;rw[rS,rS] at z;refine⟨k++g,i++l,ws++ [u],lll++ [G],z,?_,?_,?_⟩
  ·rw[List.range_succ,List.map_append,←rS ps]
   exact aM.snoc (J.mono λa b r=>VR.mono (Gh _ _) _ _ r) L
  ·rw[←rS os]
   exact aM.snoc (K.mono λa b r=>r.mono (Ins.fr _ _)) (by rw[rS];rw[rS] at A;exact A)
  ·intro w d
   rcases kT.1 d with d|d
   ·exact N w d
   ·rw[List.mem_singleton.1 d];exact⟨F,j⟩
theorem RK {d:Nat}{x:DataW Hh×List MemPlace}(ht:P.underlying t=some (.slice e))(U:P.underlying e=some (.slice q))(O:P.underlying q=some (.slice s))(Y:P.underlying s=some (.int .i64))(g:P.cellsOf e=1)(o:P.cellsOf q=1)(f:P.cellsOf s=1)
  (R:DataW.trod enc P W base (λ_=>true) held d t [v]=some x)   (I:Ins P W os ps):
  ∃os' ps' u lll,Ins P W (os++os') (ps++ps')/\VR (BS (ps++ps')) u v/\ ∃ws,SV (Go.Ay.H.mE (os++os')) u 1 ws/\aM (SR (Go.Ay.H.mE (os++os'))) ws lll/\ ∀w∈ws,Kn w:=by
 rcases Go.Deep.open_slice1 ht g R with ⟨c,h2⟩|⟨a,len,L,m,n,V0,D,Pl,c,_,Z,h4,F,_,z⟩
 ·simp only[List.cons.injEq,and_true] at c
  subst c
  exact⟨[], [],.aE, [],by simpa using I,rfl, [],SV.aE _ 1,trivial,by simp⟩
 ·simp only[List.cons.injEq,and_true] at c
  subst c
  simp only[if_true] at F
  subst F
  obtain⟨k,y,ws,lll,G,A,s1,B⟩:=Zl (P:=P) U O Y o f len (λr hr=>⟨_,_,(z r om).2⟩) I
  have h:ws.length=len:=by rw[A.length];simp
  obtain⟨p,l,u,K,N,J,ou,ku⟩:=JD Z (λQ=>⟨_,by have:=(z 0 Q).1;rwa [show a.add 0=a by simp [Addr.add]] at this⟩) (λi hi=>(z i om).1) h G A (λw j=>(B w j).1)
  refine⟨k++p,y++l,u,lll,by rw[←rS,←rS];exact K,by rw[←rS];exact N,ws,by rw[←rS];exact J,?_,λw j=>(B w j).2⟩
  rw[←rS]
  exact s1.mono λa b r=>r.mono (Ins.fr _ _)
theorem FO {f g b:Field}{r:Reach}{y:Nat}{d:DataW Hh}{q:List MemPlace}(F:P.underlying t=some (.struct #[f,g,b]))
  (G:f.offset=0) (o:g.offset=1) (w:b.offset=2) (J:P.cellsOf f.type=1) (u:P.cellsOf g.type=1) (p:P.cellsOf b.type=1) (k:P.cellsOf t=3) (j:P.cellTypes P.depth t=some [f.type,g.type,b.type])
  (a:Value.okWide P W r y t v) (m:DataW.Trod enc P W base (λ_=>true) held t v d q):
  ∃c0 c1 c2 n y1 y2,v= .agg #[c0,c1,c2]/\Cell.okWide P W r y f.type c0/\DataW.trod enc P W base (λ_=>true) held n g.type [c1]=some y1/\DataW.trod enc P W base (λ_=>true) held n b.type [c2]=some y2:=by
 obtain⟨z,m⟩:=m
 simp only[Value.okWide,F] at a
 obtain⟨N,rfl,i,U,c,_,x⟩:=a
 rw[k] at i
 rw[j] at c
 cases c
 obtain⟨l⟩:=N
 match l,i with
 | [c0,c1,c2],_=>
  obtain⟨R,y1,y2,n,_,_,Q,A,B⟩:=Go.Deep.trod_struct3 F m
  rw[o,u] at A
  rw[w,p] at B
  obtain⟨O,K,L⟩:=x 0 c0 rfl
  cases K
  exact⟨c0,c1,c2,n,y1,y2,rfl,L,A,B⟩
 | [],h=>cases h
 | [_],h=>cases h
 | [_,_],h=>cases h
 |_::_::_::_::_,h=>simp at h
theorem RE {e1 q1:TypeId}{b i a:Field}{r:Reach}{b0:Nat}{d:DataW Hh}{qq:List MemPlace}(ht:P.underlying t=some (.struct #[b,i,a]))
  (k:b.offset=0) (K:i.offset=1) (B:a.offset=2) (o:P.cellsOf b.type=1) (A:P.cellsOf i.type=1) (x:P.cellsOf a.type=1) (m:P.cellsOf t=3) (j:P.cellTypes P.depth t=some [b.type,i.type,a.type])
  (G:P.underlying b.type=some (.int .i64)) (F:P.underlying i.type=some (.slice e1)) (J:P.underlying e1=some (.slice q1)) (p:P.underlying q1=some (.int .i64)) (g:P.cellsOf e1=1) (c:P.cellsOf q1=1)
  (Q:P.underlying a.type=some (.slice e)) (he:P.underlying e=some (.slice q)) (hq:P.underlying q=some (.slice s)) (hs:P.underlying s=some (.int .i64)) (l:P.cellsOf e=1) (L:P.cellsOf q=1) (f:P.cellsOf s=1)
  (h:Value.okWide P W r b0 t v) (hd:DataW.Trod enc P W base (λ_=>true) held t v d qq)   (I:Ins P W os ps):
  ∃os' ps' n u w ll lll,Ins P W (os++os') (ps++ps')/\VR (BS (ps++ps')) (.agg [.int .i64 n,u,w]) v/\SR (Go.Ay.H.mE (os++os')) u ll/\ ∃ws,SV (Go.Ay.H.mE (os++os')) w 1 ws/\aM (SR (Go.Ay.H.mE (os++os'))) ws lll/\ ∀w∈ws,Kn w:=by
 obtain⟨c0,c1,c2,fu,y1,y2,rfl,Y,h1,h2⟩:=FO ht k K B o A x m j h hd
 obtain⟨n,rfl,hn⟩:=WC G Y
 obtain⟨y,O,u,ll,R,U,s1,_,_⟩:=AW F J p g c h1 I
 obtain⟨N,z,w,lll,Z,v2,ws,s2,a2,k2⟩:=RK Q he hq hs l L f h2 R
 refine⟨y++N,O++z,n,u,w,ll,lll,by rw[←rS,←rS];exact Z,?_,?_,ws,by rw[←rS];exact s2,by rw[←rS];exact a2,k2⟩
 ·rw[←rS]
  exact⟨#[.int .i64 n,c1,c2],rfl,rfl,VR.mono (Gh _ _) _ _ U,v2,trivial⟩
 ·rw[←rS]
  exact s1.mono (Ins.fr _ _)
end
end
end Go.Ay
