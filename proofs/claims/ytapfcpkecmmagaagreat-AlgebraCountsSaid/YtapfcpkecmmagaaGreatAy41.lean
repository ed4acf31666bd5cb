/- A chain, as a law is given it: a number, lists of numbers, lists of lists of numbers. -/
import Derived.Test.YtapfcpkecmmagaaGreatAy34
import Derived.Deep.Strs
namespace Go.Ay
open Go Go.RowKit Go.WideShapes Go.ChangeShapes Go.ChangeAt
section
variable {os:List Ob} {ps:List (Nat×Nat×Nat)} {t e q s:TypeId} {v:Value}
section
variable {P:Program} {W:World}
variable {Hh:Type} {enc:TypeId×Value->Hh} {base:Nat} {held:Bool}
theorem Pd {r:Nat->Value}{ws:List V}{a:Addr}{len f:Nat}(h3:len<=f)(B:0<f-> ∃v,W.cell? a=some v)(n: ∀i,i<len->W.cell? (a.add i)=some (r i))(j:ws.length=len)
    (I:Ins P W os ps) (J:All2 (VR (Ku ps)) ws ((List.range len).map r)) (A: ∀w∈ws,w.one=true):
  ∃os' ps' u,Ins P W (os++os') (ps++ps')/\VR (Ku (ps++ps')) u (.slice (some a) len f)/\SV (Go.Ay.H.jP (os++os')) u 1 ws/\u.one=true/\Kn u:=by
 by_cases z:f=0
 ·subst z
  have:len=0:=om
  subst this
  have:ws= []:=List.length_eq_zero_iff.1 j
  subst this
  exact⟨[], [],.emp a,by simpa using I,rfl,SV.emp _ a 1,rfl,λ_ _ _ _ e=>by cases e⟩
 obtain⟨v,x⟩:=B om
 obtain⟨ab,m,F⟩:=a
 obtain⟨l,c,el,fr,b,d⟩:=zU x
 simp only at l b d
 subst l
 have g: ∀i,i<len->c[m+i]? =some (r i):=λi hi=>Ou b (n i hi)
 have o:m+len<=c.size:=by
  have K:=(Gu.1 d).1
  cases len with
  |zero=>omega
  |succ k=>
   have:=(Gu.1 (g k om)).1;omega
 have G:Ins P W (os++ [.cells true ws]) (ps++ [(ab,m,c.size)]):=I.push ⟨c,el,fr,b,rfl,by rw[j];exact o,λi v n=>by
  have hi:=(xQ.1 n).1;rw[j] at hi;have p:=J.get i om (by simpa using hi);rw[List.getElem_map,List.getElem_range] at p;have y:ws[i]'om=v:=(xQ.1 n).2;rw[y] at p
  exact⟨A v (by rw[←y];exact wT _),_,g i hi,p⟩,λh=>by cases h⟩
 refine⟨[.cells true ws], [(ab,m,c.size)],.sl os.length 0 len (.kn f),G,⟨(ab,m,c.size),f,0,?_,rfl,h3,λ_=>rfl,rfl,rfl⟩,?_,rfl,λ_ _ _ _ e=>by cases e;exact⟨_,rfl,h3⟩⟩
 ·simp only[Ku]
  rw[I.len,Dw (fH _),Nat.sub_self];rfl
 ·exact SV.all (by rw[j,jY]) (by rw[lB,jD];simp) (by rw[kZ,Dw (fH _),Nat.sub_self];rfl) _
theorem Kd {f:Nat}{x:DataW Hh×List MemPlace}(ht:P.underlying t=some (.slice e))(G:P.underlying e=some (.slice q))(Y:P.underlying q=some (.int .i64))(o:P.cellsOf e=1)(g:P.cellsOf q=1)
  (F:DataW.trod enc P W base (λ_=>true) held f t [v]=some x)   (I:Ins P W os ps):
  ∃os' ps' u ll,Ins P W (os++os') (ps++ps')/\VR (Ku (ps++ps')) u v/\SR (Go.Ay.H.jP (os++os')) u ll/\u.one=true/\Kn u:=by
 rcases Go.Deep.open_int_rows ht G Y o g F with ⟨d,h2⟩|⟨a,len,B,A,L,C,Z,d,_,h3,h4,_,c⟩
 ·simp only[List.cons.injEq,and_true] at d
  subst d
  exact⟨[], [],.aD, [],by simpa using I,rfl,SR.aD _,rfl,λ_ _ _ _ e=>by cases e⟩
 ·simp only[List.cons.injEq,and_true] at d
  subst d
  obtain⟨n,m,y,O,p,s1,o1⟩:=Iq (P:=P) len (λr hr=>by
   obtain⟨_,J,_,z,_,R,N⟩:=c r om
   exact⟨J,z,R,λa' j=>(N a' j).2⟩) I
  have h:y.length=len:=by rw[p.length];simp
  obtain⟨k,l,u,U,vu,su,ou,ku⟩:=Pd h3 (λK=>⟨_,by have:=(c 0 K).1;rwa [show a.add 0=a by simp [Addr.add]] at this⟩) (λi hi=>(c i om).1) h O p (λw Q=>(o1 w Q).1)
  refine⟨n++k,m++l,u,(List.range len).map λr=>(Z r).take (L r),by rw[←oH,←oH];exact U,by rw[←oH];exact vu,⟨y,by rw[←oH];exact su,?_⟩,ou,ku⟩
  rw[←oH]
  exact s1.mono λa b r=>r.mono (Ins.fr _ _)
theorem Ht {e q s:TypeId}{z:Nat->Value}(y:P.underlying e=some (.slice q))(A:P.underlying q=some (.slice s))(m:P.underlying s=some (.int .i64))(c:P.cellsOf q=1)(d:P.cellsOf s=1): ∀(n:Nat),(∀r,r<n-> ∃fuel x,DataW.trod enc P W base (λ_=>true) held fuel e [z r]=some x)->
  ∀{os:List Ob} {ps:List (Nat×Nat×Nat)},Ins P W os ps-> ∃os' ps' ws lll,Ins P W (os++os') (ps++ps')/\All2 (VR (Ku (ps++ps'))) ws ((List.range n).map z)/\All2 (SR (Go.Ay.H.jP (os++os'))) ws lll/\ ∀w∈ws,w.one=true/\Kn w
 |0,_,os,ps,I=>⟨[], [], [], [],by simpa using I,trivial,trivial,by simp⟩
 |n+1,h,os,ps,I=>by
  obtain⟨i,g,ws,lll,G,O,K,J⟩:=Ht y A m c d n (λr R=>h r om) I;obtain⟨Q,x,L⟩:=h n om;obtain⟨k,l,u,F,p,N,o,B,j⟩:=Kd y A m c d L G;rw[oH,oH] at p;refine⟨i++k,g++l,ws++ [u],lll++ [F],p,?_,?_,?_⟩
  ·rw[List.range_succ,List.map_append,←oH ps]
   exact All2.snoc (O.mono λa b r=>VR.mono (uQ _ _) _ _ r) N
  ·rw[←oH os]
   exact All2.snoc (K.mono λa b r=>r.mono (Ins.fr _ _)) (by rw[oH];rw[oH] at o;exact o)
  ·intro w f
   rcases sP.1 f with f|f
   ·exact J w f
   ·rw[List.mem_singleton.1 f];exact⟨B,j⟩
theorem Uv {d:Nat}{x:DataW Hh×List MemPlace}(U:P.underlying t=some (.slice e))(L:P.underlying e=some (.slice q))(R:P.underlying q=some (.slice s))(G:P.underlying s=some (.int .i64))(z:P.cellsOf e=1)(f:P.cellsOf q=1)(o:P.cellsOf s=1)
  (K:DataW.trod enc P W base (λ_=>true) held d t [v]=some x)   (I:Ins P W os ps):
  ∃os' ps' u lll,Ins P W (os++os') (ps++ps')/\VR (Ku (ps++ps')) u v/\ ∃ws,SV (Go.Ay.H.jP (os++os')) u 1 ws/\All2 (SR (Go.Ay.H.jP (os++os'))) ws lll/\ ∀w∈ws,Kn w:=by
 rcases Go.Deep.open_slice1 U z K with ⟨c,h2⟩|⟨a,len,J,m,n,V0,D,Pl,c,_,h3,h4,F,_,y⟩
 ·simp only[List.cons.injEq,and_true] at c
  subst c
  exact⟨[], [],.aD, [],by simpa using I,rfl, [],SV.aD _ 1,trivial,by simp⟩
 ·simp only[List.cons.injEq,and_true] at c
  subst c
  simp only[if_true] at F
  subst F
  obtain⟨p,l,ws,lll,O,A,Z,B⟩:=Ht (P:=P) L R G f o len (λr hr=>⟨_,_,(y r om).2⟩) I
  have g:ws.length=len:=by rw[A.length];simp
  obtain⟨j,k,u,Q,vu,Y,ou,ku⟩:=Pd h3 (λN=>⟨_,by have:=(y 0 N).1;rwa [show a.add 0=a by simp [Addr.add]] at this⟩) (λi hi=>(y i om).1) g O A (λw h=>(B w h).1)
  refine⟨p++j,l++k,u,lll,by rw[←oH,←oH];exact Q,by rw[←oH];exact vu,ws,by rw[←oH];exact Y,?_,λw h=>(B w h).2⟩
  rw[←oH]
  exact Z.mono λa b r=>r.mono (Ins.fr _ _)
theorem Lq {b c g:Field}{r:Reach}{y:Nat}{d:DataW Hh}{q:List MemPlace}(B:P.underlying t=some (.struct #[b,c,g]))
  (L:b.offset=0) (x:c.offset=1) (w:g.offset=2) (J:P.cellsOf b.type=1) (p:P.cellsOf c.type=1) (u:P.cellsOf g.type=1) (m:P.cellsOf t=3) (o:P.cellTypes P.depth t=some [b.type,c.type,g.type])
  (a:Value.okWide P W r y t v) (k:DataW.Trod enc P W base (λ_=>true) held t v d q):
  ∃c0 c1 c2 n y1 y2,v= .agg #[c0,c1,c2]/\Cell.okWide P W r y b.type c0/\DataW.trod enc P W base (λ_=>true) held n c.type [c1]=some y1/\DataW.trod enc P W base (λ_=>true) held n g.type [c2]=some y2:=by
 obtain⟨F,k⟩:=k
 simp only[Value.okWide,B] at a
 obtain⟨N,rfl,i,Q,f,_,j⟩:=a
 rw[m] at i
 rw[o] at f
 cases f
 obtain⟨l⟩:=N
 match l,i with
 | [c0,c1,c2],_=>
  obtain⟨U,y1,y2,n,_,_,R,z,A⟩:=Go.Deep.trod_struct3 B k
  rw[x,p] at z
  rw[w,u] at A
  obtain⟨O,G,K⟩:=j 0 c0 rfl
  cases G
  exact⟨c0,c1,c2,n,y1,y2,rfl,K,z,A⟩
 | [],h=>cases h
 | [_],h=>cases h
 | [_,_],h=>cases h
 |_::_::_::_::_,h=>simp at h
theorem Xd {e1 q1:TypeId}{f g h:Field}{r:Reach}{b0:Nat}{d:DataW Hh}{qq:List MemPlace}(ht:P.underlying t=some (.struct #[f,g,h]))
  (m:f.offset=0) (O:g.offset=1) (x:h.offset=2) (z:P.cellsOf f.type=1) (J:P.cellsOf g.type=1) (K:P.cellsOf h.type=1) (F:P.cellsOf t=3) (G:P.cellTypes P.depth t=some [f.type,g.type,h.type])
  (L:P.underlying f.type=some (.int .i64)) (l:P.underlying g.type=some (.slice e1)) (B:P.underlying e1=some (.slice q1)) (N:P.underlying q1=some (.int .i64)) (a:P.cellsOf e1=1) (i:P.cellsOf q1=1)
  (k:P.underlying h.type=some (.slice e)) (he:P.underlying e=some (.slice q)) (hq:P.underlying q=some (.slice s)) (R:P.underlying s=some (.int .i64)) (Q:P.cellsOf e=1) (j:P.cellsOf q=1) (b:P.cellsOf s=1)
  (c:Value.okWide P W r b0 t v) (Y:DataW.Trod enc P W base (λ_=>true) held t v d qq)   (I:Ins P W os ps):
  ∃os' ps' n u w ll lll,Ins P W (os++os') (ps++ps')/\VR (Ku (ps++ps')) (.agg [.int .i64 n,u,w]) v/\SR (Go.Ay.H.jP (os++os')) u ll/\ ∃ws,SV (Go.Ay.H.jP (os++os')) w 1 ws/\All2 (SR (Go.Ay.H.jP (os++os'))) ws lll/\ ∀w∈ws,Kn w:=by
 obtain⟨c0,c1,c2,fu,y1,y2,rfl,k0,h1,U⟩:=Lq ht m O x z J K F G c Y
 obtain⟨n,rfl,hn⟩:=Tz L k0
 obtain⟨A,y,u,ll,I1,v1,s1,_,_⟩:=Kd l B N a i h1 I
 obtain⟨o,p,w,lll,I2,v2,ws,s2,Z,k2⟩:=Uv k he hq R Q j b U I1
 refine⟨A++o,y++p,n,u,w,ll,lll,by rw[←oH,←oH];exact I2,?_,?_,ws,by rw[←oH];exact s2,by rw[←oH];exact Z,k2⟩
 ·rw[←oH]
  exact⟨#[.int .i64 n,c1,c2],rfl,rfl,VR.mono (uQ _ _) _ _ v1,v2,trivial⟩
 ·rw[←oH]
  exact s1.mono (Ins.fr _ _)
end
end
end Go.Ay
