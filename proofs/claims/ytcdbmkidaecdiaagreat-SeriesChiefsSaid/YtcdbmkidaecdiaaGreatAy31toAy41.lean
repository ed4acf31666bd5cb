/- Texts of the claim. -/
import Derived.Test.YtcdbmkidaecdiaaGreatAy18toP6a
import Derived.Test.YtcdbmkidaecdiaaGreatAy1toAy17
import Derived.ChangeSlices
import Derived.ChangeSame
import Derived.Deep.Matrix
import Derived.Deep.Strs
set_option maxRecDepth 100000
namespace Go.Ay
open Go Go.RowKit Go.WideShapes Go.ChangeShapes Go.ChangeAt
section
variable {P:Program} {W:World}
def Xy (ps:List (Nat×Nat×Nat)):M:=λid=>ps[id]?
theorem Df (ps a:List (Nat×Nat×Nat)):Ext (Xy ps) (Xy (ps++a)):=λid p h=>by
 simp only[Xy] at*;rw[wU (rW.1 h).1];exact h
structure Ins (P:Program)(W:World)(os:List Ob)(ps:List (Nat×Nat×Nat)):Prop where
 len:os.length=ps.length
 ok:(i:Nat)->(o:Ob)->(p:Nat×Nat×Nat)->os[i]? =some o->ps[i]? =some p->o.rw=false/\OR P (Xy ps) o p W
theorem Ins.nil:Ins P W [] []:=⟨rfl,λi o p h=>by simp at h⟩
theorem Ins.push {c:List Ob}{ps:List (Nat×Nat×Nat)}(I:Ins P W c ps){vs:List V}{p:Nat×Nat×Nat}(h:OR P (Xy ps) (.cells true vs) p W):Ins P W (c++ [.cells true vs]) (ps++ [p]):=by
 refine⟨by rw[iB,iB,I.len];rfl,λi o q a b=>?_⟩
 by_cases hi:i<c.length
 .rw[wU hi] at a
  rw[wU (by rw[<-I.len];exact hi)] at b;obtain⟨j,f⟩:=I.ok i o q a b;exact⟨j,f.mono (Df _ _) rfl⟩
 .rw[zT om] at a
  rw[zT (by have:=I.len;omega)] at b
  have d:i-c.length=0:=by
   have:=(rW.1 a).1;simp at this;omega
  rw[d] at a;rw[<-I.len,d] at b;simp only[List.getElem?_cons_zero,Option.some.injEq] at a b;subst a;subst b;exact⟨rfl,h.mono (Df _ _) rfl⟩
theorem Ins.fr (c b:List Ob):Fr (Go.Ay.H.mX c) (Go.Ay.H.mX (c++b)):=by
 refine⟨by rw[qC,qC,iB];omega,λid a=>?_⟩;rw[qC] at a;rw[pW,pW,wU a]
variable {Hh:Type} {enc:TypeId×Value->Hh} {base:Nat} {held:Bool}
theorem JL {C:Checked}{u:List Ob}{ps:List (Nat×Nat×Nat)}{T:Nat->Option Fn}{g:Nat}{f:Func}{vs:List V}{s:ChangeSpec}{args:Array Value}{ds y:List (DataW Hh)}{c:List MemPlace}{tb:TypeId}{b fresh a d:Bool}
  (K:C.prog.follows .mixedOrders=true) (B:POk C.prog T) (G:laidOutB C.prog=true)
  (n:Ev T g vs (Go.Ay.H.mX u) (λv _=>v= .bool true)) (I:Ins C.prog W u ps) (q:iQ (Xy ps) vs args.toList)
  (l:s.vars= []) (k:f.params.toList.all (λt=>C.prog.readableRec t&&decide (t<C.prog.types.size))=true)
  (p:f.resultTypes= #[tb]) (r:C.prog.underlying tb=some .bool)
  (A:DataW.Whole enc C.prog f.params.toList s.vars b W args.toList ds y c)
  (h:(s.fn Hh (ds++y))={results:= [.lit (.bool true)],args:=ds}):
  Calls C.prog g args W λe W'=> ∃v,e= .returned v/\s.post enc C.prog f b fresh a d W args v W':=by
 obtain⟨N,L,O,m,rfl⟩:=n
 have m:=m N (eU N)
 obtain⟨J,j⟩:=LZ (P:=C.prog) (w:=W) I.len I.ok
 refine (Sx K B m (xs:=args) q J j).mono λe W' ⟨x,m',m,q,hadv⟩=>?_
 have:x= .bool true:=q
 subst this
 refine⟨_,m,RF (tb:=tb) G l k p r A h (hadv.below (PO λo F=>?_))⟩
 obtain⟨i,hi⟩:=List.getElem?_of_mem F
 have z:=(rW.1 hi).1
 exact (I.ok i o _ hi (dC (by have:=I.len;omega))).1
end
end Go.Ay
namespace Go.Ay
open Go Go.RowKit Go.WideShapes Go.ChangeShapes Go.ChangeAt
section
variable {P:Program} {W:World}
variable {Hh:Type} {enc:TypeId×Value->Hh} {base:Nat} {held:Bool}
theorem QW {t:TypeId}{r:Reach}{c:Nat}{v:Value}(d:P.underlying t=some (.int .i64))(a:Cell.okWide P W r c t v): ∃n,v= .int .i64 n/\(-9223372036854775808<=n/\n<9223372036854775808):=by
 have b:Cell.ok P W r c t v:=by simpa only[Cell.okWide,d] using a
 have h:IntKind.i64.min= -9223372036854775808:=deC
 have j:IntKind.i64.max=9223372036854775807:=deC
 simp only[Cell.ok,d] at b;cases v<;>first|exact b.elim|skip
 rename_i k n;obtain⟨rfl,f,i⟩:=b;rw[h] at f;rw[j] at i;exact⟨n,rfl,f,om⟩
end
end Go.Ay
namespace Go.Ay
open Go Go.RowKit Go.WideShapes Go.ChangeShapes Go.ChangeAt
section
variable {P:Program} {W:World}
variable {Hh:Type} {enc:TypeId×Value->Hh} {base:Nat} {held:Bool}
theorem Jk {a:Addr}{v:Value}(h:W.cell? a=some v):a.spot=none/\ ∃c el fr,W.heap[a.block]? =some (.cells c el fr)/\c[a.off]? =some v:=by
 unfold World.cell? at h;split at h
 .rename_i c el fr b
  split at h
  .cases h
  .rename_i d
   refine⟨by cases hh:a.spot<;>simp_all,c,el,fr,b,h⟩
 .cases h
theorem DG {ab b i:Nat}{c:Array Value}{el:TypeId}{fr:Nat×Nat}{v:Value}(d:W.heap[ab]? =some (.cells c el fr))(h:W.cell? (Addr.add ⟨ab,b,none⟩ i)=some v):c[b+i]? =some v:=by
 unfold World.cell? Addr.add at h
 by_cases a:i=0
 .subst a
  simp only[if_true,d,Option.isSome_none,Bool.false_eq_true,if_false] at h;exact h
 .simp only[a,if_false,d,Option.isSome_none,Bool.false_eq_true] at h
  exact h
def Kn (u:V):Prop:= ∀id off m c,u= .sl id off m c-> ∃k,c= .kn k/\m<=k
theorem acO {A:Option Addr}{L C:Nat}{Z:List Int}(t:L<=C)(B:Z.length=C)(x:A=none->C=0)(z: ∀a',A=some a'-> ∀c,c<C->W.cell? (a'.add c)=some (.int .i64 (Z.getD c 0)))
  {n:List Ob} {ps:List (Nat×Nat×Nat)} (I:Ins P W n ps):
  ∃os' ps' u,Ins P W (n++os') (ps++ps')/\VR (Xy (ps++ps')) u (.slice A L C)/\SI (Go.Ay.H.mX (n++os')) u (Z.take L)/\u.one=true/\Kn u:=by
 cases A with
 |none=>
  have s:=x rfl;subst s;have k:L=0:=om
  subst k;exact⟨[], [],.aD,by simpa using I,rfl,by simpa using SI.aD _,rfl,λ_ _ _ _ e=>by cases e⟩
 |some a=>
  by_cases s:C=0
  .subst s
   have k:L=0:=om
   subst k;exact⟨[], [],.emp a,by simpa using I,rfl,by simpa using SI.emp _ a,rfl,λ_ _ _ _ e=>by cases e⟩
  .have p:=z a rfl
   have⟨ab,m,o⟩:=a;have d:=p 0 om;have w:Addr.add ⟨ab,m,o⟩ 0=⟨ab,m,o⟩:=by simp [Addr.add]
   rw[w] at d;obtain⟨q,c,el,fr,b,_⟩:=Jk d;simp only at q b;subst q;have f: ∀i,i<C->c[m+i]? =some (.int .i64 (Z.getD i 0)):=λi hi=>DG b (p i hi)
   have y:m+C<=c.size:=by
    have:=(Wq.1 (f (C- 1) om)).1;omega
   have j:(Z.take L).length=L:=by rw[wH];omega
   refine⟨[.cells true (ints (Z.take L))], [(ab,m,c.size)],.sl n.length 0 L (.kn C),I.push ⟨c,el,fr,b,rfl,by rw[aN,j];show m+L<=c.size;omega,λi v r=>?_,λh=>by cases h⟩,⟨(ab,m,c.size),C,0,?_,?_,t,λ_=>rfl,rfl,rfl⟩,?_,rfl,λ_ _ _ _ e=>by cases e;exact⟨_,rfl,t⟩⟩
   .have hi:=(rW.1 r).1
    rw[aN,j] at hi;rw[Lx (by rw[j];exact hi)] at r;simp only[Option.some.injEq] at r;subst r;refine⟨rfl,_,f i om,?_⟩
    have:(Z.take L).getD i 0=Z.getD i 0:=by
     rw[Zo,List.getElem?_take_of_lt hi,<-Zo]
    rw[this];rfl
   .simp only[Xy]
    rw[I.len,zT (eU _),Nat.sub_self];rfl
   .rfl
   .have:=SI.own (h:=Go.Ay.H.mX (n++ [.cells true (ints (Z.take L))])) (id:=n.length) (ro:=true) (l:=Z.take L) (by rw[qC,iB];simp) (by rw[pW,zT (eU _),Nat.sub_self];rfl) (.kn C)
    rw[j] at this;exact this
theorem aJ.snoc {α β:Type}{R:α->β->Prop}{c:List α}{d:List β}{a:α}{b:β}(h:aJ R c d)(k:R a b):aJ R (c++ [a]) (d++ [b]):=aJ.append h ⟨k,trivial⟩
theorem Vz {A:Nat->Option Addr}{L C:Nat->Nat}{Z:Nat->List Int}:(n:Nat)->(∀r,r<n->L r<=C r/\(Z r).length=C r/\(A r=none->C r=0)/\ ∀a',A r=some a'-> ∀c,c<C r->W.cell? (a'.add c)=some (.int .i64 ((Z r).getD c 0)))->
  ∀{os:List Ob} {ps:List (Nat×Nat×Nat)},Ins P W os ps-> ∃os' ps' ws,Ins P W (os++os') (ps++ps')/\aJ (VR (Xy (ps++ps'))) ws ((List.range n).map λr=>Value.slice (A r) (L r) (C r))/\
   aJ (SI (Go.Ay.H.mX (os++os'))) ws ((List.range n).map λr=>(Z r).take (L r))/\ ∀w∈ws,w.one=true/\Kn w
 |0,_,os,ps,I=>⟨[], [], [],by simpa using I,trivial,trivial,siM⟩
 |n+1,h,os,ps,I=>by
  obtain⟨j,l,ws,t,z,q,F⟩:=Vz n (λr G=>h r om) I;obtain⟨y,o,s,x⟩:=h n om;obtain⟨f,i,u,m,p,v,B,k⟩:=acO y o s x t;rw[pJ,pJ] at m;refine⟨j++f,l++i,ws++ [u],m,?_,?_,?_⟩
  .rw[List.range_succ,List.map_append,<-pJ ps]
   exact aJ.snoc (z.mono λa b r=>VR.mono (Df _ _) _ _ r) p
  .rw[List.range_succ,List.map_append,<-pJ os]
   exact aJ.snoc (q.mono λa b r=>r.mono (Ins.fr _ _)) v
  .intro w d
   rcases jO.1 d with d|d
   .exact F w d
   .rw[List.mem_singleton.1 d];exact⟨B,k⟩
def SRk (h:H)(u:V)(ll:List (List Int)):Prop:= ∃ws,SV h u 1 ws/\aJ (SI h) ws ll/\ ∀w∈ws,Kn w
theorem SRk.sr {h:H}{u:V}{a:List (List Int)}(s:SRk h u a):SR h u a:=by
 have⟨c,b,d,_⟩:=s;exact⟨c,b,d⟩
theorem SRk.mono {h h':H}{u:V}{a:List (List Int)}(s:SRk h u a)(f:Fr h h'):SRk h' u a:=by
 have⟨c,b,i,d⟩:=s;exact⟨c,b.mono f,i.mono λ_ _ r=>r.mono f,d⟩
theorem SRk.aD (h:H):SRk h .aD []:=⟨[],SV.aD h 1,trivial,λ_ h=>by cases h⟩
end
end Go.Ay
namespace Go.Ay
open Go Go.RowKit Go.WideShapes Go.ChangeShapes Go.ChangeAt
section
variable {os:List Ob} {ps:List (Nat×Nat×Nat)} {t e q s:TypeId} {v:Value}
section
variable {P:Program} {W:World}
variable {Hh:Type} {enc:TypeId×Value->Hh} {base:Nat} {held:Bool}
theorem CQ {x:Nat->Value}{ws:List V}{a:Addr}{len f:Nat}(h3:len<=f)(K:0<f-> ∃v,W.cell? a=some v)(o: ∀i,i<len->W.cell? (a.add i)=some (x i))(l:ws.length=len)
    (I:Ins P W os ps) (F:aJ (VR (Xy ps)) ws ((List.range len).map x)) (G: ∀w∈ws,w.one=true):
  ∃os' ps' u,Ins P W (os++os') (ps++ps')/\VR (Xy (ps++ps')) u (.slice (some a) len f)/\SV (Go.Ay.H.mX (os++os')) u 1 ws/\u.one=true/\Kn u:=by
 by_cases A:f=0
 .subst A
  have:len=0:=om
  subst this
  have:ws= []:=List.length_eq_zero_iff.1 l
  subst this
  exact⟨[], [],.emp a,by simpa using I,rfl,SV.emp _ a 1,rfl,λ_ _ _ _ e=>by cases e⟩
 obtain⟨v,p⟩:=K om
 have⟨ab,m,B⟩:=a
 obtain⟨n,c,el,fr,b,d⟩:=Jk p
 simp only at n b d
 subst n
 have j: ∀i,i<len->c[m+i]? =some (x i):=λi hi=>DG b (o i hi)
 have y:m+len<=c.size:=by
  have L:=(Wq.1 d).1
  cases len with
  |zero=>omega
  |succ k=>
   have:=(Wq.1 (j k om)).1;omega
 have J:Ins P W (os++ [.cells true ws]) (ps++ [(ab,m,c.size)]):=I.push ⟨c,el,fr,b,rfl,by rw[l];exact y,λi v o=>by
  have hi:=(rW.1 o).1;rw[l] at hi;have r:=F.get i om (by simpa using hi);rw[List.getElem_map,List.getElem_range] at r;have z:ws[i]'om=v:=(rW.1 o).2;rw[z] at r
  exact⟨G v (by rw[<-z];exact pN _),_,j i hi,r⟩,λh=>by cases h⟩
 refine⟨[.cells true ws], [(ab,m,c.size)],.sl os.length 0 len (.kn f),J,⟨(ab,m,c.size),f,0,?_,rfl,h3,λ_=>rfl,rfl,rfl⟩,?_,rfl,λ_ _ _ _ e=>by cases e;exact⟨_,rfl,h3⟩⟩
 .simp only[Xy]
  rw[I.len,zT (eU _),Nat.sub_self];rfl
 .exact SV.all (by rw[l,qZ]) (by rw[qC,iB];simp) (by rw[pW,zT (eU _),Nat.sub_self];rfl) _
theorem Tp {f:Nat}{x:DataW Hh×List MemPlace}(N:P.underlying t=some (.slice e))(he:P.underlying e=some (.slice q))(Q:P.underlying q=some (.int .i64))(m:P.cellsOf e=1)(l:P.cellsOf q=1)
  (B:DataW.trod enc P W base (λ_=>true) held f t [v]=some x)   (I:Ins P W os ps):
  ∃os' ps' u ll,Ins P W (os++os') (ps++ps')/\VR (Xy (ps++ps')) u v/\SR (Go.Ay.H.mX (os++os')) u ll/\u.one=true/\Kn u:=by
 rcases Go.Deep.open_int_rows N he Q m l B with ⟨d,h2⟩|⟨a,len,Y,A,L,C,Z,d,_,h3,h4,_,c⟩
 .simp only[List.cons.injEq,and_true] at d
  subst d
  exact⟨[], [],.aD, [],by simpa using I,rfl,SR.aD _,rfl,λ_ _ _ _ e=>by cases e⟩
 .simp only[List.cons.injEq,and_true] at d
  subst d
  obtain⟨j,o,z,O,y,s1,o1⟩:=Vz (P:=P) len (λr hr=>by
   obtain⟨_,a2,_,a4,_,a6,J⟩:=c r om
   exact⟨a2,a4,a6,λR p=>(J R p).2⟩) I
  have k:z.length=len:=by rw[y.length];simp
  obtain⟨h,n,u,I2,G,F,U,ku⟩:=CQ h3 (λK=>⟨_,by have:=(c 0 K).1;rwa [show a.add 0=a by simp [Addr.add]] at this⟩) (λi hi=>(c i om).1) k O y (λw hw=>(o1 w hw).1)
  refine⟨j++h,o++n,u,(List.range len).map λr=>(Z r).take (L r),by rw[<-pJ,<-pJ];exact I2,by rw[<-pJ];exact G,⟨z,by rw[<-pJ];exact F,?_⟩,U,ku⟩
  rw[<-pJ]
  exact s1.mono λa b r=>r.mono (Ins.fr _ _)
theorem Xc {e q s:TypeId}{A:Nat->Value}(z:P.underlying e=some (.slice q))(p:P.underlying q=some (.slice s))(o:P.underlying s=some (.int .i64))(d:P.cellsOf q=1)(f:P.cellsOf s=1):(n:Nat)->(∀r,r<n-> ∃fuel x,DataW.trod enc P W base (λ_=>true) held fuel e [A r]=some x)->
  ∀{os:List Ob} {ps:List (Nat×Nat×Nat)},Ins P W os ps-> ∃os' ps' ws lll,Ins P W (os++os') (ps++ps')/\aJ (VR (Xy (ps++ps'))) ws ((List.range n).map A)/\aJ (SR (Go.Ay.H.mX (os++os'))) ws lll/\ ∀w∈ws,w.one=true/\Kn w
 |0,_,os,ps,I=>⟨[], [], [], [],by simpa using I,trivial,trivial,siM⟩
 |n+1,h,os,ps,I=>by
  obtain⟨k,m,ws,lll,J,N,G,Q⟩:=Xc z p o d f n (λr R=>h r om) I;obtain⟨U,x,K⟩:=h n om;obtain⟨i,j,u,L,B,F,y,O,l⟩:=Tp z p o d f K J;rw[pJ,pJ] at B;refine⟨k++i,m++j,ws++ [u],lll++ [L],B,?_,?_,?_⟩
  .rw[List.range_succ,List.map_append,<-pJ ps]
   exact aJ.snoc (N.mono λa b r=>VR.mono (Df _ _) _ _ r) F
  .rw[<-pJ os]
   exact aJ.snoc (G.mono λa b r=>r.mono (Ins.fr _ _)) (by rw[pJ];rw[pJ] at y;exact y)
  .intro w c
   rcases jO.1 c with c|c
   .exact Q w c
   .rw[List.mem_singleton.1 c];exact⟨O,l⟩
theorem LR {d:Nat}{x:DataW Hh×List MemPlace}(O:P.underlying t=some (.slice e))(he:P.underlying e=some (.slice q))(R:P.underlying q=some (.slice s))(hs:P.underlying s=some (.int .i64))(o:P.cellsOf e=1)(k:P.cellsOf q=1)(y:P.cellsOf s=1)
  (J:DataW.trod enc P W base (λ_=>true) held d t [v]=some x)   (I:Ins P W os ps):
  ∃os' ps' u lll,Ins P W (os++os') (ps++ps')/\VR (Xy (ps++ps')) u v/\ ∃ws,SV (Go.Ay.H.mX (os++os')) u 1 ws/\aJ (SR (Go.Ay.H.mX (os++os'))) ws lll/\ ∀w∈ws,Kn w:=by
 rcases Go.Deep.open_slice1 O o J with ⟨c,h2⟩|⟨a,len,U,m,n,V0,D,Pl,c,_,h3,h4,G,_,z⟩
 .simp only[List.cons.injEq,and_true] at c
  subst c
  exact⟨[], [],.aD, [],by simpa using I,rfl, [],SV.aD _ 1,trivial,siM⟩
 .simp only[List.cons.injEq,and_true] at c
  subst c
  simp only[if_true] at G
  subst G
  obtain⟨h,A,ws,lll,Q,B,Z,F⟩:=Xc (P:=P) he R hs k y len (λr hr=>⟨_,_,(z r om).2⟩) I
  have j:ws.length=len:=by rw[B.length];simp
  obtain⟨f,p,u,Y,L,K,ou,ku⟩:=CQ h3 (λN=>⟨_,by have:=(z 0 N).1;rwa [show a.add 0=a by simp [Addr.add]] at this⟩) (λi hi=>(z i om).1) j Q B (λw l=>(F w l).1)
  refine⟨h++f,A++p,u,lll,by rw[<-pJ,<-pJ];exact Y,by rw[<-pJ];exact L,ws,by rw[<-pJ];exact K,?_,λw l=>(F w l).2⟩
  rw[<-pJ]
  exact Z.mono λa b r=>r.mono (Ins.fr _ _)
theorem Yv {b i f:Field}{r:Reach}{F:Nat}{d:DataW Hh}{q:List MemPlace}(A:P.underlying t=some (.struct #[b,i,f]))
  (K:b.offset=0) (m:i.offset=1) (y:f.offset=2) (L:P.cellsOf b.type=1) (x:P.cellsOf i.type=1) (o:P.cellsOf f.type=1) (w:P.cellsOf t=3) (p:P.cellTypes P.depth t=some [b.type,i.type,f.type])
  (a:Value.okWide P W r F t v) (k:DataW.Trod enc P W base (λ_=>true) held t v d q):
  ∃c0 c1 c2 n y1 y2,v= .agg #[c0,c1,c2]/\Cell.okWide P W r F b.type c0/\DataW.trod enc P W base (λ_=>true) held n i.type [c1]=some y1/\DataW.trod enc P W base (λ_=>true) held n f.type [c2]=some y2:=by
 have⟨B,k⟩:=k
 simp only[Value.okWide,A] at a
 obtain⟨O,rfl,j,U,c,_,u⟩:=a
 rw[w] at j
 rw[p] at c
 cases c
 have⟨l⟩:=O
 match l,j with
 | [c0,c1,c2],_=>
  obtain⟨R,y1,y2,n,_,_,Q,G,z⟩:=Go.Deep.trod_struct3 A k
  rw[m,x] at G
  rw[y,o] at z
  obtain⟨Y,J,N⟩:=u 0 c0 rfl
  cases J
  exact⟨c0,c1,c2,n,y1,y2,rfl,N,G,z⟩
 | [],h=>cases h
 | [_],h=>cases h
 | [_,_],h=>cases h
 |_::_::_::_::_,h=>simp at h
theorem TR {e1 q1:TypeId}{a b i:Field}{r:Reach}{b0:Nat}{d:DataW Hh}{qq:List MemPlace}(Z:P.underlying t=some (.struct #[a,b,i]))
  (m:a.offset=0) (F:b.offset=1) (Q:i.offset=2) (p:P.cellsOf a.type=1) (R:P.cellsOf b.type=1) (J:P.cellsOf i.type=1) (A:P.cellsOf t=3) (K:P.cellTypes P.depth t=some [a.type,b.type,i.type])
  (N:P.underlying a.type=some (.int .i64)) (x:P.underlying b.type=some (.slice e1)) (L:P.underlying e1=some (.slice q1)) (k:P.underlying q1=some (.int .i64)) (h:P.cellsOf e1=1) (c:P.cellsOf q1=1)
  (z:P.underlying i.type=some (.slice e)) (he:P.underlying e=some (.slice q)) (hq:P.underlying q=some (.slice s)) (hs:P.underlying s=some (.int .i64)) (B:P.cellsOf e=1) (y:P.cellsOf q=1) (j:P.cellsOf s=1)
  (f:Value.okWide P W r b0 t v) (U:DataW.Trod enc P W base (λ_=>true) held t v d qq)   (I:Ins P W os ps):
  ∃os' ps' n u w ll lll,Ins P W (os++os') (ps++ps')/\VR (Xy (ps++ps')) (.agg [.int .i64 n,u,w]) v/\SR (Go.Ay.H.mX (os++os')) u ll/\ ∃ws,SV (Go.Ay.H.mX (os++os')) w 1 ws/\aJ (SR (Go.Ay.H.mX (os++os'))) ws lll/\ ∀w∈ws,Kn w:=by
 obtain⟨c0,c1,c2,fu,y1,y2,rfl,k0,h1,Y⟩:=Yv Z m F Q p R J A K f U
 obtain⟨n,rfl,hn⟩:=QW N k0
 obtain⟨o,O,u,ll,I1,v1,s1,_,_⟩:=Tp x L k h c h1 I
 obtain⟨l,G,w,lll,I2,v2,ws,s2,a2,k2⟩:=LR z he hq hs B y j Y I1
 refine⟨o++l,O++G,n,u,w,ll,lll,by rw[<-pJ,<-pJ];exact I2,?_,?_,ws,by rw[<-pJ];exact s2,by rw[<-pJ];exact a2,k2⟩
 .rw[<-pJ]
  exact⟨#[.int .i64 n,c1,c2],rfl,rfl,VR.mono (Df _ _) _ _ v1,v2,trivial⟩
 .rw[<-pJ]
  exact s1.mono (Ins.fr _ _)
end
end
end Go.Ay
