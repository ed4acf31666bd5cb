/- Rows of rows, and a matrix, as a law is given them. -/
import Derived.Test.YtapfcpkecmmagaaGreatAy32
import Derived.Deep.Matrix
namespace Go.Ay
open Go Go.RowKit Go.WideShapes Go.ChangeShapes Go.ChangeAt
section
variable {P:Program} {W:World}
variable {Hh:Type} {enc:TypeId×Value->Hh} {base:Nat} {held:Bool}
theorem Ch {a:Addr}{v:Value}(h:W.cell? a=some v):a.spot=none/\ ∃c el fr,W.heap[a.block]? =some (.cells c el fr)/\c[a.off]? =some v:=by
 unfold World.cell? at h;split at h
 ·rename_i c el fr b
  split at h
  ·cases h
  ·rename_i d
   refine⟨by cases hh:a.spot<;>simp_all,c,el,fr,b,h⟩
 ·cases h
theorem Pt {ab b i:Nat}{c:Array Value}{el:TypeId}{fr:Nat×Nat}{v:Value}(d:W.heap[ab]? =some (.cells c el fr))(h:W.cell? (Addr.add ⟨ab,b,none⟩ i)=some v):c[b+i]? =some v:=by
 unfold World.cell? Addr.add at h
 by_cases a:i=0
 ·subst a
  simp only[if_true,d,Option.isSome_none,Bool.false_eq_true,if_false] at h;exact h
 ·simp only[a,if_false,d,Option.isSome_none,Bool.false_eq_true] at h
  exact h
def Kn (u:V):Prop:= ∀id off m c,u= .sl id off m c-> ∃k,c= .kn k/\m<=k
theorem GI {A:Option Addr}{L C:Nat}{Z:List Int}(t:L<=C)(B:Z.length=C)(z:A=none->C=0)(w: ∀a',A=some a'-> ∀c,c<C->W.cell? (a'.add c)=some (.int .i64 (Z.getD c 0)))
  {m:List Ob} {r:List (Nat×Nat×Nat)} (I:Ins P W m r):
  ∃os' ps' u,Ins P W (m++os') (r++ps')/\VR (Hr (r++ps')) u (.slice A L C)/\SI (Go.Ay.H.iT (m++os')) u (Z.take L)/\u.one=true/\Kn u:=by
 cases A with
 |none=>
  have s:=z rfl;subst s;have k:L=0:=om
  subst k;exact⟨[], [],.aD,by simpa using I,rfl,by simpa using SI.aD _,rfl,λ_ _ _ _ e=>by cases e⟩
 |some a=>
  by_cases s:C=0
  ·subst s
   have k:L=0:=om
   subst k;exact⟨[], [],.emp a,by simpa using I,rfl,by simpa using SI.emp _ a,rfl,λ_ _ _ _ e=>by cases e⟩
  ·have n:=w a rfl
   obtain⟨ab,j,o⟩:=a;have d:=n 0 om;have y:Addr.add ⟨ab,j,o⟩ 0=⟨ab,j,o⟩:=by simp [Addr.add]
   rw[y] at d;obtain⟨p,c,el,fr,b,_⟩:=Ch d;simp only at p b;subst p;have f: ∀i,i<C->c[j+i]? =some (.int .i64 (Z.getD i 0)):=λi hi=>Pt b (n i hi)
   have x:j+C<=c.size:=by
    have:=(Er.1 (f (C- 1) om)).1;omega
   have g:(Z.take L).length=L:=by rw[xF];omega
   refine⟨[.cells true (ints (Z.take L))], [(ab,j,c.size)],.sl m.length 0 L (.kn C),I.push ⟨c,el,fr,b,rfl,by rw[aL,g];show j+L<=c.size;omega,λi v q=>?_,λh=>by cases h⟩,⟨(ab,j,c.size),C,0,?_,?_,t,λ_=>rfl,rfl,rfl⟩,?_,rfl,λ_ _ _ _ e=>by cases e;exact⟨_,rfl,t⟩⟩
   ·have hi:=(xI.1 q).1
    rw[aL,g] at hi;rw[wH (by rw[g];exact hi)] at q;simp only[Option.some.injEq] at q;subst q;refine⟨rfl,_,f i om,?_⟩
    have:(Z.take L).getD i 0=Z.getD i 0:=by
     rw[zB,List.getElem?_take_of_lt hi,←zB]
    rw[this];rfl
   ·simp only[Hr]
    rw[I.len,Cq (eS _),Nat.sub_self];rfl
   ·rfl
   ·have:=SI.own (h:=Go.Ay.H.iT (m++ [.cells true (ints (Z.take L))])) (id:=m.length) (ro:=true) (l:=Z.take L) (by rw[kB,iZ];simp) (by rw[kG,Cq (eS _),Nat.sub_self];rfl) (.kn C)
    rw[g] at this;exact this
theorem All2.snoc {α β:Type}{R:α->β->Prop}{as:List α}{c:List β}{a:α}{b:β}(h:All2 R as c)(k:R a b):All2 R (as++ [a]) (c++ [b]):=All2.append h ⟨k,trivial⟩
theorem Kl {A:Nat->Option Addr}{L C:Nat->Nat}{Z:Nat->List Int}: ∀(n:Nat),(∀r,r<n->L r<=C r/\(Z r).length=C r/\(A r=none->C r=0)/\ ∀a',A r=some a'-> ∀c,c<C r->W.cell? (a'.add c)=some (.int .i64 ((Z r).getD c 0)))->
  ∀{os:List Ob} {ps:List (Nat×Nat×Nat)},Ins P W os ps-> ∃os' ps' ws,Ins P W (os++os') (ps++ps')/\All2 (VR (Hr (ps++ps'))) ws ((List.range n).map λr=>Value.slice (A r) (L r) (C r))/\
   All2 (SI (Go.Ay.H.iT (os++os'))) ws ((List.range n).map λr=>(Z r).take (L r))/\ ∀w∈ws,w.one=true/\Kn w
 |0,_,os,ps,I=>⟨[], [], [],by simpa using I,trivial,trivial,by simp⟩
 |n+1,h,os,ps,I=>by
  obtain⟨e,f,ws,m,t,l,q⟩:=Kl n (λr B=>h r om) I;obtain⟨s,y,o,x⟩:=h n om;obtain⟨i,j,u,k,z,p,v,g⟩:=GI s y o x m;rw[oF,oF] at k;refine⟨e++i,f++j,ws++ [u],k,?_,?_,?_⟩
  ·rw[List.range_succ,List.map_append,←oF ps]
   exact All2.snoc (t.mono λa b r=>VR.mono (kU _ _) _ _ r) z
  ·rw[List.range_succ,List.map_append,←oF os]
   exact All2.snoc (l.mono λa b r=>r.mono (Ins.fr _ _)) p
  ·intro w d
   rcases sZ.1 d with d|d
   ·exact q w d
   ·rw[List.mem_singleton.1 d];exact⟨v,g⟩
def EE (h:H)(u:V)(ll:List (List Int)):Prop:= ∃ws,SV h u 1 ws/\All2 (SI h) ws ll/\ ∀w∈ws,Kn w
theorem EE.sr {h:H}{u:V}{a:List (List Int)}(s:EE h u a):SR h u a:=by
 obtain⟨b,d,c,_⟩:=s;exact⟨b,d,c⟩
theorem EE.mono {h h':H}{u:V}{a:List (List Int)}(s:EE h u a)(f:Fr h h'):EE h' u a:=by
 obtain⟨b,d,c,e⟩:=s;exact⟨b,d.mono f,c.mono λ_ _ r=>r.mono f,e⟩
theorem EE.aD (h:H):EE h .aD []:=⟨[],SV.aD h 1,trivial,λ_ h=>by cases h⟩
theorem Hl {H:Type}{enc:TypeId×Value->H}{P:Program}{w:World}{base:Nat}{f:Nat->Bool}{held:Bool}{a b c d e:TypeId}{args:Array Value}{ds:List (DataW H)}{i:List MemPlace}
  (h:DataW.TrodAll enc P w base f held [a,b,c,d,e] args.toList ds i):
  ∃va vb vc vd ve da db dc dd de pa pb pc pd pe,args= #[va,vb,vc,vd,ve]/\ds= [da,db,dc,dd,de]/\i=pa++pb++pc++pd++pe/\DataW.Trod enc P w base f held a va da pa/\DataW.Trod enc P w base f held b vb db pb/\DataW.Trod enc P w base f held c vc dc pc/\DataW.Trod enc P w base f held d vd dd pd/\DataW.Trod enc P w base f held e ve de pe:=by
 obtain⟨x,g,A,g,m,g,g,rfl,rfl,o,l⟩:=trodAll_cons h
 obtain⟨F,g,v,g,r,g,rfl,rfl,rfl,B,G⟩:=trodAll_cons l
 obtain⟨q,g,s,g,n,g,rfl,rfl,rfl,K,k⟩:=trodAll_cons G
 obtain⟨L,g,N,g,y,g,rfl,rfl,rfl,u,t⟩:=trodAll_cons k
 obtain⟨O,g,j,g,p,g,rfl,rfl,rfl,J,z⟩:=trodAll_cons t
 obtain⟨rfl,rfl,rfl⟩:=trodAll_nil z
 exact⟨x,F,q,L,O,A,v,s,N,j,m,r,n,y,p,by cases args;simp_all,rfl,by simp,o,B,K,u,J⟩
end
end Go.Ay
