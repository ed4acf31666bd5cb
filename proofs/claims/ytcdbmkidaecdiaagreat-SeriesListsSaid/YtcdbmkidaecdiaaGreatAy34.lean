/- Rows of rows, and a matrix, as a law is given them. -/
import Derived.Test.YtcdbmkidaecdiaaGreatAy32
import Derived.Deep.Matrix
namespace Go.Ay
open Go Go.RowKit Go.WideShapes Go.ChangeShapes Go.ChangeAt
section
variable {P:Program} {W:World}
variable {Hh:Type} {enc:TypeId×Value->Hh} {base:Nat} {held:Bool}
theorem Nb {a:Addr}{v:Value}(h:W.cell? a=some v):a.spot=none/\ ∃c el fr,W.heap[a.block]? =some (.cells c el fr)/\c[a.off]? =some v:=by
 unfold World.cell? at h;split at h
 ·rename_i c el fr b
  split at h
  ·cases h
  ·rename_i d
   refine⟨by cases hh:a.spot<;>simp_all,c,el,fr,b,h⟩
 ·cases h
theorem IH {ab b i:Nat}{c:Array Value}{el:TypeId}{fr:Nat×Nat}{v:Value}(a:W.heap[ab]? =some (.cells c el fr))(h:W.cell? (Addr.add ⟨ab,b,none⟩ i)=some v):c[b+i]? =some v:=by
 unfold World.cell? Addr.add at h
 by_cases d:i=0
 ·subst d
  simp only[if_true,a,Option.isSome_none,Bool.false_eq_true,if_false] at h;exact h
 ·simp only[d,if_false,a,Option.isSome_none,Bool.false_eq_true] at h
  exact h
def Kn (u:V):Prop:= ∀id off m c,u= .sl id off m c-> ∃k,c= .kn k/\m<=k
theorem aeW {A:Option Addr}{L C:Nat}{Z:List Int}(s:L<=C)(z:Z.length=C)(y:A=none->C=0)(t: ∀a',A=some a'-> ∀c,c<C->W.cell? (a'.add c)=some (.int .i64 (Z.getD c 0)))
  {m:List Ob} {ps:List (Nat×Nat×Nat)} (I:Ins P W m ps):
  ∃os' ps' u,Ins P W (m++os') (ps++ps')/\VR (BS (ps++ps')) u (.slice A L C)/\SI (Go.Ay.H.mE (m++os')) u (Z.take L)/\u.one=true/\Kn u:=by
 cases A with
 |none=>
  have r:=y rfl;subst r;have j:L=0:=om
  subst j;exact⟨[], [],.aE,by simpa using I,rfl,by simpa using SI.aE _,rfl,λ_ _ _ _ e=>by cases e⟩
 |some a=>
  by_cases r:C=0
  ·subst r
   have j:L=0:=om
   subst j;exact⟨[], [],.emp a,by simpa using I,rfl,by simpa using SI.emp _ a,rfl,λ_ _ _ _ e=>by cases e⟩
  ·have p:=t a rfl
   obtain⟨ab,k,n⟩:=a;have d:=p 0 om;have w:Addr.add ⟨ab,k,n⟩ 0=⟨ab,k,n⟩:=by simp [Addr.add]
   rw[w] at d;obtain⟨o,c,el,fr,b,_⟩:=Nb d;simp only at o b;subst o;have f: ∀i,i<C->c[k+i]? =some (.int .i64 (Z.getD i 0)):=λi hi=>IH b (p i hi)
   have x:k+C<=c.size:=by
    have:=(Wi.1 (f (C- 1) om)).1;omega
   have g:(Z.take L).length=L:=by rw[Cq];omega
   refine⟨[.cells true (ints (Z.take L))], [(ab,k,c.size)],.sl m.length 0 L (.kn C),I.push ⟨c,el,fr,b,rfl,by rw[aP,g];show k+L<=c.size;omega,λi v q=>?_,λh=>by cases h⟩,⟨(ab,k,c.size),C,0,?_,?_,s,λ_=>rfl,rfl,rfl⟩,?_,rfl,λ_ _ _ _ e=>by cases e;exact⟨_,rfl,s⟩⟩
   ·have hi:=(zG.1 q).1
    rw[aP,g] at hi;rw[Sn (by rw[g];exact hi)] at q;simp only[Option.some.injEq] at q;subst q;refine⟨rfl,_,f i om,?_⟩
    have:(Z.take L).getD i 0=Z.getD i 0:=by
     rw[UT,List.getElem?_take_of_lt hi,←UT]
    rw[this];rfl
   ·simp only[BS]
    rw[I.len,Eb (eH _),Nat.sub_self];rfl
   ·rfl
   ·have:=SI.own (h:=Go.Ay.H.mE (m++ [.cells true (ints (Z.take L))])) (id:=m.length) (ro:=true) (l:=Z.take L) (by rw[pW,iA];simp) (by rw[qC,Eb (eH _),Nat.sub_self];rfl) (.kn C)
    rw[g] at this;exact this
theorem aM.snoc {α β:Type}{R:α->β->Prop}{c:List α}{d:List β}{a:α}{b:β}(h:aM R c d)(k:R a b):aM R (c++ [a]) (d++ [b]):=aM.append h ⟨k,trivial⟩
theorem Zq {A:Nat->Option Addr}{L C:Nat->Nat}{Z:Nat->List Int}: ∀(n:Nat),(∀r,r<n->L r<=C r/\(Z r).length=C r/\(A r=none->C r=0)/\ ∀a',A r=some a'-> ∀c,c<C r->W.cell? (a'.add c)=some (.int .i64 ((Z r).getD c 0)))->
  ∀{os:List Ob} {ps:List (Nat×Nat×Nat)},Ins P W os ps-> ∃os' ps' ws,Ins P W (os++os') (ps++ps')/\aM (VR (BS (ps++ps'))) ws ((List.range n).map λr=>Value.slice (A r) (L r) (C r))/\
   aM (SI (Go.Ay.H.mE (os++os'))) ws ((List.range n).map λr=>(Z r).take (L r))/\ ∀w∈ws,w.one=true/\Kn w
 |0,_,os,ps,I=>⟨[], [], [],by simpa using I,trivial,trivial,by simp⟩
 |n+1,h,os,ps,I=>by
  obtain⟨i,f,ws,l,o,q,x⟩:=Zq n (λr B=>h r om) I;obtain⟨s,y,p,z⟩:=h n om;obtain⟨e,j,u,k,v,t,m,g⟩:=aeW s y p z l;rw[rS,rS] at k;refine⟨i++e,f++j,ws++ [u],k,?_,?_,?_⟩
  ·rw[List.range_succ,List.map_append,←rS ps]
   exact aM.snoc (o.mono λa b r=>VR.mono (Gh _ _) _ _ r) v
  ·rw[List.range_succ,List.map_append,←rS os]
   exact aM.snoc (q.mono λa b r=>r.mono (Ins.fr _ _)) t
  ·intro w d
   rcases kT.1 d with d|d
   ·exact x w d
   ·rw[List.mem_singleton.1 d];exact⟨m,g⟩
def SRk (h:H)(u:V)(ll:List (List Int)):Prop:= ∃ws,SV h u 1 ws/\aM (SI h) ws ll/\ ∀w∈ws,Kn w
theorem SRk.sr {h:H}{u:V}{a:List (List Int)}(s:SRk h u a):SR h u a:=by
 obtain⟨b,c,d,_⟩:=s;exact⟨b,c,d⟩
theorem SRk.mono {h h':H}{u:V}{a:List (List Int)}(s:SRk h u a)(f:Fr h h'):SRk h' u a:=by
 obtain⟨c,d,e,b⟩:=s;exact⟨c,d.mono f,e.mono λ_ _ r=>r.mono f,b⟩
theorem SRk.aE (h:H):SRk h .aE []:=⟨[],SV.aE h 1,trivial,λ_ h=>by cases h⟩
end
end Go.Ay
