/- Rows of rows, and a matrix, as a law is given them. -/
import Derived.Test.YtcdbmkidaecdiaaGreatAy32
import Derived.Deep.Matrix
namespace Go.Ay
open Go Go.RowKit Go.WideShapes Go.ChangeShapes Go.ChangeAt
section
variable {P:Program} {W:World}
variable {Hh:Type} {enc:TypeId×Value->Hh} {base:Nat} {held:Bool}
theorem Fv {a:Addr}{v:Value}(h:W.cell? a=some v):a.spot=none/\ ∃c el fr,W.heap[a.block]? =some (.cells c el fr)/\c[a.off]? =some v:=by
 unfold World.cell? at h;split at h
 ·rename_i c el fr b
  split at h
  ·cases h
  ·rename_i d
   refine⟨by cases hh:a.spot<;>simp_all,c,el,fr,b,h⟩
 ·cases h
theorem AQ {ab b i:Nat}{c:Array Value}{el:TypeId}{fr:Nat×Nat}{v:Value}(a:W.heap[ab]? =some (.cells c el fr))(h:W.cell? (Addr.add ⟨ab,b,none⟩ i)=some v):c[b+i]? =some v:=by
 unfold World.cell? Addr.add at h
 by_cases d:i=0
 ·subst d
  simp only[if_true,a,Option.isSome_none,Bool.false_eq_true,if_false] at h;exact h
 ·simp only[d,if_false,a,Option.isSome_none,Bool.false_eq_true] at h
  exact h
def Kn (u:V):Prop:= ∀id off m c,u= .sl id off m c-> ∃k,c= .kn k/\m<=k
theorem aaH {A:Option Addr}{L C:Nat}{Z:List Int}(s:L<=C)(z:Z.length=C)(x:A=none->C=0)(y: ∀a',A=some a'-> ∀c,c<C->W.cell? (a'.add c)=some (.int .i64 (Z.getD c 0)))
  {m:List Ob} {ps:List (Nat×Nat×Nat)} (I:Ins P W m ps):
  ∃os' ps' u,Ins P W (m++os') (ps++ps')/\VR (Wc (ps++ps')) u (.slice A L C)/\SI (Go.Ay.H.yH (m++os')) u (Z.take L)/\u.one=true/\Kn u:=by
 cases A with
 |none=>
  have r:=x rfl;subst r;have k:L=0:=om
  subst k;exact⟨[], [],.aD,by simpa using I,rfl,by simpa using SI.aD _,rfl,λ_ _ _ _ e=>by cases e⟩
 |some a=>
  by_cases r:C=0
  ·subst r
   have k:L=0:=om
   subst k;exact⟨[], [],.emp a,by simpa using I,rfl,by simpa using SI.emp _ a,rfl,λ_ _ _ _ e=>by cases e⟩
  ·have p:=y a rfl
   obtain⟨ab,j,n⟩:=a;have d:=p 0 om;have w:Addr.add ⟨ab,j,n⟩ 0=⟨ab,j,n⟩:=by simp [Addr.add]
   rw[w] at d;obtain⟨o,c,el,fr,b,_⟩:=Fv d;simp only at o b;subst o;have f: ∀i,i<C->c[j+i]? =some (.int .i64 (Z.getD i 0)):=λi hi=>AQ b (p i hi)
   have t:j+C<=c.size:=by
    have:=(HF.1 (f (C- 1) om)).1;omega
   have g:(Z.take L).length=L:=by rw[zO];omega
   refine⟨[.cells true (ints (Z.take L))], [(ab,j,c.size)],.sl m.length 0 L (.kn C),I.push ⟨c,el,fr,b,rfl,by rw[aP,g];show j+L<=c.size;omega,λi v q=>?_,λh=>by cases h⟩,⟨(ab,j,c.size),C,0,?_,?_,s,λ_=>rfl,rfl,rfl⟩,?_,rfl,λ_ _ _ _ e=>by cases e;exact⟨_,rfl,s⟩⟩
   ·have hi:=(vJ.1 q).1
    rw[aP,g] at hi;rw[Sg (by rw[g];exact hi)] at q;simp only[Option.some.injEq] at q;subst q;refine⟨rfl,_,f i om,?_⟩
    have:(Z.take L).getD i 0=Z.getD i 0:=by
     rw[OU,List.getElem?_take_of_lt hi,←OU]
    rw[this];rfl
   ·simp only[Wc]
    rw[I.len,Jg (dT _),Nat.sub_self];rfl
   ·rfl
   ·have:=SI.own (h:=Go.Ay.H.yH (m++ [.cells true (ints (Z.take L))])) (id:=m.length) (ro:=true) (l:=Z.take L) (by rw[uT,iV];simp) (by rw[tV,Jg (dT _),Nat.sub_self];rfl) (.kn C)
    rw[g] at this;exact this
theorem aN.snoc {α β:Type}{R:α->β->Prop}{d:List α}{c:List β}{a:α}{b:β}(h:aN R d c)(k:R a b):aN R (d++ [a]) (c++ [b]):=aN.append h ⟨k,trivial⟩
theorem Rx {A:Nat->Option Addr}{L C:Nat->Nat}{Z:Nat->List Int}: ∀(n:Nat),(∀r,r<n->L r<=C r/\(Z r).length=C r/\(A r=none->C r=0)/\ ∀a',A r=some a'-> ∀c,c<C r->W.cell? (a'.add c)=some (.int .i64 ((Z r).getD c 0)))->
  ∀{os:List Ob} {ps:List (Nat×Nat×Nat)},Ins P W os ps-> ∃os' ps' ws,Ins P W (os++os') (ps++ps')/\aN (VR (Wc (ps++ps'))) ws ((List.range n).map λr=>Value.slice (A r) (L r) (C r))/\
   aN (SI (Go.Ay.H.yH (os++os'))) ws ((List.range n).map λr=>(Z r).take (L r))/\ ∀w∈ws,w.one=true/\Kn w
 |0,_,os,ps,I=>⟨[], [], [],by simpa using I,trivial,trivial,by simp⟩
 |n+1,h,os,ps,I=>by
  obtain⟨e,g,ws,t,x,p,y⟩:=Rx n (λr B=>h r om) I;obtain⟨l,o,m,z⟩:=h n om;obtain⟨i,f,u,k,s,q,v,j⟩:=aaH l o m z t;rw[Lz,Lz] at k;refine⟨e++i,g++f,ws++ [u],k,?_,?_,?_⟩
  ·rw[List.range_succ,List.map_append,←Lz ps]
   exact aN.snoc (x.mono λa b r=>VR.mono (Hp _ _) _ _ r) s
  ·rw[List.range_succ,List.map_append,←Lz os]
   exact aN.snoc (p.mono λa b r=>r.mono (Ins.fr _ _)) q
  ·intro w d
   rcases oD.1 d with d|d
   ·exact y w d
   ·rw[List.mem_singleton.1 d];exact⟨v,j⟩
def SRk (h:H)(u:V)(ll:List (List Int)):Prop:= ∃ws,SV h u 1 ws/\aN (SI h) ws ll/\ ∀w∈ws,Kn w
theorem SRk.sr {h:H}{u:V}{a:List (List Int)}(s:SRk h u a):SR h u a:=by
 obtain⟨b,c,d,_⟩:=s;exact⟨b,c,d⟩
theorem SRk.mono {h h':H}{u:V}{a:List (List Int)}(s:SRk h u a)(f:Fr h h'):SRk h' u a:=by
 obtain⟨d,b,e,c⟩:=s;exact⟨d,b.mono f,e.mono λ_ _ r=>r.mono f,c⟩
theorem SRk.aD (h:H):SRk h .aD []:=⟨[],SV.aD h 1,trivial,λ_ h=>by cases h⟩
end
end Go.Ay
