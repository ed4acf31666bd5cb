/- Rows of rows, and a matrix, as a law is given them. -/
import Derived.Test.YtapfcpkecmmagaaGreatAy32
import Derived.Deep.Matrix
namespace Go.Ay
open Go Go.RowKit Go.WideShapes Go.ChangeShapes Go.ChangeAt
section
variable {P:Program} {W:World}
variable {Hh:Type} {enc:TypeId×Value->Hh} {base:Nat} {held:Bool}
theorem zU {a:Addr}{v:Value}(h:W.cell? a=some v):a.spot=none/\ ∃c el fr,W.heap[a.block]? =some (.cells c el fr)/\c[a.off]? =some v:=by
 unfold World.cell? at h;split at h
 ·rename_i c el fr b
  split at h
  ·cases h
  ·rename_i d
   refine⟨by cases hh:a.spot<;>simp_all,c,el,fr,b,h⟩
 ·cases h
theorem Ou {ab a i:Nat}{c:Array Value}{el:TypeId}{fr:Nat×Nat}{v:Value}(d:W.heap[ab]? =some (.cells c el fr))(h:W.cell? (Addr.add ⟨ab,a,none⟩ i)=some v):c[a+i]? =some v:=by
 unfold World.cell? Addr.add at h
 by_cases b:i=0
 ·subst b
  simp only[if_true,d,Option.isSome_none,Bool.false_eq_true,if_false] at h;exact h
 ·simp only[b,if_false,d,Option.isSome_none,Bool.false_eq_true] at h
  exact h
def Kn (u:V):Prop:= ∀id off m c,u= .sl id off m c-> ∃k,c= .kn k/\m<=k
theorem EY {A:Option Addr}{L C:Nat}{Z:List Int}(t:L<=C)(B:Z.length=C)(y:A=none->C=0)(z: ∀a',A=some a'-> ∀c,c<C->W.cell? (a'.add c)=some (.int .i64 (Z.getD c 0)))
  {m:List Ob} {s:List (Nat×Nat×Nat)} (I:Ins P W m s):
  ∃os' ps' u,Ins P W (m++os') (s++ps')/\VR (Ku (s++ps')) u (.slice A L C)/\SI (Go.Ay.H.jP (m++os')) u (Z.take L)/\u.one=true/\Kn u:=by
 cases A with
 |none=>
  have r:=y rfl;subst r;have k:L=0:=om
  subst k;exact⟨[], [],.aD,by simpa using I,rfl,by simpa using SI.aD _,rfl,λ_ _ _ _ e=>by cases e⟩
 |some a=>
  by_cases r:C=0
  ·subst r
   have k:L=0:=om
   subst k;exact⟨[], [],.emp a,by simpa using I,rfl,by simpa using SI.emp _ a,rfl,λ_ _ _ _ e=>by cases e⟩
  ·have o:=z a rfl
   obtain⟨ab,j,p⟩:=a;have d:=o 0 om;have w:Addr.add ⟨ab,j,p⟩ 0=⟨ab,j,p⟩:=by simp [Addr.add]
   rw[w] at d;obtain⟨n,c,el,fr,b,_⟩:=zU d;simp only at n b;subst n;have f: ∀i,i<C->c[j+i]? =some (.int .i64 (Z.getD i 0)):=λi hi=>Ou b (o i hi)
   have x:j+C<=c.size:=by
    have:=(Gu.1 (f (C- 1) om)).1;omega
   have g:(Z.take L).length=L:=by rw[xV];omega
   refine⟨[.cells true (ints (Z.take L))], [(ab,j,c.size)],.sl m.length 0 L (.kn C),I.push ⟨c,el,fr,b,rfl,by rw[aL,g];show j+L<=c.size;omega,λi v q=>?_,λh=>by cases h⟩,⟨(ab,j,c.size),C,0,?_,?_,t,λ_=>rfl,rfl,rfl⟩,?_,rfl,λ_ _ _ _ e=>by cases e;exact⟨_,rfl,t⟩⟩
   ·have hi:=(xQ.1 q).1
    rw[aL,g] at hi;rw[Da (by rw[g];exact hi)] at q;simp only[Option.some.injEq] at q;subst q;refine⟨rfl,_,f i om,?_⟩
    have:(Z.take L).getD i 0=Z.getD i 0:=by
     rw[Cs,List.getElem?_take_of_lt hi,←Cs]
    rw[this];rfl
   ·simp only[Ku]
    rw[I.len,Dw (fH _),Nat.sub_self];rfl
   ·rfl
   ·have:=SI.own (h:=Go.Ay.H.jP (m++ [.cells true (ints (Z.take L))])) (id:=m.length) (ro:=true) (l:=Z.take L) (by rw[lB,jD];simp) (by rw[kZ,Dw (fH _),Nat.sub_self];rfl) (.kn C)
    rw[g] at this;exact this
theorem All2.snoc {α β:Type}{R:α->β->Prop}{as:List α}{c:List β}{a:α}{b:β}(h:All2 R as c)(k:R a b):All2 R (as++ [a]) (c++ [b]):=All2.append h ⟨k,trivial⟩
theorem Iq {A:Nat->Option Addr}{L C:Nat->Nat}{Z:Nat->List Int}: ∀(n:Nat),(∀r,r<n->L r<=C r/\(Z r).length=C r/\(A r=none->C r=0)/\ ∀a',A r=some a'-> ∀c,c<C r->W.cell? (a'.add c)=some (.int .i64 ((Z r).getD c 0)))->
  ∀{os:List Ob} {ps:List (Nat×Nat×Nat)},Ins P W os ps-> ∃os' ps' ws,Ins P W (os++os') (ps++ps')/\All2 (VR (Ku (ps++ps'))) ws ((List.range n).map λr=>Value.slice (A r) (L r) (C r))/\
   All2 (SI (Go.Ay.H.jP (os++os'))) ws ((List.range n).map λr=>(Z r).take (L r))/\ ∀w∈ws,w.one=true/\Kn w
 |0,_,os,ps,I=>⟨[], [], [],by simpa using I,trivial,trivial,by simp⟩
 |n+1,h,os,ps,I=>by
  obtain⟨f,e,ws,q,y,t,s⟩:=Iq n (λr B=>h r om) I;obtain⟨m,o,z,p⟩:=h n om;obtain⟨i,j,u,k,x,v,l,g⟩:=EY m o z p q;rw[oH,oH] at k;refine⟨f++i,e++j,ws++ [u],k,?_,?_,?_⟩
  ·rw[List.range_succ,List.map_append,←oH ps]
   exact All2.snoc (y.mono λa b r=>VR.mono (uQ _ _) _ _ r) x
  ·rw[List.range_succ,List.map_append,←oH os]
   exact All2.snoc (t.mono λa b r=>r.mono (Ins.fr _ _)) v
  ·intro w d
   rcases sP.1 d with d|d
   ·exact s w d
   ·rw[List.mem_singleton.1 d];exact⟨l,g⟩
def EF (h:H)(u:V)(ll:List (List Int)):Prop:= ∃ws,SV h u 1 ws/\All2 (SI h) ws ll/\ ∀w∈ws,Kn w
theorem EF.sr {h:H}{u:V}{a:List (List Int)}(s:EF h u a):SR h u a:=by
 obtain⟨d,b,c,_⟩:=s;exact⟨d,b,c⟩
theorem EF.mono {h h':H}{u:V}{a:List (List Int)}(s:EF h u a)(f:Fr h h'):EF h' u a:=by
 obtain⟨e,c,d,b⟩:=s;exact⟨e,c.mono f,d.mono λ_ _ r=>r.mono f,b⟩
theorem EF.aD (h:H):EF h .aD []:=⟨[],SV.aD h 1,trivial,λ_ h=>by cases h⟩
end
end Go.Ay
