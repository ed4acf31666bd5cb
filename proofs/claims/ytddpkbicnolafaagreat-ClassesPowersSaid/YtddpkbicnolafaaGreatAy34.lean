/- Rows of rows, and a matrix, as a law is given them. -/
import Derived.Test.YtddpkbicnolafaaGreatAy32
import Derived.Deep.Matrix
namespace Go.Ay
open Go Go.RowKit Go.WideShapes Go.ChangeShapes Go.ChangeAt
section
variable {P:Program} {W:World}
variable {Hh:Type} {enc:TypeId×Value->Hh} {base:Nat} {held:Bool}
theorem Ju {a:Addr}{v:Value}(h:W.cell? a=some v):a.spot=none/\ ∃c el fr,W.heap[a.block]? =some (.cells c el fr)/\c[a.off]? =some v:=by
 unfold World.cell? at h;split at h
 ·rename_i c el fr hc
  split at h
  ·cases h
  ·rename_i hs
   refine⟨by cases hh:a.spot<;>simp_all,c,el,fr,hc,h⟩
 ·cases h
theorem Zp {ab ao i:Nat}{c:Array Value}{el:TypeId}{fr:Nat×Nat}{v:Value}(hc:W.heap[ab]? =some (.cells c el fr))(h:W.cell? (Addr.add ⟨ab,ao,none⟩ i)=some v):c[ao+i]? =some v:=by
 unfold World.cell? Addr.add at h
 by_cases h0:i=0
 ·subst h0
  simp only[if_true,hc,Option.isSome_none,Bool.false_eq_true,if_false] at h;exact h
 ·simp only[h0,if_false,hc,Option.isSome_none,Bool.false_eq_true] at h
  exact h
def Kn (u:V):Prop:= ∀id off m c,u= .sl id off m c-> ∃k,c= .kn k/\m<=k
theorem XM {A:Option Addr}{L C:Nat}{Z:List Int}(hL:L<=C)(hZ:Z.length=C)(hn:A=none->C=0)(hc: ∀a',A=some a'-> ∀c,c<C->W.cell? (a'.add c)=some (.int .i64 (Z.getD c 0)))
  {os:List Ob} {ps:List (Nat×Nat×Nat)} (I:Ins P W os ps):
  ∃os' ps' u,Ins P W (os++os') (ps++ps')/\VR (Vf (ps++ps')) u (.slice A L C)/\SI (Go.Ay.H.mX (os++os')) u (Z.take L)/\u.one=true/\Kn u:=by
 cases A with
 |none=>
  have h0:=hn rfl;subst h0;have hl0:L=0:=by omega
  subst hl0;exact⟨[], [],.aC,by simpa using I,rfl,by simpa using SI.aC _,rfl,λ_ _ _ _ e=>by cases e⟩
 |some a=>
  by_cases h0:C=0
  ·subst h0
   have hl0:L=0:=by omega
   subst hl0;exact⟨[], [],.emp a,by simpa using I,rfl,by simpa using SI.emp _ a,rfl,λ_ _ _ _ e=>by cases e⟩
  ·have hcc:=hc a rfl
   obtain⟨ab,ao,asp⟩:=a;have hfirst:=hcc 0 (by omega);have e0:Addr.add ⟨ab,ao,asp⟩ 0=⟨ab,ao,asp⟩:=by simp [Addr.add]
   rw[e0] at hfirst;obtain⟨hsp,c,el,fr,hcells,_⟩:=Ju hfirst;simp only at hsp hcells;subst hsp;have hcell: ∀i,i<C->c[ao+i]? =some (.int .i64 (Z.getD i 0)):=λi hi=>Zp hcells (hcc i hi)
   have hle:ao+C<=c.size:=by
    have:=(Array.getElem?_eq_some_iff.1 (hcell (C- 1) (by omega))).1;omega
   have hlt:(Z.take L).length=L:=by rw[Nn];omega
   refine⟨[.cells true (ints (Z.take L))], [(ab,ao,c.size)],.sl os.length 0 L (.kn C),I.push ⟨c,el,fr,hcells,rfl,by rw[aM,hlt];show ao+L<=c.size;omega,λi v hv=>?_,λh=>by cases h⟩,⟨(ab,ao,c.size),C,0,?_,?_,hL,λ_=>rfl,rfl,rfl⟩,?_,rfl,λ_ _ _ _ e=>by cases e;exact⟨_,rfl,hL⟩⟩
   ·have hi:=(List.getElem?_eq_some_iff.1 hv).1
    rw[aM,hlt] at hi;rw[Nx (by rw[hlt];exact hi)] at hv;simp only[Option.some.injEq] at hv;subst hv;refine⟨rfl,_,hcell i (by omega),?_⟩
    have:(Z.take L).getD i 0=Z.getD i 0:=by
     rw[List.getD_eq_getElem?_getD,List.getElem?_take_of_lt hi,←List.getD_eq_getElem?_getD]
    rw[this];rfl
   ·simp only[Vf]
    rw[I.len,List.getElem?_append_right (gV _),Nat.sub_self];rfl
   ·rfl
   ·have:=SI.own (h:=Go.Ay.H.mX (os++ [.cells true (ints (Z.take L))])) (id:=os.length) (ro:=true) (l:=Z.take L) (by rw[qK,pW];simp) (by rw[pY,List.getElem?_append_right (gV _),Nat.sub_self];rfl) (.kn C)
    rw[hlt] at this;exact this
theorem aZ.snoc {α β:Type}{R:α->β->Prop}{as:List α}{bs:List β}{a:α}{b:β}(h:aZ R as bs)(k:R a b):aZ R (as++ [a]) (bs++ [b]):=aZ.append h ⟨k,trivial⟩
theorem Rj {A:Nat->Option Addr}{L C:Nat->Nat}{Z:Nat->List Int}: ∀(n:Nat),(∀r,r<n->L r<=C r/\(Z r).length=C r/\(A r=none->C r=0)/\ ∀a',A r=some a'-> ∀c,c<C r->W.cell? (a'.add c)=some (.int .i64 ((Z r).getD c 0)))->
  ∀{os:List Ob} {ps:List (Nat×Nat×Nat)},Ins P W os ps-> ∃os' ps' ws,Ins P W (os++os') (ps++ps')/\aZ (VR (Vf (ps++ps'))) ws ((List.range n).map λr=>Value.slice (A r) (L r) (C r))/\
   aZ (SI (Go.Ay.H.mX (os++os'))) ws ((List.range n).map λr=>(Z r).take (L r))/\ ∀w∈ws,w.one=true/\Kn w
 |0,_,os,ps,I=>⟨[], [], [],by simpa using I,trivial,trivial,by simp⟩
 |n+1,h,os,ps,I=>by
  obtain⟨os1,ps1,ws,I1,v1,s1,o1⟩:=Rj n (λr hr=>h r (by omega)) I;obtain⟨h1,h2,h3,h4⟩:=h n (by omega);obtain⟨os2,ps2,u,I2,v2,s2,o2,kn2⟩:=XM h1 h2 h3 h4 I1;rw[List.append_assoc,List.append_assoc] at I2;refine⟨os1++os2,ps1++ps2,ws++ [u],I2,?_,?_,?_⟩
  ·rw[List.range_succ,List.map_append,←List.append_assoc ps]
   exact aZ.snoc (v1.mono λa b r=>VR.mono (Ci _ _) _ _ r) v2
  ·rw[List.range_succ,List.map_append,←List.append_assoc os]
   exact aZ.snoc (s1.mono λa b r=>r.mono (Ins.fr _ _)) s2
  ·intro w hw
   rcases Bw.1 hw with hw|hw
   ·exact o1 w hw
   ·rw[List.mem_singleton.1 hw];exact⟨o2,kn2⟩
def ZC (h:H)(u:V)(ll:List (List Int)):Prop:= ∃ws,SV h u 1 ws/\aZ (SI h) ws ll/\ ∀w∈ws,Kn w
theorem ZC.sr {h:H}{u:V}{ll:List (List Int)}(s:ZC h u ll):SR h u ll:=by
 obtain⟨ws,h1,h2,_⟩:=s;exact⟨ws,h1,h2⟩
theorem ZC.mono {h h':H}{u:V}{ll:List (List Int)}(s:ZC h u ll)(f:Fr h h'):ZC h' u ll:=by
 obtain⟨ws,h1,h2,h3⟩:=s;exact⟨ws,h1.mono f,h2.mono λ_ _ r=>r.mono f,h3⟩
theorem ZC.aC (h:H):ZC h .aC []:=⟨[],SV.aC h 1,trivial,λ_ h=>by cases h⟩
end
end Go.Ay
