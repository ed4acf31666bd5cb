/- The run of a region in the order of the plan, and its replays. -/
import Derived.Test.YtapfcpkecmmagaaGreatAy13
namespace Go.Ay
open Go
section
variable {h:H} {S S':Nat->Bool}
structure Rec where
 x:AI
 vars:List V
 hb:H
 b:Bool
 v:V
 ha:H
def Rec.Xm (r:Rec):Bool:=r.x.it.a.lH||(r.x.al&&r.b)
def Pe (vs:List V)(r:Rec):List V:=(iA r.x.it.d vs [] r.v).1
def oM (S:Nat->Bool)(T:List Rec)(vs:List V):List V:=T.foldl (λvs r=>if S r.x.i then Pe vs r else vs) vs
def fG (base:Nat)(S:Nat->Bool)(h:H)(r:Rec):H:=
 if S r.x.i then (if r.x.it.a.lH then r.ha else if r.x.al&&r.b then h.set (base+r.x.i) (r.ha.get (base+r.x.i)) else h) else h
def iB (base:Nat)(S:Nat->Bool)(T:List Rec)(h:H):H:=T.foldl (fG base S) h
def rI (r:Rec)(log:Log):Log:=if r.b then uF r.x r.vars r.v log else log
def Cy (T:List Rec)(log:Log):Log:=T.foldl (λl r=>rI r l) log
def Us (cl yl:dD)(base:Nat)(log:Log)(r:Rec):Prop:=
 dZ r.vars [] r.x.it.g=some r.b/\kE r.x.cks log r.ha=true/\
 (if r.b then (if r.x.al then uP r.vars r.hb (base+r.x.i) r.x.it.a=some (r.v,r.ha) else gO cl yl r.vars [] r.hb r.x.it.a=some (r.v,r.ha)) else r.v= .undef/\r.ha=r.hb)
def yD (cl yl:dD)(base:Nat):List Rec->List V->Log->H->List V->H->Prop
 | [],vars,_,h,vars',h'=>vars=vars'/\h=h'
 |r::T,vars,log,h,vars',h'=>r.vars=vars/\r.hb=h/\Us cl yl base log r/\yD cl yl base T (Pe vars r) (rI r log) r.ha vars' h'
section
variable {cl yl:dD} {base:Nat}
theorem wI: ∀(xs:List AI) (vars:List V) (log:Log) (h:H) (vars':List V) (h':H),nH cl yl base xs vars log h=some (vars',h')->
  ∃T:List Rec,T.map (·.x)=xs/\yD cl yl base T vars log h vars' h'
 | [],vars,log,h,vars',h',he=>by
  rw[sX] at he;have:vars=vars'/\h=h':=by simpa using he
  exact⟨[],rfl,this⟩
 |x::xs,vars,log,h,vars',h',he=>by
  rw[fI] at he;split at he
  ·rename_i hw
   split at he
   ·rename_i v h1 hact
    split at he
    ·rename_i hlog
     obtain⟨T,hT,hC⟩:=wI xs _ _ _ _ _ he;refine⟨⟨x,vars,h,true,v,h1⟩::T,by simp [hT],rfl,rfl,⟨hw,hlog,?_⟩,hC⟩;simp only[if_true]
     by_cases hal:x.al=true
     ·simp only[hal,if_true] at hact ⊢;exact hact
     ·simp only[hal,if_false] at hact ⊢;exact hact
    ·cases he
   ·cases he
  ·rename_i hw
   split at he
   ·rename_i hlog
    obtain⟨T,hT,hC⟩:=wI xs _ _ _ _ _ he;exact⟨⟨x,vars,h,false,.undef,h⟩::T,by simp [hT],rfl,rfl,⟨hw,hlog,by simp⟩,hC⟩
   ·cases he
  ·cases he
theorem zY {vars:List V}{h':H}{n:Nat}{act:dE}{v:V}(ha:act.iJ=true)(he:uP vars h n act=some (v,h')):
  ∃i o,act= .op i/\i.iJ=true/\o.rw=true/\h'=h.set n (some o)/\ ∀h2:H,h2.next=n->cI (xv vars []) h2 i=some (v,h2.new o):=by
 cases act with
 |op i=>
  simp only[dE.iJ] at ha;simp only[uP] at he;split at he
  ·rename_i v1 h1 hi
   obtain⟨o,e1,e2,e3⟩:=Wv ha hi;cases he;exact⟨i,o,rfl,ha,e1,by rw[e2];rfl,e3⟩
  ·cases he
 |call g args=>simp [dE.iJ] at ha
 |callv x args=>simp [dE.iJ] at ha
 |calli g t x args=>simp [dE.iJ] at ha
 |callp g args=>simp [dE.iJ] at ha
theorem yF {vars:List V}{h':H}{act:dE}{v:V}(hw:act.lH=false)(ha:act.iJ=false)(he:gO cl yl vars [] h act=some (v,h')):
  h'=h/\((∃i,act= .op i/\cI (xv vars []) h i=some (v,h')/\(i.kT=false-> ∀h2,cI (xv vars []) h2 i=some (v,h2)))∨ ∃g args,act= .callp g args):=by
 cases act with
 |op i=>
  rw[lX] at he;simp only[dE.lH,dE.iJ] at hw ha;refine⟨?_,.inl ⟨i,rfl,he,λhr=>(Dq hr ha hw he).2⟩⟩
  by_cases hr:i.kT=true
  ·exact Mg hr he
  ·exact (Dq (by simpa using hr) ha hw he).1
 |call g args=>simp [dE.lH] at hw
 |callv x args=>simp [dE.lH] at hw
 |calli g t x args=>simp [dE.lH] at hw
 |callp g args=>rw[gW] at he;exact⟨(nY he).1,.inr ⟨g,args,rfl⟩⟩
theorem Mo {act:dE}(h:act.iJ=true):act.lH=false:=by
 cases act with
 |op i=>cases i<;>simp_all [dE.iJ,dE.lH,I.iJ,I.lH]
 |_=>simp [dE.iJ] at h
theorem Ri {log:Log}{r:Rec}(hal:r.x.al=r.x.it.a.iJ)(ho:Us cl yl base log r):fG base (λ_=>true) r.hb r=r.ha:=by
 obtain⟨_,_,ho⟩:=ho;simp only[fG,if_true]
 by_cases hw:r.x.it.a.lH=true
 ·simp [hw]
 ·simp only[hw]
  cases hb:r.b with
  |false=>simp only[hb] at ho;simp [ho.2]
  |true=>
   simp only[hb,if_true] at ho
   cases ha:r.x.al with
   |true=>
    simp only[ha,if_true] at ho;obtain⟨i,o,_,_,_,e,_⟩:=zY (hal▸ha) ho;simp [e,H.fD,H.cJ]
   |false=>
    simp only[ha] at ho;obtain⟨e,_⟩:=yF (by simpa using hw) (hal▸ha) ho;simp [e]
theorem nL: ∀(T1 T2:List Rec) (vars:List V) (log:Log) (h:H) (vars':List V) (h':H),(∀r∈T1,r.x.al=r.x.it.a.iJ)->yD cl yl base (T1++T2) vars log h vars' h'->
  yD cl yl base T2 (oM (λ_=>true) T1 vars) (Cy T1 log) (iB base (λ_=>true) T1 h) vars' h'
 | [],T2,vars,log,h,vars',h',_,hc=>hc
 |r::T1,T2,vars,log,h,vars',h',ha,hc=>by
  obtain⟨e1,e2,e3,e4⟩:=hc;have:=nL T1 T2 _ _ _ _ _ (λq hq=>ha q (List.mem_cons_of_mem _ hq)) e4;have hh:=Ri (ha r (List.mem_cons_self ..)) e3;rw[e2] at hh;simpa [oM,iB,Cy,hh] using this
theorem pE {vs:List V}{r:Rec}(hl:r.x.it.qS=false):Pe vs r=match r.x.it.wr with|some k=>vs.set k r.v|none=>vs:=by
 unfold Pe It.wr iA It.qS at*;cases hd:r.x.it.d<;>simp_all
theorem tG {S S':Nat->Bool}{k:Nat}: ∀(T:List Rec) (vs vs':List V),(∀r∈T,r.x.it.qS=false)->vs.length=vs'.length->vs.getD k .undef=vs'.getD k .undef->
  (∀r∈T,r.x.it.wr=some k->S r.x.i=S' r.x.i)->(oM S T vs).getD k .undef=(oM S' T vs').getD k .undef
 | [],_,_,_,_,h,_=>h
 |r::T,vs,vs',hl,hlen,h,hk=>by
  have hr:=hl r (List.mem_cons_self ..);simp only[oM,List.foldl_cons]
  have hlen2: ∀(c:Bool) (us:List V),(if c then Pe us r else us).length=us.length:=by
   intro c us;split
   ·rw[pE hr];split<;>simp
   ·rfl
  refine tG T _ _ (λq hq=>hl q (List.mem_cons_of_mem _ hq)) (by rw[hlen2,hlen2,hlen]) ?_ (λq hq=>hk q (List.mem_cons_of_mem _ hq))
  have key: ∀(c:Bool) (us:List V),r.x.it.wr≠some k->(if c then Pe us r else us).getD k V.undef=us.getD k .undef:=by
   intro c us hne;split
   ·rw[pE hr]
    split
    ·rename_i j hj
     have:j≠k:=λe=>hne (by rw[hj,e])
     simp [List.getD,List.getElem?_set_ne this]
    ·rfl
   ·rfl
  by_cases hw:r.x.it.wr=some k
  ·rw[hk r (List.mem_cons_self ..) hw]
   split
   ·rw[pE hr,pE hr,hw]
    simp only[List.getD,List.getElem?_set_self',hlen]
    by_cases hkl:k<vs'.length
    ·simp [hkl,hlen]
    ·have hkl2: ¬k<vs.length:=by omega
     simp [hkl,hkl2]
   ·exact h
  ·rw[key _ _ hw,key _ _ hw];exact h
theorem Lj {S:Nat->Bool}{r:Rec}(hr:r.x.it.qS=false): ∀(T:List Rec) (vs:List V),(∀q∈T,q.x.it.qS=false)->(∀q∈T,S q.x.i=true-> ∀k,q.x.it.wr=some k->r.x.it.wr≠some k)->
  oM S T (Pe vs r)=Pe (oM S T vs) r
 | [],_,_,_=>rfl
 |q::T,vs,hl,hk=>by
  have hq:=hl q (List.mem_cons_self ..);have ih:=Lj (S:=S) hr T;simp only[oM,List.foldl_cons] at ih ⊢
  by_cases hs:S q.x.i=true
  ·simp only[hs,if_true]
   rw[←ih (Pe vs q) (λy hy=>hl y (List.mem_cons_of_mem _ hy)) (λy hy=>hk y (List.mem_cons_of_mem _ hy))];congr 1;rw[pE hr,pE hq,pE hq,pE hr]
   cases hw:r.x.it.wr with
   |none=>rfl
   |some j=>
    cases hw2:q.x.it.wr with
    |none=>rfl
    |some k=>
     have:j≠k:=λe=>hk q (List.mem_cons_self ..) hs k hw2 (by rw[hw,e])
     simp only;exact List.set_comm _ _ this
  ·simp only[hs,Bool.false_eq_true,if_false]
   exact ih vs (λy hy=>hl y (List.mem_cons_of_mem _ hy)) (λy hy=>hk y (List.mem_cons_of_mem _ hy))
theorem rX {S S':Nat->Bool}: ∀(T:List Rec) (vs:List V),(∀q∈T,S q.x.i=S' q.x.i)->oM S T vs=oM S' T vs
 | [],_,_=>rfl
 |q::T,vs,h=>by
  have ih:=rX (S:=S) (S':=S') T;simp only[oM,List.foldl_cons] at ih ⊢;rw[h q (List.mem_cons_self ..)];exact ih _ (λy hy=>h y (List.mem_cons_of_mem _ hy))
theorem Hb {r:Rec}(hs:r.Xm=true->S r.x.i=S' r.x.i):fG base S h r=fG base S' h r:=by
 by_cases ha:r.Xm=true
 ·simp only[fG,hs ha]
 ·have h1:r.x.it.a.lH=false:=by simp [Rec.Xm] at ha;exact ha.1
  have h2:(r.x.al&&r.b)=false:=by simp [Rec.Xm] at ha;simpa using ha.2
  simp [fG,h1,h2]
theorem oZ {S S':Nat->Bool}: ∀(T:List Rec) (h:H),(∀q∈T,q.Xm=true->S q.x.i=S' q.x.i)->iB base S T h=iB base S' T h
 | [],_,_=>rfl
 |q::T,h,hs=>by
  have ih:=oZ (S:=S) (S':=S') T;simp only[iB,List.foldl_cons] at ih ⊢;rw[Hb (hs q (List.mem_cons_self ..))];exact ih _ (λy hy=>hs y (List.mem_cons_of_mem _ hy))
def Extra (base:Nat)(S:Nat->Bool)(T:List Rec)(id:Nat):Prop:= ∃q∈T,S q.x.i=true/\q.x.al=true/\q.b=true/\base+q.x.i=id
theorem Rg {r:Rec}(hn:S r.x.i=true->r.x.it.a.lH=false):
  fG base S h r=if S r.x.i=true/\r.x.al=true/\r.b=true then h.set (base+r.x.i) (r.ha.get (base+r.x.i)) else h:=by
 unfold fG
 by_cases hs:S r.x.i=true
 ·simp only[hs,if_true,hn hs,Bool.false_eq_true,if_false,true_and,Bool.and_eq_true]
 ·simp [hs]
theorem jT {S:Nat->Bool}: ∀(T:List Rec) (h:H),(∀q∈T,S q.x.i=true->q.x.it.a.lH=false)->
  (iB base S T h).next=h.next/\
  (∀id,¬Extra base S T id->(iB base S T h).get id=h.get id)/\
  (∀id,Extra base S T id-> ∃q∈T,S q.x.i=true/\q.x.al=true/\q.b=true/\base+q.x.i=id/\ ∀h',(iB base S T h').get id=q.ha.get id)
 | [],h,_=>⟨rfl,λ_ _=>rfl,λid he=>by obtain⟨q,hq,_⟩:=he;cases hq⟩
 |r::T,h,hn=>by
  have e:=λh=>Rg (base:=base) (h:=h) (hn r (List.mem_cons_self ..))
  have ih:=λh=>jT T h (λq hq=>hn q (List.mem_cons_of_mem _ hq))
  simp only[iB,List.foldl_cons] at ih ⊢;refine⟨?_,λid hid=>?_,λid hid=>?_⟩
  ·rw[(ih _).1,e]
   split<;>rfl
  ·have h1: ¬Extra base S T id:=λ⟨q,hq,hh⟩=>hid ⟨q,List.mem_cons_of_mem _ hq,hh⟩
   rw[(ih _).2.1 id h1,e];split
   ·rename_i hc
    have:id≠base+r.x.i:=λe=>hid ⟨r,List.mem_cons_self ..,hc.1,hc.2.1,hc.2.2,e.symm⟩
    simp [H.fD,H.cJ,this]
   ·rfl
  ·by_cases h1:Extra base S T id
   ·obtain⟨q,hq,a1,a2,a3,a4,a5⟩:=(ih h).2.2 id h1
    exact⟨q,List.mem_cons_of_mem _ hq,a1,a2,a3,a4,λh'=>a5 _⟩
   ·obtain⟨q,hq,a1,a2,a3,a4⟩:=hid
    rcases List.mem_cons.1 hq with rfl|hq
    ·refine⟨q,List.mem_cons_self ..,a1,a2,a3,a4,λh'=>?_⟩
     rw[(ih _).2.1 id h1,e,if_pos ⟨a1,a2,a3⟩];simp [H.fD,H.cJ,←a4]
    ·exact absurd ⟨q,hq,a1,a2,a3,a4⟩ h1
theorem Db {S:Nat->Bool}{id:Nat}: ∀(T:List Rec) (h:H),h.get id=none->(∀q∈T,S q.x.i=true->q.x.it.a.lH=true->q.ha.get id=none)->(∀q∈T,base+q.x.i≠id)->
  (iB base S T h).get id=none
 | [],h,hn,_,_=>hn
 |r::T,h,hn,h1,h2=>by
  have ih:=Db (S:=S) (id:=id) T;simp only[iB,List.foldl_cons] at ih ⊢;refine ih _ ?_ (λq hq=>h1 q (List.mem_cons_of_mem _ hq)) (λq hq=>h2 q (List.mem_cons_of_mem _ hq));unfold fG;split
  ·rename_i hs
   split
   ·rename_i hw;exact h1 r (List.mem_cons_self ..) hs hw
   ·split
    ·have:id≠base+r.x.i:=λe=>h2 r (List.mem_cons_self ..) e.symm
     simp [H.fD,H.cJ,this,hn]
    ·exact hn
  ·exact hn
theorem Gv {T1 T2:List Rec}:iB base S (T1++T2) h=iB base S T2 (iB base S T1 h):=by simp [iB]
theorem Sa {T1 T2:List Rec}{vs:List V}:oM S (T1++T2) vs=oM S T2 (oM S T1 vs):=by simp [oM]
end
end
end Go.Ay
