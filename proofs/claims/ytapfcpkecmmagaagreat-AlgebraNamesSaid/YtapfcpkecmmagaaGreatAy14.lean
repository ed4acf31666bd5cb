/- The run of a region in the order of the plan, and its replays. -/
import Derived.Test.YtapfcpkecmmagaaGreatAy13
namespace Go.Ay
open Go
section
variable {h:H} {S S':Nat->Bool}
structure Rec where
 x:AI
 vars:List V
 hb:H
 b:Bool
 v:V
 ha:H
def Rec.YM (r:Rec):Bool:=r.x.it.a.rW||(r.x.al&&r.b)
def IT (vs:List V)(r:Rec):List V:=(lK r.x.it.d vs [] r.v).1
def wU (S:Nat->Bool)(T:List Rec)(vs:List V):List V:=T.foldl (λvs r=>if S r.x.i then IT vs r else vs) vs
def iV (base:Nat)(S:Nat->Bool)(h:H)(r:Rec):H:=
 if S r.x.i then (if r.x.it.a.rW then r.ha else if r.x.al&&r.b then h.set (base+r.x.i) (r.ha.get (base+r.x.i)) else h) else h
def lC (base:Nat)(S:Nat->Bool)(T:List Rec)(h:H):H:=T.foldl (iV base S) h
def Bh (r:Rec)(log:Log):Log:=if r.b then Ew r.x r.vars r.v log else log
def Rm (T:List Rec)(log:Log):Log:=T.foldl (λl r=>Bh r l) log
def UE (cl yl:dP)(base:Nat)(log:Log)(r:Rec):Prop:=
 fO r.vars [] r.x.it.g=some r.b/\pL r.x.cks log r.ha=true/\
 (if r.b then (if r.x.al then Jd r.vars r.hb (base+r.x.i) r.x.it.a=some (r.v,r.ha) else kZ cl yl r.vars [] r.hb r.x.it.a=some (r.v,r.ha)) else r.v= .undef/\r.ha=r.hb)
def Lw (cl yl:dP)(base:Nat):List Rec->List V->Log->H->List V->H->Prop
 | [],vars,_,h,vars',h'=>vars=vars'/\h=h'
 |r::T,vars,log,h,vars',h'=>r.vars=vars/\r.hb=h/\UE cl yl base log r/\Lw cl yl base T (IT vars r) (Bh r log) r.ha vars' h'
section
variable {cl yl:dP} {base:Nat}
theorem Ie: ∀(xs:List AI) (vars:List V) (log:Log) (h:H) (vars':List V) (h':H),uL cl yl base xs vars log h=some (vars',h')->
  ∃T:List Rec,T.map (·.x)=xs/\Lw cl yl base T vars log h vars' h'
 | [],vars,log,h,vars',h',he=>by
  rw[Dr] at he;have:vars=vars'/\h=h':=by simpa using he
  exact⟨[],rfl,this⟩
 |x::xs,vars,log,h,vars',h',he=>by
  rw[iY] at he;split at he
  ·rename_i hw
   split at he
   ·rename_i v h1 hact
    split at he
    ·rename_i hlog
     obtain⟨T,hT,hC⟩:=Ie xs _ _ _ _ _ he;refine⟨⟨x,vars,h,true,v,h1⟩::T,by simp [hT],rfl,rfl,⟨hw,hlog,?_⟩,hC⟩;simp only[if_true]
     by_cases hal:x.al=true
     ·simp only[hal,if_true] at hact ⊢;exact hact
     ·simp only[hal,if_false] at hact ⊢;exact hact
    ·cases he
   ·cases he
  ·rename_i hw
   split at he
   ·rename_i hlog
    obtain⟨T,hT,hC⟩:=Ie xs _ _ _ _ _ he;exact⟨⟨x,vars,h,false,.undef,h⟩::T,by simp [hT],rfl,rfl,⟨hw,hlog,by simp⟩,hC⟩
   ·cases he
  ·cases he
theorem Ng {vars:List V}{h':H}{n:Nat}{act:dU}{v:V}(ha:act.mC=true)(he:Jd vars h n act=some (v,h')):
  ∃i o,act= .op i/\i.mC=true/\o.rw=true/\h'=h.set n (some o)/\ ∀h2:H,h2.next=n->cG (xv vars []) h2 i=some (v,h2.new o):=by
 cases act with
 |op i=>
  simp only[dU.mC] at ha;simp only[Jd] at he;split at he
  ·rename_i v1 h1 hi
   obtain⟨o,e1,e2,e3⟩:=WA ha hi;cases he;exact⟨i,o,rfl,ha,e1,by rw[e2];rfl,e3⟩
  ·cases he
 |call g args=>simp [dU.mC] at ha
 |callv x args=>simp [dU.mC] at ha
 |calli g t x args=>simp [dU.mC] at ha
 |callp g args=>simp [dU.mC] at ha
theorem Li {vars:List V}{h':H}{act:dU}{v:V}(hw:act.rW=false)(ha:act.mC=false)(he:kZ cl yl vars [] h act=some (v,h')):
  h'=h/\((∃i,act= .op i/\cG (xv vars []) h i=some (v,h')/\(i.qM=false-> ∀h2,cG (xv vars []) h2 i=some (v,h2)))∨ ∃g args,act= .callp g args):=by
 cases act with
 |op i=>
  rw[rS] at he;simp only[dU.rW,dU.mC] at hw ha;refine⟨?_,.inl ⟨i,rfl,he,λhr=>(Tm hr ha hw he).2⟩⟩
  by_cases hr:i.qM=true
  ·exact JF hr he
  ·exact (Tm (by simpa using hr) ha hw he).1
 |call g args=>simp [dU.rW] at hw
 |callv x args=>simp [dU.rW] at hw
 |calli g t x args=>simp [dU.rW] at hw
 |callp g args=>rw[lF] at he;exact⟨(vB he).1,.inr ⟨g,args,rfl⟩⟩
theorem MM {act:dU}(h:act.mC=true):act.rW=false:=by
 cases act with
 |op i=>cases i<;>simp_all [dU.mC,dU.rW,I.mC,I.rW]
 |_=>simp [dU.mC] at h
theorem RU {log:Log}{r:Rec}(hal:r.x.al=r.x.it.a.mC)(ho:UE cl yl base log r):iV base (λ_=>true) r.hb r=r.ha:=by
 obtain⟨_,_,ho⟩:=ho;simp only[iV,if_true]
 by_cases hw:r.x.it.a.rW=true
 ·simp [hw]
 ·simp only[hw]
  cases hb:r.b with
  |false=>simp only[hb] at ho;simp [ho.2]
  |true=>
   simp only[hb,if_true] at ho
   cases ha:r.x.al with
   |true=>
    simp only[ha,if_true] at ho;obtain⟨i,o,_,_,_,e,_⟩:=Ng (hal▸ha) ho;simp [e,H.iU,H.cK]
   |false=>
    simp only[ha] at ho;obtain⟨e,_⟩:=Li (by simpa using hw) (hal▸ha) ho;simp [e]
theorem uT: ∀(T1 T2:List Rec) (vars:List V) (log:Log) (h:H) (vars':List V) (h':H),(∀r∈T1,r.x.al=r.x.it.a.mC)->Lw cl yl base (T1++T2) vars log h vars' h'->
  Lw cl yl base T2 (wU (λ_=>true) T1 vars) (Rm T1 log) (lC base (λ_=>true) T1 h) vars' h'
 | [],T2,vars,log,h,vars',h',_,hc=>hc
 |r::T1,T2,vars,log,h,vars',h',ha,hc=>by
  obtain⟨e1,e2,e3,e4⟩:=hc;have:=uT T1 T2 _ _ _ _ _ (λq hq=>ha q (List.mem_cons_of_mem _ hq)) e4;have hh:=RU (ha r (List.mem_cons_self ..)) e3;rw[e2] at hh;simpa [wU,lC,Rm,hh] using this
theorem wW {vs:List V}{r:Rec}(hl:r.x.it.zK=false):IT vs r=match r.x.it.wr with|some k=>vs.set k r.v|none=>vs:=by
 unfold IT It.wr lK It.zK at*;cases hd:r.x.it.d<;>simp_all
theorem Cz {S S':Nat->Bool}{k:Nat}: ∀(T:List Rec) (vs vs':List V),(∀r∈T,r.x.it.zK=false)->vs.length=vs'.length->vs.getD k .undef=vs'.getD k .undef->
  (∀r∈T,r.x.it.wr=some k->S r.x.i=S' r.x.i)->(wU S T vs).getD k .undef=(wU S' T vs').getD k .undef
 | [],_,_,_,_,h,_=>h
 |r::T,vs,vs',hl,hlen,h,hk=>by
  have hr:=hl r (List.mem_cons_self ..);simp only[wU,List.foldl_cons]
  have hlen2: ∀(c:Bool) (us:List V),(if c then IT us r else us).length=us.length:=by
   intro c us;split
   ·rw[wW hr];split<;>simp
   ·rfl
  refine Cz T _ _ (λq hq=>hl q (List.mem_cons_of_mem _ hq)) (by rw[hlen2,hlen2,hlen]) ?_ (λq hq=>hk q (List.mem_cons_of_mem _ hq))
  have key: ∀(c:Bool) (us:List V),r.x.it.wr≠some k->(if c then IT us r else us).getD k V.undef=us.getD k .undef:=by
   intro c us hne;split
   ·rw[wW hr]
    split
    ·rename_i j hj
     have:j≠k:=λe=>hne (by rw[hj,e])
     simp [List.getD,List.getElem?_set_ne this]
    ·rfl
   ·rfl
  by_cases hw:r.x.it.wr=some k
  ·rw[hk r (List.mem_cons_self ..) hw]
   split
   ·rw[wW hr,wW hr,hw]
    simp only[List.getD,List.getElem?_set_self',hlen]
    by_cases hkl:k<vs'.length
    ·simp [hkl,hlen]
    ·have hkl2: ¬k<vs.length:=by omega
     simp [hkl,hkl2]
   ·exact h
  ·rw[key _ _ hw,key _ _ hw];exact h
theorem JU {S:Nat->Bool}{r:Rec}(hr:r.x.it.zK=false): ∀(T:List Rec) (vs:List V),(∀q∈T,q.x.it.zK=false)->(∀q∈T,S q.x.i=true-> ∀k,q.x.it.wr=some k->r.x.it.wr≠some k)->
  wU S T (IT vs r)=IT (wU S T vs) r
 | [],_,_,_=>rfl
 |q::T,vs,hl,hk=>by
  have hq:=hl q (List.mem_cons_self ..);have ih:=JU (S:=S) hr T;simp only[wU,List.foldl_cons] at ih ⊢
  by_cases hs:S q.x.i=true
  ·simp only[hs,if_true]
   rw[←ih (IT vs q) (λy hy=>hl y (List.mem_cons_of_mem _ hy)) (λy hy=>hk y (List.mem_cons_of_mem _ hy))];congr 1;rw[wW hr,wW hq,wW hq,wW hr]
   cases hw:r.x.it.wr with
   |none=>rfl
   |some j=>
    cases hw2:q.x.it.wr with
    |none=>rfl
    |some k=>
     have:j≠k:=λe=>hk q (List.mem_cons_self ..) hs k hw2 (by rw[hw,e])
     simp only;exact List.set_comm _ _ this
  ·simp only[hs,Bool.false_eq_true,if_false]
   exact ih vs (λy hy=>hl y (List.mem_cons_of_mem _ hy)) (λy hy=>hk y (List.mem_cons_of_mem _ hy))
theorem Bf {S S':Nat->Bool}: ∀(T:List Rec) (vs:List V),(∀q∈T,S q.x.i=S' q.x.i)->wU S T vs=wU S' T vs
 | [],_,_=>rfl
 |q::T,vs,h=>by
  have ih:=Bf (S:=S) (S':=S') T;simp only[wU,List.foldl_cons] at ih ⊢;rw[h q (List.mem_cons_self ..)];exact ih _ (λy hy=>h y (List.mem_cons_of_mem _ hy))
theorem Zn {r:Rec}(hs:r.YM=true->S r.x.i=S' r.x.i):iV base S h r=iV base S' h r:=by
 by_cases ha:r.YM=true
 ·simp only[iV,hs ha]
 ·have h1:r.x.it.a.rW=false:=by simp [Rec.YM] at ha;exact ha.1
  have h2:(r.x.al&&r.b)=false:=by simp [Rec.YM] at ha;simpa using ha.2
  simp [iV,h1,h2]
theorem wZ {S S':Nat->Bool}: ∀(T:List Rec) (h:H),(∀q∈T,q.YM=true->S q.x.i=S' q.x.i)->lC base S T h=lC base S' T h
 | [],_,_=>rfl
 |q::T,h,hs=>by
  have ih:=wZ (S:=S) (S':=S') T;simp only[lC,List.foldl_cons] at ih ⊢;rw[Zn (hs q (List.mem_cons_self ..))];exact ih _ (λy hy=>hs y (List.mem_cons_of_mem _ hy))
def Extra (base:Nat)(S:Nat->Bool)(T:List Rec)(id:Nat):Prop:= ∃q∈T,S q.x.i=true/\q.x.al=true/\q.b=true/\base+q.x.i=id
theorem TO {r:Rec}(hn:S r.x.i=true->r.x.it.a.rW=false):
  iV base S h r=if S r.x.i=true/\r.x.al=true/\r.b=true then h.set (base+r.x.i) (r.ha.get (base+r.x.i)) else h:=by
 unfold iV
 by_cases hs:S r.x.i=true
 ·simp only[hs,if_true,hn hs,Bool.false_eq_true,if_false,true_and,Bool.and_eq_true]
 ·simp [hs]
theorem oW {S:Nat->Bool}: ∀(T:List Rec) (h:H),(∀q∈T,S q.x.i=true->q.x.it.a.rW=false)->
  (lC base S T h).next=h.next/\
  (∀id,¬Extra base S T id->(lC base S T h).get id=h.get id)/\
  (∀id,Extra base S T id-> ∃q∈T,S q.x.i=true/\q.x.al=true/\q.b=true/\base+q.x.i=id/\ ∀h',(lC base S T h').get id=q.ha.get id)
 | [],h,_=>⟨rfl,λ_ _=>rfl,λid he=>by obtain⟨q,hq,_⟩:=he;cases hq⟩
 |r::T,h,hn=>by
  have e:=λh=>TO (base:=base) (h:=h) (hn r (List.mem_cons_self ..))
  have ih:=λh=>oW T h (λq hq=>hn q (List.mem_cons_of_mem _ hq))
  simp only[lC,List.foldl_cons] at ih ⊢;refine⟨?_,λid hid=>?_,λid hid=>?_⟩
  ·rw[(ih _).1,e]
   split<;>rfl
  ·have h1: ¬Extra base S T id:=λ⟨q,hq,hh⟩=>hid ⟨q,List.mem_cons_of_mem _ hq,hh⟩
   rw[(ih _).2.1 id h1,e];split
   ·rename_i hc
    have:id≠base+r.x.i:=λe=>hid ⟨r,List.mem_cons_self ..,hc.1,hc.2.1,hc.2.2,e.symm⟩
    simp [H.iU,H.cK,this]
   ·rfl
  ·by_cases h1:Extra base S T id
   ·obtain⟨q,hq,a1,a2,a3,a4,a5⟩:=(ih h).2.2 id h1
    exact⟨q,List.mem_cons_of_mem _ hq,a1,a2,a3,a4,λh'=>a5 _⟩
   ·obtain⟨q,hq,a1,a2,a3,a4⟩:=hid
    rcases List.mem_cons.1 hq with rfl|hq
    ·refine⟨q,List.mem_cons_self ..,a1,a2,a3,a4,λh'=>?_⟩
     rw[(ih _).2.1 id h1,e,if_pos ⟨a1,a2,a3⟩];simp [H.iU,H.cK,←a4]
    ·exact absurd ⟨q,hq,a1,a2,a3,a4⟩ h1
theorem Ql {S:Nat->Bool}{id:Nat}: ∀(T:List Rec) (h:H),h.get id=none->(∀q∈T,S q.x.i=true->q.x.it.a.rW=true->q.ha.get id=none)->(∀q∈T,base+q.x.i≠id)->
  (lC base S T h).get id=none
 | [],h,hn,_,_=>hn
 |r::T,h,hn,h1,h2=>by
  have ih:=Ql (S:=S) (id:=id) T;simp only[lC,List.foldl_cons] at ih ⊢;refine ih _ ?_ (λq hq=>h1 q (List.mem_cons_of_mem _ hq)) (λq hq=>h2 q (List.mem_cons_of_mem _ hq));unfold iV;split
  ·rename_i hs
   split
   ·rename_i hw;exact h1 r (List.mem_cons_self ..) hs hw
   ·split
    ·have:id≠base+r.x.i:=λe=>h2 r (List.mem_cons_self ..) e.symm
     simp [H.iU,H.cK,this,hn]
    ·exact hn
  ·exact hn
theorem Yl {T1 T2:List Rec}:lC base S (T1++T2) h=lC base S T2 (lC base S T1 h):=by simp [lC]
theorem PS {T1 T2:List Rec}{vs:List V}:wU S (T1++T2) vs=wU S T2 (wU S T1 vs):=by simp [wU]
end
end
end Go.Ay
