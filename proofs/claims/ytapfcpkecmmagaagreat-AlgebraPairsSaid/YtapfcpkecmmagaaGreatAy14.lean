/- The run of a region in the order of the plan, and its replays. -/
import Derived.Test.YtapfcpkecmmagaaGreatAy13
namespace Go.Ay
open Go
section
variable {h:H} {S S':Nat->Bool}
structure Rec where
 x:AI
 vars:List V
 hb:H
 b:Bool
 v:V
 ha:H
def Rec.aff (r:Rec):Bool:=r.x.it.a.tA||(r.x.al&&r.b)
def LZ (vs:List V)(r:Rec):List V:=(lW r.x.it.d vs [] r.v).1
def xZ (S:Nat->Bool)(T:List Rec)(vs:List V):List V:=T.foldl (λvs r=>if S r.x.i then LZ vs r else vs) vs
def jG (base:Nat)(S:Nat->Bool)(h:H)(r:Rec):H:=
 if S r.x.i then (if r.x.it.a.tA then r.ha else if r.x.al&&r.b then h.set (base+r.x.i) (r.ha.get (base+r.x.i)) else h) else h
def lN (base:Nat)(S:Nat->Bool)(T:List Rec)(h:H):H:=T.foldl (jG base S) h
def Dk (r:Rec)(log:Log):Log:=if r.b then Gu r.x r.vars r.v log else log
def Tp (T:List Rec)(log:Log):Log:=T.foldl (λl r=>Dk r l) log
def XC (cl yl:dW)(base:Nat)(log:Log)(r:Rec):Prop:=
 fY r.vars [] r.x.it.g=some r.b/\qM r.x.cks log r.ha=true/\
 (if r.b then (if r.x.al then Ht r.vars r.hb (base+r.x.i) r.x.it.a=some (r.v,r.ha) else lT cl yl r.vars [] r.hb r.x.it.a=some (r.v,r.ha)) else r.v= .undef/\r.ha=r.hb)
def Lu (cl yl:dW)(base:Nat):List Rec->List V->Log->H->List V->H->Prop
 | [],vars,_,h,vars',h'=>vars=vars'/\h=h'
 |r::T,vars,log,h,vars',h'=>r.vars=vars/\r.hb=h/\XC cl yl base log r/\Lu cl yl base T (LZ vars r) (Dk r log) r.ha vars' h'
section
variable {cl yl:dW} {base:Nat}
theorem Ia: ∀(xs:List AI) (vars:List V) (log:Log) (h:H) (vars':List V) (h':H),vW cl yl base xs vars log h=some (vars',h')->
  ∃T:List Rec,T.map (·.x)=xs/\Lu cl yl base T vars log h vars' h'
 | [],vars,log,h,vars',h',he=>by
  rw[Ei] at he;have:vars=vars'/\h=h':=by simpa using he
  exact⟨[],rfl,this⟩
 |x::xs,vars,log,h,vars',h',he=>by
  rw[jK] at he;split at he
  ·rename_i hw
   split at he
   ·rename_i v h1 hact
    split at he
    ·rename_i hlog
     obtain⟨T,hT,hC⟩:=Ia xs _ _ _ _ _ he;refine⟨⟨x,vars,h,true,v,h1⟩::T,by simp [hT],rfl,rfl,⟨hw,hlog,?_⟩,hC⟩;simp only[if_true]
     by_cases hal:x.al=true
     ·simp only[hal,if_true] at hact ⊢;exact hact
     ·simp only[hal,if_false] at hact ⊢;exact hact
    ·cases he
   ·cases he
  ·rename_i hw
   split at he
   ·rename_i hlog
    obtain⟨T,hT,hC⟩:=Ia xs _ _ _ _ _ he;exact⟨⟨x,vars,h,false,.undef,h⟩::T,by simp [hT],rfl,rfl,⟨hw,hlog,by simp⟩,hC⟩
   ·cases he
  ·cases he
theorem Px {vars:List V}{h':H}{n:Nat}{act:dZ}{v:V}(ha:act.mK=true)(he:Ht vars h n act=some (v,h')):
  ∃i o,act= .op i/\i.mK=true/\o.rw=true/\h'=h.set n (some o)/\ ∀h2:H,h2.next=n->cK (xv vars []) h2 i=some (v,h2.new o):=by
 cases act with
 |op i=>
  simp only[dZ.mK] at ha;simp only[Ht] at he;split at he
  ·rename_i v1 h1 hi
   obtain⟨o,e1,e2,e3⟩:=ZL ha hi;cases he;exact⟨i,o,rfl,ha,e1,by rw[e2];rfl,e3⟩
  ·cases he
 |call g args=>simp [dZ.mK] at ha
 |callv x args=>simp [dZ.mK] at ha
 |calli g t x args=>simp [dZ.mK] at ha
 |callp g args=>simp [dZ.mK] at ha
theorem Nv {vars:List V}{h':H}{act:dZ}{v:V}(hw:act.tA=false)(ha:act.mK=false)(he:lT cl yl vars [] h act=some (v,h')):
  h'=h/\((∃i,act= .op i/\cK (xv vars []) h i=some (v,h')/\(i.rJ=false-> ∀h2,cK (xv vars []) h2 i=some (v,h2)))∨ ∃g args,act= .callp g args):=by
 cases act with
 |op i=>
  rw[sY] at he;simp only[dZ.tA,dZ.mK] at hw ha;refine⟨?_,.inl ⟨i,rfl,he,λhr=>(Ua hr ha hw he).2⟩⟩
  by_cases hr:i.rJ=true
  ·exact PI hr he
  ·exact (Ua (by simpa using hr) ha hw he).1
 |call g args=>simp [dZ.tA] at hw
 |callv x args=>simp [dZ.tA] at hw
 |calli g t x args=>simp [dZ.tA] at hw
 |callp g args=>rw[lV] at he;exact⟨(wW he).1,.inr ⟨g,args,rfl⟩⟩
theorem OT {act:dZ}(h:act.mK=true):act.tA=false:=by
 cases act with
 |op i=>cases i<;>simp_all [dZ.mK,dZ.tA,I.mK,I.tA]
 |_=>simp [dZ.mK] at h
theorem SW {log:Log}{r:Rec}(hal:r.x.al=r.x.it.a.mK)(ho:XC cl yl base log r):jG base (λ_=>true) r.hb r=r.ha:=by
 obtain⟨_,_,ho⟩:=ho;simp only[jG,if_true]
 by_cases hw:r.x.it.a.tA=true
 ·simp [hw]
 ·simp only[hw]
  cases hb:r.b with
  |false=>simp only[hb] at ho;simp [ho.2]
  |true=>
   simp only[hb,if_true] at ho
   cases ha:r.x.al with
   |true=>
    simp only[ha,if_true] at ho;obtain⟨i,o,_,_,_,e,_⟩:=Px (hal▸ha) ho;simp [e,H.jB,H.cW]
   |false=>
    simp only[ha] at ho;obtain⟨e,_⟩:=Nv (by simpa using hw) (hal▸ha) ho;simp [e]
theorem vU: ∀(T1 T2:List Rec) (vars:List V) (log:Log) (h:H) (vars':List V) (h':H),(∀r∈T1,r.x.al=r.x.it.a.mK)->Lu cl yl base (T1++T2) vars log h vars' h'->
  Lu cl yl base T2 (xZ (λ_=>true) T1 vars) (Tp T1 log) (lN base (λ_=>true) T1 h) vars' h'
 | [],T2,vars,log,h,vars',h',_,hc=>hc
 |r::T1,T2,vars,log,h,vars',h',ha,hc=>by
  obtain⟨e1,e2,e3,e4⟩:=hc;have:=vU T1 T2 _ _ _ _ _ (λq hq=>ha q (List.mem_cons_of_mem _ hq)) e4;have hh:=SW (ha r (List.mem_cons_self ..)) e3;rw[e2] at hh;simpa [xZ,lN,Tp,hh] using this
theorem yS {vs:List V}{r:Rec}(hl:r.x.it.Bh=false):LZ vs r=match r.x.it.wr with|some k=>vs.set k r.v|none=>vs:=by
 unfold LZ It.wr lW It.Bh at*;cases hd:r.x.it.d<;>simp_all
theorem Ew {S S':Nat->Bool}{k:Nat}: ∀(T:List Rec) (vs vs':List V),(∀r∈T,r.x.it.Bh=false)->vs.length=vs'.length->vs.getD k .undef=vs'.getD k .undef->
  (∀r∈T,r.x.it.wr=some k->S r.x.i=S' r.x.i)->(xZ S T vs).getD k .undef=(xZ S' T vs').getD k .undef
 | [],_,_,_,_,h,_=>h
 |r::T,vs,vs',hl,hlen,h,hk=>by
  have hr:=hl r (List.mem_cons_self ..);simp only[xZ,List.foldl_cons]
  have hlen2: ∀(c:Bool) (us:List V),(if c then LZ us r else us).length=us.length:=by
   intro c us;split
   ·rw[yS hr];split<;>simp
   ·rfl
  refine Ew T _ _ (λq hq=>hl q (List.mem_cons_of_mem _ hq)) (by rw[hlen2,hlen2,hlen]) ?_ (λq hq=>hk q (List.mem_cons_of_mem _ hq))
  have key: ∀(c:Bool) (us:List V),r.x.it.wr≠some k->(if c then LZ us r else us).getD k V.undef=us.getD k .undef:=by
   intro c us hne;split
   ·rw[yS hr]
    split
    ·rename_i j hj
     have:j≠k:=λe=>hne (by rw[hj,e])
     simp [List.getD,List.getElem?_set_ne this]
    ·rfl
   ·rfl
  by_cases hw:r.x.it.wr=some k
  ·rw[hk r (List.mem_cons_self ..) hw]
   split
   ·rw[yS hr,yS hr,hw]
    simp only[List.getD,List.getElem?_set_self',hlen]
    by_cases hkl:k<vs'.length
    ·simp [hkl,hlen]
    ·have hkl2: ¬k<vs.length:=by omega
     simp [hkl,hkl2]
   ·exact h
  ·rw[key _ _ hw,key _ _ hw];exact h
theorem LH {S:Nat->Bool}{r:Rec}(hr:r.x.it.Bh=false): ∀(T:List Rec) (vs:List V),(∀q∈T,q.x.it.Bh=false)->(∀q∈T,S q.x.i=true-> ∀k,q.x.it.wr=some k->r.x.it.wr≠some k)->
  xZ S T (LZ vs r)=LZ (xZ S T vs) r
 | [],_,_,_=>rfl
 |q::T,vs,hl,hk=>by
  have hq:=hl q (List.mem_cons_self ..);have ih:=LH (S:=S) hr T;simp only[xZ,List.foldl_cons] at ih ⊢
  by_cases hs:S q.x.i=true
  ·simp only[hs,if_true]
   rw[←ih (LZ vs q) (λy hy=>hl y (List.mem_cons_of_mem _ hy)) (λy hy=>hk y (List.mem_cons_of_mem _ hy))];congr 1;rw[yS hr,yS hq,yS hq,yS hr]
   cases hw:r.x.it.wr with
   |none=>rfl
   |some j=>
    cases hw2:q.x.it.wr with
    |none=>rfl
    |some k=>
     have:j≠k:=λe=>hk q (List.mem_cons_self ..) hs k hw2 (by rw[hw,e])
     simp only;exact List.set_comm _ _ this
  ·simp only[hs,Bool.false_eq_true,if_false]
   exact ih vs (λy hy=>hl y (List.mem_cons_of_mem _ hy)) (λy hy=>hk y (List.mem_cons_of_mem _ hy))
theorem Cs {S S':Nat->Bool}: ∀(T:List Rec) (vs:List V),(∀q∈T,S q.x.i=S' q.x.i)->xZ S T vs=xZ S' T vs
 | [],_,_=>rfl
 |q::T,vs,h=>by
  have ih:=Cs (S:=S) (S':=S') T;simp only[xZ,List.foldl_cons] at ih ⊢;rw[h q (List.mem_cons_self ..)];exact ih _ (λy hy=>h y (List.mem_cons_of_mem _ hy))
theorem AM {r:Rec}(hs:r.aff=true->S r.x.i=S' r.x.i):jG base S h r=jG base S' h r:=by
 by_cases ha:r.aff=true
 ·simp only[jG,hs ha]
 ·have h1:r.x.it.a.tA=false:=by simp [Rec.aff] at ha;exact ha.1
  have h2:(r.x.al&&r.b)=false:=by simp [Rec.aff] at ha;simpa using ha.2
  simp [jG,h1,h2]
theorem yL {S S':Nat->Bool}: ∀(T:List Rec) (h:H),(∀q∈T,q.aff=true->S q.x.i=S' q.x.i)->lN base S T h=lN base S' T h
 | [],_,_=>rfl
 |q::T,h,hs=>by
  have ih:=yL (S:=S) (S':=S') T;simp only[lN,List.foldl_cons] at ih ⊢;rw[AM (hs q (List.mem_cons_self ..))];exact ih _ (λy hy=>hs y (List.mem_cons_of_mem _ hy))
def Extra (base:Nat)(S:Nat->Bool)(T:List Rec)(id:Nat):Prop:= ∃q∈T,S q.x.i=true/\q.x.al=true/\q.b=true/\base+q.x.i=id
theorem UD {r:Rec}(hn:S r.x.i=true->r.x.it.a.tA=false):
  jG base S h r=if S r.x.i=true/\r.x.al=true/\r.b=true then h.set (base+r.x.i) (r.ha.get (base+r.x.i)) else h:=by
 unfold jG
 by_cases hs:S r.x.i=true
 ·simp only[hs,if_true,hn hs,Bool.false_eq_true,if_false,true_and,Bool.and_eq_true]
 ·simp [hs]
theorem pY {S:Nat->Bool}: ∀(T:List Rec) (h:H),(∀q∈T,S q.x.i=true->q.x.it.a.tA=false)->
  (lN base S T h).next=h.next/\
  (∀id,¬Extra base S T id->(lN base S T h).get id=h.get id)/\
  (∀id,Extra base S T id-> ∃q∈T,S q.x.i=true/\q.x.al=true/\q.b=true/\base+q.x.i=id/\ ∀h',(lN base S T h').get id=q.ha.get id)
 | [],h,_=>⟨rfl,λ_ _=>rfl,λid he=>by obtain⟨q,hq,_⟩:=he;cases hq⟩
 |r::T,h,hn=>by
  have e:=λh=>UD (base:=base) (h:=h) (hn r (List.mem_cons_self ..))
  have ih:=λh=>pY T h (λq hq=>hn q (List.mem_cons_of_mem _ hq))
  simp only[lN,List.foldl_cons] at ih ⊢;refine⟨?_,λid hid=>?_,λid hid=>?_⟩
  ·rw[(ih _).1,e]
   split<;>rfl
  ·have h1: ¬Extra base S T id:=λ⟨q,hq,hh⟩=>hid ⟨q,List.mem_cons_of_mem _ hq,hh⟩
   rw[(ih _).2.1 id h1,e];split
   ·rename_i hc
    have:id≠base+r.x.i:=λe=>hid ⟨r,List.mem_cons_self ..,hc.1,hc.2.1,hc.2.2,e.symm⟩
    simp [H.jB,H.cW,this]
   ·rfl
  ·by_cases h1:Extra base S T id
   ·obtain⟨q,hq,a1,a2,a3,a4,a5⟩:=(ih h).2.2 id h1
    exact⟨q,List.mem_cons_of_mem _ hq,a1,a2,a3,a4,λh'=>a5 _⟩
   ·obtain⟨q,hq,a1,a2,a3,a4⟩:=hid
    rcases List.mem_cons.1 hq with rfl|hq
    ·refine⟨q,List.mem_cons_self ..,a1,a2,a3,a4,λh'=>?_⟩
     rw[(ih _).2.1 id h1,e,if_pos ⟨a1,a2,a3⟩];simp [H.jB,H.cW,←a4]
    ·exact absurd ⟨q,hq,a1,a2,a3,a4⟩ h1
theorem Sv {S:Nat->Bool}{id:Nat}: ∀(T:List Rec) (h:H),h.get id=none->(∀q∈T,S q.x.i=true->q.x.it.a.tA=true->q.ha.get id=none)->(∀q∈T,base+q.x.i≠id)->
  (lN base S T h).get id=none
 | [],h,hn,_,_=>hn
 |r::T,h,hn,h1,h2=>by
  have ih:=Sv (S:=S) (id:=id) T;simp only[lN,List.foldl_cons] at ih ⊢;refine ih _ ?_ (λq hq=>h1 q (List.mem_cons_of_mem _ hq)) (λq hq=>h2 q (List.mem_cons_of_mem _ hq));unfold jG;split
  ·rename_i hs
   split
   ·rename_i hw;exact h1 r (List.mem_cons_self ..) hs hw
   ·split
    ·have:id≠base+r.x.i:=λe=>h2 r (List.mem_cons_self ..) e.symm
     simp [H.jB,H.cW,this,hn]
    ·exact hn
  ·exact hn
theorem Zr {T1 T2:List Rec}:lN base S (T1++T2) h=lN base S T2 (lN base S T1 h):=by simp [lN]
theorem RF {T1 T2:List Rec}{vs:List V}:xZ S (T1++T2) vs=xZ S T2 (xZ S T1 vs):=by simp [xZ]
end
end
end Go.Ay
