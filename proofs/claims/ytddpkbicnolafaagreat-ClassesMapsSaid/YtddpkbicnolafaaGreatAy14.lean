/- The run of a region in the order of the plan, and its replays. -/
import Derived.Test.YtddpkbicnolafaaGreatAy13
namespace Go.Ay
open Go
structure Rec where
 x:AI
 vars:List V
 hb:H
 b:Bool
 v:V
 ha:H
def Rec.aff (r:Rec):Bool:=r.x.it.a.wT||(r.x.al&&r.b)
def WQ (vs:List V) (r:Rec):List V:=(nQ r.x.it.d vs [] r.v).1
def Dc (S:Nat->Bool) (T:List Rec) (vs:List V):List V:=T.foldl (λ vs r=>if S r.x.i then WQ vs r else vs) vs
def jE (base:Nat) (S:Nat->Bool) (h:H) (r:Rec):H:=
 if S r.x.i then (if r.x.it.a.wT then r.ha else if r.x.al&&r.b then h.set (base+r.x.i) (r.ha.get (base+r.x.i)) else h) else h
def nO (base:Nat) (S:Nat->Bool) (T:List Rec) (h:H):H:=T.foldl (jE base S) h
def Ld (r:Rec) (log:Log):Log:=if r.b then Qi r.x r.vars r.v log else log
def GX (T:List Rec) (log:Log):Log:=T.foldl (λ l r=>Ld r l) log
def ahJ (cl yl:dW) (base:Nat) (log:Log) (r:Rec):Prop:=
 gO r.vars [] r.x.it.g=some r.b/\tS r.x.cks log r.ha=true/\
 (if r.b then (if r.x.al then Uw r.vars r.hb (base+r.x.i) r.x.it.a=some (r.v,r.ha) else nV cl yl r.vars [] r.hb r.x.it.a=some (r.v,r.ha)) else r.v= .undef/\r.ha=r.hb)
def Zh (cl yl:dW) (base:Nat):List Rec->List V->Log->H->List V->H->Prop
 | [],vars,_,h,vars',h'=>vars=vars'/\h=h'
 |r::T,vars,log,h,vars',h'=>r.vars=vars/\r.hb=h/\ahJ cl yl base log r/\Zh cl yl base T (WQ vars r) (Ld r log) r.ha vars' h'
section
variable {cl yl:dW} {base:Nat}
theorem Vr: ∀ (xs:List AI) (vars:List V) (log:Log) (h:H) (vars':List V) (h':H),zQ cl yl base xs vars log h=some (vars',h')->
  ∃ T:List Rec,T.map (·.x)=xs/\Zh cl yl base T vars log h vars' h'
 | [],vars,log,h,vars',h',he=>by
  rw [Nz] at he
  have:vars=vars'/\h=h':=by simpa using he
  exact ⟨[],rfl,this⟩
 |x::xs,vars,log,h,vars',h',he=>by
  rw [jV] at he
  split at he
  ·rename_i hw
   split at he
   ·rename_i v h1 hact
    split at he
    ·rename_i hlog
     obtain ⟨T,hT,hC⟩:=Vr xs _ _ _ _ _ he
     refine ⟨⟨x,vars,h,true,v,h1⟩::T,by simp [hT],rfl,rfl,⟨hw,hlog,?_⟩,hC⟩
     simp only [if_true]
     by_cases hal:x.al=true
     ·simp only [hal,if_true] at hact ⊢;exact hact
     ·simp only [hal,if_false] at hact ⊢;exact hact
    ·cases he
   ·cases he
  ·rename_i hw
   split at he
   ·rename_i hlog
    obtain ⟨T,hT,hC⟩:=Vr xs _ _ _ _ _ he
    exact ⟨⟨x,vars,h,false,.undef,h⟩::T,by simp [hT],rfl,rfl,⟨hw,hlog,by simp⟩,hC⟩
   ·cases he
  ·cases he
theorem BB {vars:List V} {h h':H} {n:Nat} {act:dZ} {v:V} (ha:act.oN=true) (he:Uw vars h n act=some (v,h')):
  ∃ i o,act= .op i/\i.oN=true/\o.rw=true/\h'=h.set n (some o)/\ ∀ h2:H,h2.next=n->cY (xv vars []) h2 i=some (v,h2.new o):=by
 cases act with
 |op i=>
  simp only [dZ.oN] at ha
  simp only [Uw] at he
  split at he
  ·rename_i v1 h1 hi
   obtain ⟨o,e1,e2,e3⟩:=aiS ha hi
   cases he
   exact ⟨i,o,rfl,ha,e1,by rw [e2];rfl,e3⟩
  ·cases he
 |call g args=>simp [dZ.oN] at ha
 |callv x args=>simp [dZ.oN] at ha
 |calli g t x args=>simp [dZ.oN] at ha
 |callp g args=>simp [dZ.oN] at ha
theorem Zv {vars:List V} {h h':H} {act:dZ} {v:V} (hw:act.wT=false) (ha:act.oN=false) (he:nV cl yl vars [] h act=some (v,h')):
  h'=h/\((∃ i,act= .op i/\cY (xv vars []) h i=some (v,h')/\(i.vY=false-> ∀ h2,cY (xv vars []) h2 i=some (v,h2)))∨ ∃ g args,act= .callp g args):=by
 cases act with
 |op i=>
  rw [xS] at he
  simp only [dZ.wT,dZ.oN] at hw ha
  refine ⟨?_,.inl ⟨i,rfl,he,λ hr=>(IG hr ha hw he).2⟩⟩
  by_cases hr:i.vY=true
  ·exact VK hr he
  ·exact (IG (by simpa using hr) ha hw he).1
 |call g args=>simp [dZ.wT] at hw
 |callv x args=>simp [dZ.wT] at hw
 |calli g t x args=>simp [dZ.wT] at hw
 |callp g args=>rw [nI] at he;exact ⟨(Ap he).1,.inr ⟨g,args,rfl⟩⟩
theorem acJ {act:dZ} (h:act.oN=true):act.wT=false:=by
 cases act with
 |op i=>cases i<;>simp_all [dZ.oN,dZ.wT,I.oN,I.wT]
 |_=>simp [dZ.oN] at h
theorem afO {log:Log} {r:Rec} (hal:r.x.al=r.x.it.a.oN) (ho:ahJ cl yl base log r):jE base (λ _=>true) r.hb r=r.ha:=by
 obtain ⟨_,_,ho⟩:=ho
 simp only [jE,if_true]
 by_cases hw:r.x.it.a.wT=true
 ·simp [hw]
 ·simp only [hw]
  cases hb:r.b with
  |false=>simp only [hb] at ho;simp [ho.2]
  |true=>
   simp only [hb,if_true] at ho
   cases ha:r.x.al with
   |true=>
    simp only [ha,if_true] at ho
    obtain ⟨i,o,_,_,_,e,_⟩:=BB (hal▸ha) ho
    simp [e,H.jM,H.cG]
   |false=>
    simp only [ha] at ho
    obtain ⟨e,_⟩:=Zv (by simpa using hw) (hal▸ha) ho
    simp [e]
theorem zV: ∀ (T1 T2:List Rec) (vars:List V) (log:Log) (h:H) (vars':List V) (h':H),(∀ r∈T1,r.x.al=r.x.it.a.oN)->Zh cl yl base (T1++T2) vars log h vars' h'->
  Zh cl yl base T2 (Dc (λ _=>true) T1 vars) (GX T1 log) (nO base (λ _=>true) T1 h) vars' h'
 | [],T2,vars,log,h,vars',h',_,hc=>hc
 |r::T1,T2,vars,log,h,vars',h',ha,hc=>by
  obtain ⟨e1,e2,e3,e4⟩:=hc
  have:=zV T1 T2 _ _ _ _ _ (λ q hq=>ha q (List.mem_cons_of_mem _ hq)) e4
  have hh:=afO (ha r (List.mem_cons_self ..)) e3
  rw [e2] at hh
  simpa [Dc,nO,GX,hh] using this
theorem Dm {vs:List V} {r:Rec} (hl:r.x.it.Jg=false):WQ vs r=match r.x.it.wr with|some k=>vs.set k r.v|none=>vs:=by
 unfold WQ It.wr nQ It.Jg at*
 cases hd:r.x.it.d<;>simp_all
theorem Nb {S S':Nat->Bool} {k:Nat}: ∀ (T:List Rec) (vs vs':List V),(∀ r∈T,r.x.it.Jg=false)->vs.length=vs'.length->vs.getD k .undef=vs'.getD k .undef->
  (∀ r∈T,r.x.it.wr=some k->S r.x.i=S' r.x.i)->(Dc S T vs).getD k .undef=(Dc S' T vs').getD k .undef
 | [],_,_,_,_,h,_=>h
 |r::T,vs,vs',hl,hlen,h,hk=>by
  have hr:=hl r (List.mem_cons_self ..)
  simp only [Dc,List.foldl_cons]
  have hlen2: ∀ (c:Bool) (us:List V),(if c then WQ us r else us).length=us.length:=by
   intro c us
   split
   ·rw [Dm hr];split<;>simp
   ·rfl
  refine Nb T _ _ (λ q hq=>hl q (List.mem_cons_of_mem _ hq)) (by rw [hlen2,hlen2,hlen]) ?_ (λ q hq=>hk q (List.mem_cons_of_mem _ hq))
  have key: ∀ (c:Bool) (us:List V),r.x.it.wr≠some k->(if c then WQ us r else us).getD k V.undef=us.getD k .undef:=by
   intro c us hne
   split
   ·rw [Dm hr]
    split
    ·rename_i j hj
     have:j≠k:=λ e=>hne (by rw [hj,e])
     simp [List.getD,List.getElem?_set_ne this]
    ·rfl
   ·rfl
  by_cases hw:r.x.it.wr=some k
  ·rw [hk r (List.mem_cons_self ..) hw]
   split
   ·rw [Dm hr,Dm hr,hw]
    simp only [List.getD,List.getElem?_set_self',hlen]
    by_cases hkl:k<vs'.length
    ·simp [hkl,hlen]
    ·have hkl2: ¬k<vs.length:=by omega
     simp [hkl,hkl2]
   ·exact h
  ·rw [key _ _ hw,key _ _ hw];exact h
theorem ZA {S:Nat->Bool} {r:Rec} (hr:r.x.it.Jg=false): ∀ (T:List Rec) (vs:List V),(∀ q∈T,q.x.it.Jg=false)->(∀ q∈T,S q.x.i=true-> ∀ k,q.x.it.wr=some k->r.x.it.wr≠some k)->
  Dc S T (WQ vs r)=WQ (Dc S T vs) r
 | [],_,_,_=>rfl
 |q::T,vs,hl,hk=>by
  have hq:=hl q (List.mem_cons_self ..)
  have ih:=ZA (S:=S) hr T
  simp only [Dc,List.foldl_cons] at ih ⊢
  by_cases hs:S q.x.i=true
  ·simp only [hs,if_true]
   rw [←ih (WQ vs q) (λ y hy=>hl y (List.mem_cons_of_mem _ hy)) (λ y hy=>hk y (List.mem_cons_of_mem _ hy))]
   congr 1
   rw [Dm hr,Dm hq,Dm hq,Dm hr]
   cases hw:r.x.it.wr with
   |none=>rfl
   |some j=>
    cases hw2:q.x.it.wr with
    |none=>rfl
    |some k=>
     have:j≠k:=λ e=>hk q (List.mem_cons_self ..) hs k hw2 (by rw [hw,e])
     simp only
     exact List.set_comm _ _ this
  ·simp only [hs,Bool.false_eq_true,if_false]
   exact ih vs (λ y hy=>hl y (List.mem_cons_of_mem _ hy)) (λ y hy=>hk y (List.mem_cons_of_mem _ hy))
theorem Mb {S S':Nat->Bool}: ∀ (T:List Rec) (vs:List V),(∀ q∈T,S q.x.i=S' q.x.i)->Dc S T vs=Dc S' T vs
 | [],_,_=>rfl
 |q::T,vs,h=>by
  have ih:=Mb (S:=S) (S':=S') T
  simp only [Dc,List.foldl_cons] at ih ⊢
  rw [h q (List.mem_cons_self ..)]
  exact ih _ (λ y hy=>h y (List.mem_cons_of_mem _ hy))
theorem NF {S S':Nat->Bool} {h:H} {r:Rec} (hs:r.aff=true->S r.x.i=S' r.x.i):jE base S h r=jE base S' h r:=by
 by_cases ha:r.aff=true
 ·simp only [jE,hs ha]
 ·have h1:r.x.it.a.wT=false:=by simp [Rec.aff] at ha;exact ha.1
  have h2:(r.x.al&&r.b)=false:=by simp [Rec.aff] at ha;simpa using ha.2
  simp [jE,h1,h2]
theorem De {S S':Nat->Bool}: ∀ (T:List Rec) (h:H),(∀ q∈T,q.aff=true->S q.x.i=S' q.x.i)->nO base S T h=nO base S' T h
 | [],_,_=>rfl
 |q::T,h,hs=>by
  have ih:=De (S:=S) (S':=S') T
  simp only [nO,List.foldl_cons] at ih ⊢
  rw [NF (hs q (List.mem_cons_self ..))]
  exact ih _ (λ y hy=>hs y (List.mem_cons_of_mem _ hy))
def Extra (base:Nat) (S:Nat->Bool) (T:List Rec) (id:Nat):Prop:= ∃ q∈T,S q.x.i=true/\q.x.al=true/\q.b=true/\base+q.x.i=id
theorem agD {S:Nat->Bool} {h:H} {r:Rec} (hn:S r.x.i=true->r.x.it.a.wT=false):
  jE base S h r=if S r.x.i=true/\r.x.al=true/\r.b=true then h.set (base+r.x.i) (r.ha.get (base+r.x.i)) else h:=by
 unfold jE
 by_cases hs:S r.x.i=true
 ·simp only [hs,if_true,hn hs,Bool.false_eq_true,if_false,true_and,Bool.and_eq_true]
 ·simp [hs]
theorem sW {S:Nat->Bool}: ∀ (T:List Rec) (h:H),(∀ q∈T,S q.x.i=true->q.x.it.a.wT=false)->
  (nO base S T h).next=h.next/\
  (∀ id,¬Extra base S T id->(nO base S T h).get id=h.get id)/\
  (∀ id,Extra base S T id-> ∃ q∈T,S q.x.i=true/\q.x.al=true/\q.b=true/\base+q.x.i=id/\ ∀ h',(nO base S T h').get id=q.ha.get id)
 | [],h,_=>⟨rfl,λ _ _=>rfl,λ id he=>by obtain ⟨q,hq,_⟩:=he;cases hq⟩
 |r::T,h,hn=>by
  have e:=λ h=>agD (base:=base) (h:=h) (hn r (List.mem_cons_self ..))
  have ih:=λ h=>sW T h (λ q hq=>hn q (List.mem_cons_of_mem _ hq))
  simp only [nO,List.foldl_cons] at ih ⊢
  refine ⟨?_,λ id hid=>?_,λ id hid=>?_⟩
  ·rw [(ih _).1,e]
   split<;>rfl
  ·have h1: ¬Extra base S T id:=λ ⟨q,hq,hh⟩=>hid ⟨q,List.mem_cons_of_mem _ hq,hh⟩
   rw [(ih _).2.1 id h1,e]
   split
   ·rename_i hc
    have:id≠base+r.x.i:=λ e=>hid ⟨r,List.mem_cons_self ..,hc.1,hc.2.1,hc.2.2,e.symm⟩
    simp [H.jM,H.cG,this]
   ·rfl
  ·by_cases h1:Extra base S T id
   ·obtain ⟨q,hq,a1,a2,a3,a4,a5⟩:=(ih h).2.2 id h1
    exact ⟨q,List.mem_cons_of_mem _ hq,a1,a2,a3,a4,λ h'=>a5 _⟩
   ·obtain ⟨q,hq,a1,a2,a3,a4⟩:=hid
    rcases List.mem_cons.1 hq with rfl|hq
    ·refine ⟨q,List.mem_cons_self ..,a1,a2,a3,a4,λ h'=>?_⟩
     rw [(ih _).2.1 id h1,e,if_pos ⟨a1,a2,a3⟩]
     simp [H.jM,H.cG,←a4]
    ·exact absurd ⟨q,hq,a1,a2,a3,a4⟩ h1
theorem GB {S:Nat->Bool} {id:Nat}: ∀ (T:List Rec) (h:H),h.get id=none->(∀ q∈T,S q.x.i=true->q.x.it.a.wT=true->q.ha.get id=none)->(∀ q∈T,base+q.x.i≠id)->
  (nO base S T h).get id=none
 | [],h,hn,_,_=>hn
 |r::T,h,hn,h1,h2=>by
  have ih:=GB (S:=S) (id:=id) T
  simp only [nO,List.foldl_cons] at ih ⊢
  refine ih _ ?_ (λ q hq=>h1 q (List.mem_cons_of_mem _ hq)) (λ q hq=>h2 q (List.mem_cons_of_mem _ hq))
  unfold jE
  split
  ·rename_i hs
   split
   ·rename_i hw;exact h1 r (List.mem_cons_self ..) hs hw
   ·split
    ·have:id≠base+r.x.i:=λ e=>h2 r (List.mem_cons_self ..) e.symm
     simp [H.jM,H.cG,this,hn]
    ·exact hn
  ·exact hn
theorem PJ {S:Nat->Bool} {T1 T2:List Rec} {h:H}:nO base S (T1++T2) h=nO base S T2 (nO base S T1 h):=by simp [nO]
theorem acY {S:Nat->Bool} {T1 T2:List Rec} {vs:List V}:Dc S (T1++T2) vs=Dc S T2 (Dc S T1 vs):=by simp [Dc]
end
end Go.Ay
