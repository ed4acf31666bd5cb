/- The run of a region in the order of the plan, and its replays. -/
import Derived.Test.YtddpkbicnolafaaGreatAy13
namespace Go.Ay
open Go
structure Rec where
 x:AI
 vars:List V
 hb:H
 b:Bool
 v:V
 ha:H
def Rec.aff (r:Rec):Bool:=r.x.it.a.wT||(r.x.al&&r.b)
def XL (vs:List V) (r:Rec):List V:=(nM r.x.it.d vs [] r.v).1
def Cz (S:Nat->Bool) (T:List Rec) (vs:List V):List V:=T.foldl (λ vs r=>if S r.x.i then XL vs r else vs) vs
def jH (base:Nat) (S:Nat->Bool) (h:H) (r:Rec):H:=
 if S r.x.i then (if r.x.it.a.wT then r.ha else if r.x.al&&r.b then h.set (base+r.x.i) (r.ha.get (base+r.x.i)) else h) else h
def nT (base:Nat) (S:Nat->Bool) (T:List Rec) (h:H):H:=T.foldl (jH base S) h
def Lr (r:Rec) (log:Log):Log:=if r.b then Pk r.x r.vars r.v log else log
def IH (T:List Rec) (log:Log):Log:=T.foldl (λ l r=>Lr r l) log
def ahL (cl yl:dZ) (base:Nat) (log:Log) (r:Rec):Prop:=
 gK r.vars [] r.x.it.g=some r.b/\tV r.x.cks log r.ha=true/\
 (if r.b then (if r.x.al then Um r.vars r.hb (base+r.x.i) r.x.it.a=some (r.v,r.ha) else nK cl yl r.vars [] r.hb r.x.it.a=some (r.v,r.ha)) else r.v= .undef/\r.ha=r.hb)
def Yj (cl yl:dZ) (base:Nat):List Rec->List V->Log->H->List V->H->Prop
 | [],vars,_,h,vars',h'=>vars=vars'/\h=h'
 |r::T,vars,log,h,vars',h'=>r.vars=vars/\r.hb=h/\ahL cl yl base log r/\Yj cl yl base T (XL vars r) (Lr r log) r.ha vars' h'
section
variable {cl yl:dZ} {base:Nat}
theorem Ss: ∀ (xs:List AI) (vars:List V) (log:Log) (h:H) (vars':List V) (h':H),zT cl yl base xs vars log h=some (vars',h')->
  ∃ T:List Rec,T.map (·.x)=xs/\Yj cl yl base T vars log h vars' h'
 | [],vars,log,h,vars',h',he=>by
  rw [Na] at he
  have:vars=vars'/\h=h':=by simpa using he
  exact ⟨[],rfl,this⟩
 |x::xs,vars,log,h,vars',h',he=>by
  rw [jZ] at he
  split at he
  ·rename_i hw
   split at he
   ·rename_i v h1 hact
    split at he
    ·rename_i hlog
     obtain ⟨T,hT,hC⟩:=Ss xs _ _ _ _ _ he
     refine ⟨⟨x,vars,h,true,v,h1⟩::T,by simp [hT],rfl,rfl,⟨hw,hlog,?_⟩,hC⟩
     simp only [if_true]
     by_cases hal:x.al=true
     ·simp only [hal,if_true] at hact ⊢;exact hact
     ·simp only [hal,if_false] at hact ⊢;exact hact
    ·cases he
   ·cases he
  ·rename_i hw
   split at he
   ·rename_i hlog
    obtain ⟨T,hT,hC⟩:=Ss xs _ _ _ _ _ he
    exact ⟨⟨x,vars,h,false,.undef,h⟩::T,by simp [hT],rfl,rfl,⟨hw,hlog,by simp⟩,hC⟩
   ·cases he
  ·cases he
theorem DB {vars:List V} {h h':H} {n:Nat} {act:eD} {v:V} (ha:act.oU=true) (he:Um vars h n act=some (v,h')):
  ∃ i o,act= .op i/\i.oU=true/\o.rw=true/\h'=h.set n (some o)/\ ∀ h2:H,h2.next=n->cY (xv vars []) h2 i=some (v,h2.new o):=by
 cases act with
 |op i=>
  simp only [eD.oU] at ha
  simp only [Um] at he
  split at he
  ·rename_i v1 h1 hi
   obtain ⟨o,e1,e2,e3⟩:=ajI ha hi
   cases he
   exact ⟨i,o,rfl,ha,e1,by rw [e2];rfl,e3⟩
  ·cases he
 |call g args=>simp [eD.oU] at ha
 |callv x args=>simp [eD.oU] at ha
 |calli g t x args=>simp [eD.oU] at ha
 |callp g args=>simp [eD.oU] at ha
theorem Zn {vars:List V} {h h':H} {act:eD} {v:V} (hw:act.wT=false) (ha:act.oU=false) (he:nK cl yl vars [] h act=some (v,h')):
  h'=h/\((∃ i,act= .op i/\cY (xv vars []) h i=some (v,h')/\(i.vY=false-> ∀ h2,cY (xv vars []) h2 i=some (v,h2)))∨ ∃ g args,act= .callp g args):=by
 cases act with
 |op i=>
  rw [xR] at he
  simp only [eD.wT,eD.oU] at hw ha
  refine ⟨?_,.inl ⟨i,rfl,he,λ hr=>(FO hr ha hw he).2⟩⟩
  by_cases hr:i.vY=true
  ·exact XZ hr he
  ·exact (FO (by simpa using hr) ha hw he).1
 |call g args=>simp [eD.wT] at hw
 |callv x args=>simp [eD.wT] at hw
 |calli g t x args=>simp [eD.wT] at hw
 |callp g args=>rw [nQ] at he;exact ⟨(An he).1,.inr ⟨g,args,rfl⟩⟩
theorem XO {act:eD} (h:act.oU=true):act.wT=false:=by
 cases act with
 |op i=>cases i<;>simp_all [eD.oU,eD.wT,I.oU,I.wT]
 |_=>simp [eD.oU] at h
theorem adQ {log:Log} {r:Rec} (hal:r.x.al=r.x.it.a.oU) (ho:ahL cl yl base log r):jH base (λ _=>true) r.hb r=r.ha:=by
 obtain ⟨_,_,ho⟩:=ho
 simp only [jH,if_true]
 by_cases hw:r.x.it.a.wT=true
 ·simp [hw]
 ·simp only [hw]
  cases hb:r.b with
  |false=>simp only [hb] at ho;simp [ho.2]
  |true=>
   simp only [hb,if_true] at ho
   cases ha:r.x.al with
   |true=>
    simp only [ha,if_true] at ho
    obtain ⟨i,o,_,_,_,e,_⟩:=DB (hal▸ha) ho
    simp [e,H.jP,H.cG]
   |false=>
    simp only [ha] at ho
    obtain ⟨e,_⟩:=Zn (by simpa using hw) (hal▸ha) ho
    simp [e]
theorem zX: ∀ (T1 T2:List Rec) (vars:List V) (log:Log) (h:H) (vars':List V) (h':H),(∀ r∈T1,r.x.al=r.x.it.a.oU)->Yj cl yl base (T1++T2) vars log h vars' h'->
  Yj cl yl base T2 (Cz (λ _=>true) T1 vars) (IH T1 log) (nT base (λ _=>true) T1 h) vars' h'
 | [],T2,vars,log,h,vars',h',_,hc=>hc
 |r::T1,T2,vars,log,h,vars',h',ha,hc=>by
  obtain ⟨e1,e2,e3,e4⟩:=hc
  have:=zX T1 T2 _ _ _ _ _ (λ q hq=>ha q (List.mem_cons_of_mem _ hq)) e4
  have hh:=adQ (ha r (List.mem_cons_self ..)) e3
  rw [e2] at hh
  simpa [Cz,nT,IH,hh] using this
theorem Ff {vs:List V} {r:Rec} (hl:r.x.it.Jo=false):XL vs r=match r.x.it.wr with|some k=>vs.set k r.v|none=>vs:=by
 unfold XL It.wr nM It.Jo at*
 cases hd:r.x.it.d<;>simp_all
theorem Mv {S S':Nat->Bool} {k:Nat}: ∀ (T:List Rec) (vs vs':List V),(∀ r∈T,r.x.it.Jo=false)->vs.length=vs'.length->vs.getD k .undef=vs'.getD k .undef->
  (∀ r∈T,r.x.it.wr=some k->S r.x.i=S' r.x.i)->(Cz S T vs).getD k .undef=(Cz S' T vs').getD k .undef
 | [],_,_,_,_,h,_=>h
 |r::T,vs,vs',hl,hlen,h,hk=>by
  have hr:=hl r (List.mem_cons_self ..)
  simp only [Cz,List.foldl_cons]
  have hlen2: ∀ (c:Bool) (us:List V),(if c then XL us r else us).length=us.length:=by
   intro c us
   split
   ·rw [Ff hr];split<;>simp
   ·rfl
  refine Mv T _ _ (λ q hq=>hl q (List.mem_cons_of_mem _ hq)) (by rw [hlen2,hlen2,hlen]) ?_ (λ q hq=>hk q (List.mem_cons_of_mem _ hq))
  have key: ∀ (c:Bool) (us:List V),r.x.it.wr≠some k->(if c then XL us r else us).getD k V.undef=us.getD k .undef:=by
   intro c us hne
   split
   ·rw [Ff hr]
    split
    ·rename_i j hj
     have:j≠k:=λ e=>hne (by rw [hj,e])
     simp [List.getD,List.getElem?_set_ne this]
    ·rfl
   ·rfl
  by_cases hw:r.x.it.wr=some k
  ·rw [hk r (List.mem_cons_self ..) hw]
   split
   ·rw [Ff hr,Ff hr,hw]
    simp only [List.getD,List.getElem?_set_self',hlen]
    by_cases hkl:k<vs'.length
    ·simp [hkl,hlen]
    ·have hkl2: ¬k<vs.length:=by omega
     simp [hkl,hkl2]
   ·exact h
  ·rw [key _ _ hw,key _ _ hw];exact h
theorem XJ {S:Nat->Bool} {r:Rec} (hr:r.x.it.Jo=false): ∀ (T:List Rec) (vs:List V),(∀ q∈T,q.x.it.Jo=false)->(∀ q∈T,S q.x.i=true-> ∀ k,q.x.it.wr=some k->r.x.it.wr≠some k)->
  Cz S T (XL vs r)=XL (Cz S T vs) r
 | [],_,_,_=>rfl
 |q::T,vs,hl,hk=>by
  have hq:=hl q (List.mem_cons_self ..)
  have ih:=XJ (S:=S) hr T
  simp only [Cz,List.foldl_cons] at ih ⊢
  by_cases hs:S q.x.i=true
  ·simp only [hs,if_true]
   rw [←ih (XL vs q) (λ y hy=>hl y (List.mem_cons_of_mem _ hy)) (λ y hy=>hk y (List.mem_cons_of_mem _ hy))]
   congr 1
   rw [Ff hr,Ff hq,Ff hq,Ff hr]
   cases hw:r.x.it.wr with
   |none=>rfl
   |some j=>
    cases hw2:q.x.it.wr with
    |none=>rfl
    |some k=>
     have:j≠k:=λ e=>hk q (List.mem_cons_self ..) hs k hw2 (by rw [hw,e])
     simp only
     exact List.set_comm _ _ this
  ·simp only [hs,Bool.false_eq_true,if_false]
   exact ih vs (λ y hy=>hl y (List.mem_cons_of_mem _ hy)) (λ y hy=>hk y (List.mem_cons_of_mem _ hy))
theorem Kz {S S':Nat->Bool}: ∀ (T:List Rec) (vs:List V),(∀ q∈T,S q.x.i=S' q.x.i)->Cz S T vs=Cz S' T vs
 | [],_,_=>rfl
 |q::T,vs,h=>by
  have ih:=Kz (S:=S) (S':=S') T
  simp only [Cz,List.foldl_cons] at ih ⊢
  rw [h q (List.mem_cons_self ..)]
  exact ih _ (λ y hy=>h y (List.mem_cons_of_mem _ hy))
theorem NC {S S':Nat->Bool} {h:H} {r:Rec} (hs:r.aff=true->S r.x.i=S' r.x.i):jH base S h r=jH base S' h r:=by
 by_cases ha:r.aff=true
 ·simp only [jH,hs ha]
 ·have h1:r.x.it.a.wT=false:=by simp [Rec.aff] at ha;exact ha.1
  have h2:(r.x.al&&r.b)=false:=by simp [Rec.aff] at ha;simpa using ha.2
  simp [jH,h1,h2]
theorem Es {S S':Nat->Bool}: ∀ (T:List Rec) (h:H),(∀ q∈T,q.aff=true->S q.x.i=S' q.x.i)->nT base S T h=nT base S' T h
 | [],_,_=>rfl
 |q::T,h,hs=>by
  have ih:=Es (S:=S) (S':=S') T
  simp only [nT,List.foldl_cons] at ih ⊢
  rw [NC (hs q (List.mem_cons_self ..))]
  exact ih _ (λ y hy=>hs y (List.mem_cons_of_mem _ hy))
def Extra (base:Nat) (S:Nat->Bool) (T:List Rec) (id:Nat):Prop:= ∃ q∈T,S q.x.i=true/\q.x.al=true/\q.b=true/\base+q.x.i=id
theorem acZ {S:Nat->Bool} {h:H} {r:Rec} (hn:S r.x.i=true->r.x.it.a.wT=false):
  jH base S h r=if S r.x.i=true/\r.x.al=true/\r.b=true then h.set (base+r.x.i) (r.ha.get (base+r.x.i)) else h:=by
 unfold jH
 by_cases hs:S r.x.i=true
 ·simp only [hs,if_true,hn hs,Bool.false_eq_true,if_false,true_and,Bool.and_eq_true]
 ·simp [hs]
theorem tA {S:Nat->Bool}: ∀ (T:List Rec) (h:H),(∀ q∈T,S q.x.i=true->q.x.it.a.wT=false)->
  (nT base S T h).next=h.next/\
  (∀ id,¬Extra base S T id->(nT base S T h).get id=h.get id)/\
  (∀ id,Extra base S T id-> ∃ q∈T,S q.x.i=true/\q.x.al=true/\q.b=true/\base+q.x.i=id/\ ∀ h',(nT base S T h').get id=q.ha.get id)
 | [],h,_=>⟨rfl,λ _ _=>rfl,λ id he=>by obtain ⟨q,hq,_⟩:=he;cases hq⟩
 |r::T,h,hn=>by
  have e:=λ h=>acZ (base:=base) (h:=h) (hn r (List.mem_cons_self ..))
  have ih:=λ h=>tA T h (λ q hq=>hn q (List.mem_cons_of_mem _ hq))
  simp only [nT,List.foldl_cons] at ih ⊢
  refine ⟨?_,λ id hid=>?_,λ id hid=>?_⟩
  ·rw [(ih _).1,e]
   split<;>rfl
  ·have h1: ¬Extra base S T id:=λ ⟨q,hq,hh⟩=>hid ⟨q,List.mem_cons_of_mem _ hq,hh⟩
   rw [(ih _).2.1 id h1,e]
   split
   ·rename_i hc
    have:id≠base+r.x.i:=λ e=>hid ⟨r,List.mem_cons_self ..,hc.1,hc.2.1,hc.2.2,e.symm⟩
    simp [H.jP,H.cG,this]
   ·rfl
  ·by_cases h1:Extra base S T id
   ·obtain ⟨q,hq,a1,a2,a3,a4,a5⟩:=(ih h).2.2 id h1
    exact ⟨q,List.mem_cons_of_mem _ hq,a1,a2,a3,a4,λ h'=>a5 _⟩
   ·obtain ⟨q,hq,a1,a2,a3,a4⟩:=hid
    rcases List.mem_cons.1 hq with rfl|hq
    ·refine ⟨q,List.mem_cons_self ..,a1,a2,a3,a4,λ h'=>?_⟩
     rw [(ih _).2.1 id h1,e,if_pos ⟨a1,a2,a3⟩]
     simp [H.jP,H.cG,←a4]
    ·exact absurd ⟨q,hq,a1,a2,a3,a4⟩ h1
theorem GL {S:Nat->Bool} {id:Nat}: ∀ (T:List Rec) (h:H),h.get id=none->(∀ q∈T,S q.x.i=true->q.x.it.a.wT=true->q.ha.get id=none)->(∀ q∈T,base+q.x.i≠id)->
  (nT base S T h).get id=none
 | [],h,hn,_,_=>hn
 |r::T,h,hn,h1,h2=>by
  have ih:=GL (S:=S) (id:=id) T
  simp only [nT,List.foldl_cons] at ih ⊢
  refine ih _ ?_ (λ q hq=>h1 q (List.mem_cons_of_mem _ hq)) (λ q hq=>h2 q (List.mem_cons_of_mem _ hq))
  unfold jH
  split
  ·rename_i hs
   split
   ·rename_i hw;exact h1 r (List.mem_cons_self ..) hs hw
   ·split
    ·have:id≠base+r.x.i:=λ e=>h2 r (List.mem_cons_self ..) e.symm
     simp [H.jP,H.cG,this,hn]
    ·exact hn
  ·exact hn
theorem OW {S:Nat->Bool} {T1 T2:List Rec} {h:H}:nT base S (T1++T2) h=nT base S T2 (nT base S T1 h):=by simp [nT]
theorem aeZ {S:Nat->Bool} {T1 T2:List Rec} {vs:List V}:Cz S (T1++T2) vs=Cz S T2 (Cz S T1 vs):=by simp [Cz]
end
end Go.Ay
