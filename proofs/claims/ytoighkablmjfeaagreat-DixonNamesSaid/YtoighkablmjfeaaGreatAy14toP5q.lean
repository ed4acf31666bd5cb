/- Texts of the claim. -/
import Derived.Test.YtoighkablmjfeaaGreatAy1toAy13
import Derived.OrdersIn
import Derived.ProofKit
import Derived.Carry
import Derived.Test.YtoighkablmjfeaaGreatChecked
import Derived.KernelRfl
import Derived.Sort.AssemblyPlain
set_option maxHeartbeats 32000000
set_option maxRecDepth 100000
namespace Go.Ay
open Go
section
variable {h:H} {S S':Nat->Bool}
structure Rec where
 x:AI
 vars:List V
 hb:H
 b:Bool
 v:V
 ha:H
def Rec.aff (r:Rec):Bool:=r.x.it.a.qU||(r.x.al&&r.b)
def TQ (vs:List V)(r:Rec):List V:=(jC r.x.it.d vs [] r.v).1
def wM (S:Nat->Bool)(T:List Rec)(vs:List V):List V:=T.foldl (λvs r=>if S r.x.i then TQ vs r else vs) vs
def iS (base:Nat)(S:Nat->Bool)(h:H)(r:Rec):H:=
 if S r.x.i then (if r.x.it.a.qU then r.ha else if r.x.al&&r.b then h.set (base+r.x.i) (r.ha.get (base+r.x.i)) else h) else h
def lC (base:Nat)(S:Nat->Bool)(T:List Rec)(h:H):H:=T.foldl (iS base S) h
def Dh (r:Rec)(log:Log):Log:=if r.b then Dp r.x r.vars r.v log else log
def Xb (T:List Rec)(log:Log):Log:=T.foldl (λl r=>Dh r l) log
def afZ (cl yl:kO)(base:Nat)(log:Log)(r:Rec):Prop:=
 iT r.vars [] r.x.it.g=some r.b/\oI r.x.cks log r.ha=true/\
 (if r.b then (if r.x.al then Ng r.vars r.hb (base+r.x.i) r.x.it.a=some (r.v,r.ha) else oF cl yl r.vars [] r.hb r.x.it.a=some (r.v,r.ha)) else r.v= .undef/\r.ha=r.hb)
def Og (cl yl:kO)(base:Nat):List Rec->List V->Log->H->List V->H->Prop
 | [],vars,_,h,vars',h'=>vars=vars'/\h=h'
 |r::T,vars,log,h,vars',h'=>r.vars=vars/\r.hb=h/\afZ cl yl base log r/\Og cl yl base T (TQ vars r) (Dh r log) r.ha vars' h'
section
variable {cl yl:kO} {base:Nat}
theorem Ki:(xs:List AI)->(vars:List V)->(log:Log)->(h:H)->(vars':List V)->(h':H)->uH cl yl base xs vars log h=some (vars',h')->
  ∃T:List Rec,T.map (·.x)=xs/\Og cl yl base T vars log h vars' h'
 | [],vars,log,h,vars',h',he=>by
  rw[uH] at he;have:vars=vars'/\h=h':=by simpa using he
  exact⟨[],rfl,this⟩
 |x::xs,vars,log,h,vars',h',he=>by
  rw[uH] at he;split at he
  .rename_i d
   split at he
   .rename_i v j a
    split at he
    .rename_i b
     obtain⟨T,i,f⟩:=Ki xs _ _ _ _ _ he;refine⟨⟨x,vars,h,true,v,j⟩::T,by simp [i],rfl,rfl,⟨d,b,?_⟩,f⟩;simp only[if_true]
     by_cases c:x.al=true
     .simp only[c,if_true] at a |-;exact a
     .simp only[c,if_false] at a |-;exact a
    .cases he
   .cases he
  .rename_i d
   split at he
   .rename_i b
    obtain⟨T,i,f⟩:=Ki xs _ _ _ _ _ he;exact⟨⟨x,vars,h,false,.undef,h⟩::T,by simp [i],rfl,rfl,⟨d,b,siM⟩,f⟩
   .cases he
  .cases he
theorem Tg {a:List V}{h':H}{n:Nat}{act:dU}{v:V}(b:act.lV=true)(c:Ng a h n act=some (v,h')):
  ∃i o,act= .op i/\i.lV=true/\o.rw=true/\h'=h.set n (some o)/\ ∀h2:H,h2.next=n->dI (xv a []) h2 i=some (v,h2.new o):=by
 cases act with
 |op i=>
  simp only[dU.lV] at b;simp only[Ng] at c;split at c
  .rename_i j f hi
   obtain⟨o,e1,e2,d⟩:=aiY b hi;cases c;exact⟨i,o,rfl,b,e1,by rw[e2];rfl,d⟩
  .cases c
 |call g args=>simp [dU.lV] at b
 |callv x args=>simp [dU.lV] at b
 |calli g t x args=>simp [dU.lV] at b
theorem Pk {a:List V}{h':H}{act:dU}{v:V}(b:act.qU=false)(f:act.lV=false)(c:oF cl yl a [] h act=some (v,h')):
  h'=h/\ ∃i,act= .op i/\dI (xv a []) h i=some (v,h')/\(i.qG=false-> ∀h2,dI (xv a []) h2 i=some (v,h2)):=by
 cases act with
 |op i=>
  simp only[dU.qU,dU.lV] at b f;refine⟨?_,i,rfl,c,λd=>(Yh d f b c).2⟩
  by_cases d:i.qG=true
  .exact VE d c
  .exact (Yh (by simpa using d) f b c).1
 |call g args=>simp [dU.qU] at b
 |callv x args=>simp [dU.qU] at b
 |calli g t x args=>simp [dU.qU] at b
theorem UK {act:dU}(h:act.lV=true):act.qU=false:=by
 cases act with
 |op i=>cases i<;>simp_all [dU.lV,dU.qU,I.lV,I.qU]
 |_=>simp [dU.lV] at h
theorem aeT {j:Log}{r:Rec}(d:r.x.al=r.x.it.a.lV)(c:afZ cl yl base j r):iS base (λ_=>true) r.hb r=r.ha:=by
 have⟨_,_,c⟩:=c;simp only[iS,if_true]
 by_cases f:r.x.it.a.qU=true
 .simp [f]
 .simp only[f]
  cases hb:r.b with
  |false=>simp only[hb] at c;simp [c.2]
  |true=>
   simp only[hb,if_true] at c
   cases ha:r.x.al with
   |true=>
    simp only[ha,if_true] at c;obtain⟨i,o,_,_,_,e,_⟩:=Tg (d▸ha) c;simp [e,H.gY,H.bT]
   |false=>
    simp only[ha] at c;obtain⟨e,_⟩:=Pk (by simpa using f) (d▸ha) c;simp [e]
theorem uI:(T1 T2:List Rec)->(vars:List V)->(log:Log)->(h:H)->(vars':List V)->(h':H)->(∀r∈T1,r.x.al=r.x.it.a.lV)->Og cl yl base (T1++T2) vars log h vars' h'->
  Og cl yl base T2 (wM (λ_=>true) T1 vars) (Xb T1 log) (lC base (λ_=>true) T1 h) vars' h'
 | [],T2,vars,log,h,vars',h',_,hc=>hc
 |r::T1,T2,vars,log,h,vars',h',ha,hc=>by
  have⟨e1,e2,d,f⟩:=hc;have:=uI T1 T2 _ _ _ _ _ (λq c=>ha q (wH _ c)) f;have b:=aeT (ha r (wI ..)) d;rw[e2] at b;simpa [wM,lC,Xb,b] using this
theorem wW {vs:List V}{r:Rec}(a:r.x.it.Bf=false):TQ vs r=match r.x.it.wr with|some k=>vs.set k r.v|none=>vs:=by
 unfold TQ It.wr jC It.Bf at*;cases hd:r.x.it.d<;>simp_all
theorem Fq {S S':Nat->Bool}{k:Nat}:(T:List Rec)->(vs vs':List V)->(∀r∈T,r.x.it.Bf=false)->vs.length=vs'.length->vs.getD k .undef=vs'.getD k .undef->
  (∀r∈T,r.x.it.wr=some k->S r.x.i=S' r.x.i)->(wM S T vs).getD k .undef=(wM S' T vs').getD k .undef
 | [],_,_,_,_,h,_=>h
 |r::T,vs,vs',hl,hlen,h,hk=>by
  have n:=hl r (wI ..);simp only[wM,List.foldl_cons]
  have a:(c:Bool)->(b:List V)->(if c then TQ b r else b).length=b.length:=by
   intro c b;split
   .rw[wW n];split<;>simp
   .rfl
  refine Fq T _ _ (λq o=>hl q (wH _ o)) (by rw[a,a,hlen]) ?_ (λq o=>hk q (wH _ o))
  have d:(c:Bool)->(b:List V)->r.x.it.wr≠some k->(if c then TQ b r else b).getD k V.undef=b.getD k .undef:=by
   intro c b s;split
   .rw[wW n]
    split
    .rename_i j t
     have:j≠k:=λe=>s (by rw[t,e])
     simp [List.getD,List.getElem?_set_ne this]
    .rfl
   .rfl
  by_cases m:r.x.it.wr=some k
  .rw[hk r (wI ..) m]
   split
   .rw[wW n,wW n,m]
    simp only[List.getD,List.getElem?_set_self',hlen]
    by_cases f:k<vs'.length
    .simp [f,hlen]
    .have l: ¬k<vs.length:=om
     simp [f,l]
   .exact h
  .rw[d _ _ m,d _ _ m];exact h
theorem VW {S:Nat->Bool}{r:Rec}(d:r.x.it.Bf=false):(T:List Rec)->(vs:List V)->(∀q∈T,q.x.it.Bf=false)->(∀q∈T,S q.x.i=true-> ∀k,q.x.it.wr=some k->r.x.it.wr≠some k)->
  wM S T (TQ vs r)=TQ (wM S T vs) r
 | [],_,_,_=>rfl
 |q::T,vs,hl,hk=>by
  have f:=hl q (wI ..);have c:=VW (S:=S) d T;simp only[wM,List.foldl_cons] at c |-
  by_cases b:S q.x.i=true
  .simp only[b,if_true]
   rw[<-c (TQ vs q) (λy a=>hl y (wH _ a)) (λy a=>hk y (wH _ a))];congr 1;rw[wW d,wW f,wW f,wW d]
   cases hw:r.x.it.wr with
   |none=>rfl
   |some j=>
    cases hw2:q.x.it.wr with
    |none=>rfl
    |some k=>
     have:j≠k:=λe=>hk q (wI ..) b k hw2 (by rw[hw,e])
     simp only;exact List.set_comm _ _ this
  .simp only[b,Bool.false_eq_true,if_false]
   exact c vs (λy a=>hl y (wH _ a)) (λy a=>hk y (wH _ a))
theorem Eo {S S':Nat->Bool}:(T:List Rec)->(vs:List V)->(∀q∈T,S q.x.i=S' q.x.i)->wM S T vs=wM S' T vs
 | [],_,_=>rfl
 |q::T,vs,h=>by
  have a:=Eo (S:=S) (S':=S') T;simp only[wM,List.foldl_cons] at a |-;rw[h q (wI ..)];exact a _ (λy b=>h y (wH _ b))
theorem HC {r:Rec}(j:r.aff=true->S r.x.i=S' r.x.i):iS base S h r=iS base S' h r:=by
 by_cases c:r.aff=true
 .simp only[iS,j c]
 .have d:r.x.it.a.qU=false:=by simp [Rec.aff] at c;exact c.1
  have f:(r.x.al&&r.b)=false:=by simp [Rec.aff] at c;simpa using c.2
  simp [iS,d,f]
theorem xW {S S':Nat->Bool}:(T:List Rec)->(h:H)->(∀q∈T,q.aff=true->S q.x.i=S' q.x.i)->lC base S T h=lC base S' T h
 | [],_,_=>rfl
 |q::T,h,hs=>by
  have a:=xW (S:=S) (S':=S') T;simp only[lC,List.foldl_cons] at a |-;rw[HC (hs q (wI ..))];exact a _ (λy b=>hs y (wH _ b))
def Extra (base:Nat)(S:Nat->Bool)(T:List Rec)(id:Nat):Prop:= ∃q∈T,S q.x.i=true/\q.x.al=true/\q.b=true/\base+q.x.i=id
theorem aeB {r:Rec}(d:S r.x.i=true->r.x.it.a.qU=false):
  iS base S h r=if S r.x.i=true/\r.x.al=true/\r.b=true then h.set (base+r.x.i) (r.ha.get (base+r.x.i)) else h:=by
 unfold iS
 by_cases c:S r.x.i=true
 .simp only[c,if_true,d c,Bool.false_eq_true,if_false,true_and,oD]
 .simp [c]
theorem pD {S:Nat->Bool}:(T:List Rec)->(h:H)->(∀q∈T,S q.x.i=true->q.x.it.a.qU=false)->
  (lC base S T h).next=h.next/\
  (∀id,¬Extra base S T id->(lC base S T h).get id=h.get id)/\
  (∀id,Extra base S T id-> ∃q∈T,S q.x.i=true/\q.x.al=true/\q.b=true/\base+q.x.i=id/\ ∀h',(lC base S T h').get id=q.ha.get id)
 | [],h,_=>⟨rfl,λ_ _=>rfl,λid s=>by have⟨q,c,_⟩:=s;cases c⟩
 |r::T,h,hn=>by
  have e:=λh=>aeB (base:=base) (h:=h) (hn r (wI ..))
  have j:=λh=>pD T h (λq c=>hn q (wH _ c))
  simp only[lC,List.foldl_cons] at j |-;refine⟨?_,λid d=>?_,λid d=>?_⟩
  .rw[(j _).1,e]
   split<;>rfl
  .have m: ¬Extra base S T id:=λ⟨q,c,hh⟩=>d ⟨q,wH _ c,hh⟩
   rw[(j _).2.1 id m,e];split
   .rename_i o
    have:id≠base+r.x.i:=λe=>d ⟨r,wI ..,o.1,o.2.1,o.2.2,e.symm⟩
    simp [H.gY,H.bT,this]
   .rfl
  .by_cases m:Extra base S T id
   .obtain⟨q,c,k,l,n,f,t⟩:=(j h).2.2 id m
    exact⟨q,wH _ c,k,l,n,f,λh'=>t _⟩
   .have⟨q,c,k,l,n,f⟩:=d
    rcases Hu.1 c with rfl|c
    .refine⟨q,wI ..,k,l,n,f,λh'=>?_⟩
     rw[(j _).2.1 id m,e,aS ⟨k,l,n⟩];simp [H.gY,H.bT,<-f]
    .exact absurd ⟨q,c,k,l,n,f⟩ m
theorem Xe {S:Nat->Bool}{id:Nat}:(T:List Rec)->(h:H)->h.get id=none->(∀q∈T,S q.x.i=true->q.x.it.a.qU=true->q.ha.get id=none)->(∀q∈T,base+q.x.i≠id)->
  (lC base S T h).get id=none
 | [],h,hn,_,_=>hn
 |r::T,h,hn,h1,h2=>by
  have c:=Xe (S:=S) (id:=id) T;simp only[lC,List.foldl_cons] at c |-;refine c _ ?_ (λq b=>h1 q (wH _ b)) (λq b=>h2 q (wH _ b));unfold iS;split
  .rename_i f
   split
   .rename_i d;exact h1 r (wI ..) f d
   .split
    .have:id≠base+r.x.i:=λe=>h2 r (wI ..) e.symm
     simp [H.gY,H.bT,this,hn]
    .exact hn
  .exact hn
theorem GZ {a b:List Rec}:lC base S (a++b) h=lC base S b (lC base S a h):=by simp [lC]
theorem ZU {a b:List Rec}{vs:List V}:wM S (a++b) vs=wM S b (wM S a vs):=by simp [wM]
end
end
end Go.Ay
namespace Go.Ay
open Go
section
variable {p q:AI} {k:Nat}
def Down (dep:Nat->List Nat)(S:Nat->Bool):Prop:= ∀j,S j=true-> ∀d∈dep j,S d=true
def TH (dep:Nat->List Nat)(a b:Nat):Prop:= ∀S:Nat->Bool,Down dep S->(∀d∈dep b,S d=true)->S a=true
structure AU (dep:Nat->List Nat)(n:Nat)(xs:List AI):Prop where
 pw:xs.Pairwise λa b=>a.i≠b.i/\(Ao a b=true->TH dep a.i b.i)/\(a.it.a.qG=true->b.it.a.qU=true->TH dep a.i b.i\/b.cks.contains a.i=true)
 al: ∀x∈xs,x.al=x.it.a.lV/\x.it.Bf=false
 lt: ∀x∈xs,x.i<n
 cover: ∀i,i<n-> ∃x∈xs,x.i=i
 ord: ∀l1 x l2,xs=l1++x::l2-> ∀d∈dep x.i,∃y∈l1,y.i=d
structure Inv (P:Program)(base n:Nat)(T:List Rec)(vars0:List V)(hS:H)(nt:Nat)(pv:List Nat)(m0:M)(h0:H)(w0:World)(ds:List Deferred)(S:Nat->Bool)(m:M)(a:Act)(w:World):Prop where
 st:St m nt pv [] (wM S T vars0) [] a
 df:a.defers=ds
 Zv:iR P m0 h0 w0 m (lC base S T hS) w
 nx:base+n<=(lC base S T hS).next
 free: ∀r∈T,r.x.al=true->S r.x.i=false->m (base+r.x.i)=none
 none: ∀T1 q T2,T=T1++q::T2->S q.x.i=true->q.x.it.a.qU=true-> ∀r∈T2,r.x.al=true->q.ha.get (base+r.x.i)=none
section
variable {P:Program} {cl yl:kO} {base n:Nat} {T:List Rec} {vars0:List V} {hS:H} {nt:Nat} {pv:List Nat} {m0:M} {h0:H} {w0:World} {ds:List Deferred}
 {S:Nat->Bool} {m:M} {a:Act} {w:World} {dep:Nat->List Nat} {ops:Array Oper}
theorem Vy {vs us:List V}{x:X}(h: ∀k∈x.Ov,vs.getD k .undef=us.getD k .undef):xv vs [] x=xv us [] x:=by
 cases x with
 |v k=>exact h k (by simp [X.Ov])
 |l k=>rfl
 |c v=>rfl
theorem amA (j:AU dep n (T.map (·.x))){c f:List Rec}{r:Rec}(l:T=c++r::f):
  (∀q∈c,q.x.i≠r.x.i/\(Ao q.x r.x=true->TH dep q.x.i r.x.i)/\(q.x.it.a.qG=true->r.x.it.a.qU=true->TH dep q.x.i r.x.i\/r.x.cks.contains q.x.i=true))/\
  (∀q∈f,r.x.i≠q.x.i/\(Ao r.x q.x=true->TH dep r.x.i q.x.i)/\(r.x.it.a.qG=true->q.x.it.a.qU=true->TH dep r.x.i q.x.i\/q.x.cks.contains r.x.i=true))/\
  (∀q∈c,∀q2∈f,q.x.i≠q2.x.i):=by
 have h:=j.pw
 rw[List.pairwise_map,l,List.pairwise_append,List.pairwise_cons] at h
 exact⟨λq b=>h.2.2 q b r (wI ..),λq b=>h.2.1.1 q b,λq b q2 d=>(h.2.2 q b q2 (wH _ d)).1⟩
theorem QX (b:p.it.wr=some k)(h2:k∈q.it.rds):Ao p q=true:=by
 simp [Ao,b,h2]
theorem UD (b:q.it.wr=some k)(h2:k∈p.it.rds):Ao p q=true:=by
 simp [Ao,b,h2]
theorem aeH (b:p.it.wr=some k)(h2:q.it.wr=some k):Ao p q=true:=by
 simp [Ao,b,h2]
theorem Oy (b:p.it.a.qU=true\/p.it.a.lV=true)(h2:q.it.a.qU=true\/q.it.a.qG=true):Ao p q=true:=by
 unfold Ao;simp only[Bool.or_eq_true,oD];exact .inr ⟨b,h2⟩
theorem RK {it:It}{vs:List V}{v:V}(h:it.Bf=false):(jC it.d vs [] v).2= []:=by
 unfold It.Bf at h;unfold jC
 cases hd:it.d with
 |l=>simp [hd] at h
 |v k=>rfl
 |n=>rfl
theorem DE:(T:List Rec)->(z:List V)->wM (λ_=>false) T z=z
 | [],_=>rfl
 |q::t,z=>by simpa [wM] using DE t z
theorem Wt {e:Nat×I×V}:(T:List Rec)->(log:Log)->e∈log->e∈Xb T log
 | [],_,h=>h
 |r::T,log,h=>by
  refine Wt T _ ?_;simp only[Dh];split
  .unfold Dp
   split
   .split
    .exact wH _ h
    .exact h
   .exact h
  .exact h
theorem EC {cks:List Nat}{b:Log}{h:H}(d:oI cks b h=true){i:Nat}{I:I}{v:V}(c:(i,I,v)∈b)(l:cks.contains i=true):
  ∃h',dI (xv [] []) h I=some (v,h'):=by
 have:=uR.1 d _ c
 simp only[l,Bool.not_true,Bool.false_or] at this
 split at this
 .rename_i o j f
  exact⟨j,by rw[f,Ft _ _ this]⟩
 .cases this
theorem agL (j1:Ep P cl)(j5:yM P yl){e9:List V}{h':H}(hC:Og cl yl base T vars0 [] hS e9 h')(hP:AU dep n (T.map (·.x)))
  (hb:base=h0.next) (f5:hS.get=h0.get) (f7:Na m0 h0.next) (j3:HR P m0 h0 w0)
  {J F:List Rec} {r:Rec} (hT:T=J++r::F) (hd:Down dep S) (g3: ∀d∈dep r.x.i,S d=true) (b9:S r.x.i=false)
  {o:Oper} (ho:ops[r.x.i]? =some o) (c1:vT P pv [] o=some r.x.it.a) (c2:Dst nt pv [] o.dst r.x.it.d [])
  (c3:match o.guard with
   |none=>r.x.it.g=none
   |some (j,b)=> ∃t x,(ops[j]?).bind (·.dst)=some t/\fS pv [] (.tmp t)=some x/\r.x.it.g=some (x,b))
  (N:Inv P base n T vars0 hS nt pv m0 h0 w0 ds S m a w) {rr:Option Nat} {Q:Exit->Act->World->Prop} {K:Act->World->Prop}
  (hK: ∀a' w' m',Inv P base n T vars0 hS nt pv m0 h0 w0 ds (λj=>S j||j==r.x.i) m' a' w'->K a' w'):wpOpIn (Wf rr) 0 P ops Q r.x.i K a w:=by
 obtain⟨pA,pB,pC⟩:=amA hP hT
 have hA: ∀q∈J,Ao q.x r.x=true->S q.x.i=true:=λq f hc=>(pA q f).2.1 hc S hd g3
 have hB: ∀q∈F,Ao r.x q.x=true->S q.x.i=false:=λq f hc=>by
  cases hs:S q.x.i with
  |false=>rfl
  |true=>have:=(pB q f).2.1 hc S hd (hd _ hs);rw[b9] at this;cases this
 have a2: ∀q∈T,q.x.al=q.x.it.a.lV/\q.x.it.Bf=false:=λq f=>hP.al q.x (oG.2 ⟨q,f,rfl⟩)
 have f0: ∀q∈T,q.x.i<n:=λq f=>hP.lt q.x (oG.2 ⟨q,f,rfl⟩)
 have d4: ∀q∈J,q∈T:=λq f=>by rw[hT];simp [f]
 have b4: ∀q∈F,q∈T:=λq f=>by rw[hT];simp [f]
 have inr:r∈T:=by rw[hT];simp
 have i8: ∀q∈J,q.x.it.Bf=false:=λq f=>(a2 q (d4 q f)).2
 have g4: ∀q∈F,q.x.it.Bf=false:=λq f=>(a2 q (b4 q f)).2
 have g8:r.x.it.Bf=false:=(a2 r inr).2
 have g6:=hC
 rw[hT] at g6
 obtain⟨e1,e2,e3,_⟩:=uI J (r::F) _ _ _ _ _ (λq f=>(a2 q (d4 q f)).1) g6
 have split:(S:Nat->Bool)->lC base S T hS=lC base S F (iS base S (lC base S J hS) r):=λS=>by rw[hT,GZ];rfl
 have a8:(S:Nat->Bool)->wM S T vars0=wM S F (if S r.x.i then TQ (wM S J vars0) r else wM S J vars0):=λS=>by rw[hT,ZU];rfl
 let W:Nat->Bool:=λj=>S j||j==r.x.i
 have f3:W r.x.i=true:=by simp [W]
 have d8: ∀i,i≠r.x.i->W i=S i:=λi hi=>by simp [W,hi]
 have h5: ∀q∈J,S q.x.i=W q.x.i:=λq f=>(d8 _ (pA q f).1).symm
 have h7: ∀q∈F,S q.x.i=W q.x.i:=λq f=>(d8 _ (Ne.symm (pB q f).1)).symm
 have a1:lC base S T hS=lC base S F (lC base S J hS):=by rw[split S];simp [iS,b9]
 have b2:lC base W T hS=lC base S F (iS base (λ_=>true) (lC base S J hS) r):=by
  rw[split W,xW J hS (S:=W) (S':=S) (λq f _=>(h5 q f).symm),HC (S:=W) (S':=λ_=>true) (λ_=>by simp [f3]),xW F _ (S:=W) (S':=S) (λq f _=>(h7 q f).symm)]
 have i5:wM W T vars0=TQ (wM S T vars0) r:=by
  rw[a8 W,a8 S];simp only[f3,b9,if_true,Bool.false_eq_true,if_false];rw[Eo J vars0 (λq f=>(h5 q f).symm),Eo F _ (λq f=>(h7 q f).symm)];refine VW g8 F _ g4 (λq f b7 k hk i1=>?_);have:=hB q f (aeH i1 hk);rw[b7] at this;cases this
 have g9: ∀k∈r.x.it.rds,(wM S T vars0).getD k .undef=r.vars.getD k .undef:=by
  intro k hk;rw[a8 S,e1];simp only[b9,Bool.false_eq_true,if_false]
  have h1:(wM S F (wM S J vars0)).getD k .undef=(wM (λ_=>false) F (wM S J vars0)).getD k .undef:=
   Fq F _ _ g4 rfl rfl (λq f hw=>hB q f (UD hw hk))
  rw[h1,DE];exact Fq J _ _ i8 rfl rfl (λq f hw=>hA q f (QX hw hk))
 have d6: ∀x∈r.x.it.a.xs,xv (wM S T vars0) [] x=xv r.vars [] x:=λx L=>Vy λk hk=>g9 k (by
  unfold It.rds
  exact List.mem_append_left _ (List.mem_flatten.2 ⟨x.Ov,oG.2 ⟨x,L,rfl⟩,hk⟩))
 have h4:iT (wM S T vars0) [] r.x.it.g=iT r.vars [] r.x.it.g:=by
  cases l:r.x.it.g with
  |none=>rfl
  |some xb=>
   have⟨x,b⟩:=xb;simp only[iT];rw[Vy (x:=x) λk hk=>g9 k (by unfold It.rds;rw[l];exact List.mem_append_right _ hk)]
 have e6: ∀id,base<=id->hS.get id=none:=λid j9=>by
  rw[f5]
  cases l:h0.get id with
  |none=>rfl
  |some o=>
   obtain⟨q,f,_⟩:=j3.live id o l;rw[f7 id om] at f;cases f
 have L0: ∀q∈F,q.x.al=true->(lC base S J hS).get (base+q.x.i)=none:=by
  intro q f G;refine Xe J hS (e6 _ om) (λq2 f1 i6 i2=>?_) (λq2 f1 e=>pC q2 f1 q f om);obtain⟨U1,Z,hU⟩:=List.append_of_mem f1;exact N.none U1 q2 (Z++r::F) (by rw[hT,hU];simp) i6 i2 q (by simp [f]) G
 have b3:r.x.it.a.qU=true\/r.x.it.a.qG=true->lC base S J hS=r.hb:=by
  intro hw;rw[e2];refine xW J hS (λq f ha=>?_);refine hA q f (Oy ?_ hw);simp only[Rec.aff,Bool.or_eq_true,oD] at ha;rcases ha with h|h
  .exact .inl h
  .exact .inr ((a2 q (d4 q f)).1▸h.1)
 have c4:r.x.it.a.qU=true\/r.x.it.a.lV=true-> ∀q∈F,S q.x.i=true->q.x.it.a.qU=false:=by
  intro hw q f hs
  cases b6:q.x.it.a.qU with
  |false=>rfl
  |true=>have:=hB q f (Oy hw (.inl b6));rw[hs] at this;cases this
 have c5: ∀q∈T,q.x.al=true->q.b=true-> ∀R,q.ha.get (base+q.x.i)=some R->R.rw=true:=by
  intro q f q2 q3 R l;obtain⟨U1,Z,hU⟩:=List.append_of_mem f;have c9:=hC;rw[hU] at c9;obtain⟨_,_,⟨_,_,k3⟩,_⟩:=uI U1 (q::Z) _ _ _ _ _ (λy hy=>(a2 y (by rw[hU];simp [hy])).1) c9;simp only[q3,if_true,q2] at k3;obtain⟨_,i4,_,_,k4,k5,_⟩:=Tg ((a2 q f).1▸q2) k3;rw[k5] at l;simp [H.gY,H.bT] at l;subst l;exact k4
 have⟨w1,w2,w3⟩:=e3
 have i3:=Dl N.st c3 (h4.trans w1)
 have d9: ∀x,(a.put o.dst x).defers=ds:=λx=>by rw[<-N.df];cases o.dst<;>rfl
 have e4:(m':M)->(x:Value)->Ext m m'->VR m' r.v x->St m' nt pv [] (wM W T vars0) [] (a.put o.dst x):=by
  intro m' x he hv;have:=(N.st.mono he).put c2 hv;rw[i5];have j2:(jC r.x.it.d (wM S T vars0) [] r.v).2= []:=RK g8;rw[j2] at this;exact this
 have a9:(m':M)->(g g':Nat)->(∀id q,m' id=some q->m id=some q\/(g<=id/\id<g'))->(base+n<=g\/(g=base+r.x.i/\g'=base+r.x.i+1))-> ∀q∈T,q.x.al=true->W q.x.i=false->m' (base+q.x.i)=none:=by
  intro m' g g' hf l q f G hs;have d7:q.x.i≠r.x.i:=λe=>by rw[e,f3] at hs;cases hs
  rw[d8 _ d7] at hs;have h1:=N.free q f G hs;have h2:=f0 q f
  cases hm:m' (base+q.x.i) with
  |none=>rfl
  |some z=>
   rcases hf _ _ hm with h3|h3
   .rw[h1] at h3;cases h3
   .omega
 have a3:(r.x.it.a.qU=true-> ∀q∈F,q.x.al=true->r.ha.get (base+q.x.i)=none)-> ∀U1 q Z,T=U1++q::Z->W q.x.i=true->q.x.it.a.qU=true-> ∀y∈Z,y.x.al=true->q.ha.get (base+y.x.i)=none:=by
  intro i0 U1 q Z hU hs hw y hy G
  by_cases d7:q.x.i=r.x.i
  ·--the same item
   have nd:(A B:List Rec)->(x y:Rec)->(C D:List Rec)->A++x::B=C++y::D->x.x.i=y.x.i->(A++x::B).Pairwise (λu v=>u.x.i≠v.x.i)->x=y/\B=D:=by
    intro A
    induction A with
    |nil=>
     intro B x y C D he hi hp
     cases C with
     |nil=>simp at he;exact⟨he.1,he.2⟩
     |cons c C=>
      simp only[List.nil_append,List.cons_append,List.cons.injEq] at he;simp only[List.nil_append,List.pairwise_cons] at hp;exact absurd hi (hp.1 y (by rw[he.2];simp))
    |cons b A ih=>
     intro B x y C D he hi hp
     cases C with
     |nil=>
      simp only[List.nil_append,List.cons_append,List.cons.injEq] at he;simp only[List.cons_append,List.pairwise_cons] at hp;exact absurd (by rw[he.1,hi]) (hp.1 x siM)
     |cons c C=>
      simp only[List.cons_append,List.cons.injEq] at he;simp only[List.cons_append,List.pairwise_cons] at hp;exact ih B x y C D he.2 hi hp.2
   have j0:(J++r::F).Pairwise (λu v=>u.x.i≠v.x.i):=by
    have h:=hP.pw;rw[List.pairwise_map,hT] at h;exact h.imp λhh=>hh.1
   obtain⟨h1,h2⟩:=nd J F r q U1 Z (hT.symm.trans hU) d7.symm j0;subst h1;subst h2;exact i0 hw y hy G
  .rw[d8 _ d7] at hs
   exact N.none U1 q Z hU hs hw y hy G
 unfold wpOpIn
 simp only[ho]
 rw[i3]
 cases hbb:r.b with
 |false=>
  simp only[hbb] at w3;obtain⟨hv,c0⟩:r.v= .undef/\r.ha=r.hb:=by simpa using w3
  simp only[Bool.false_eq_true,if_false];refine⟨λ_ _=>trivial,hK _ w m ?_⟩
  have a0:lC base W T hS=lC base S T hS:=by
   rw[b2,a1];congr 1
   by_cases hw:r.x.it.a.qU=true
   .simp only[iS,if_true,hw];rw[c0,b3 (.inl hw)]
   .simp only[iS,hw,hbb];simp
  refine⟨e4 m undef (Ext.refl m) (by rw[hv];exact VR.undef m),d9 _,by show iR P m0 h0 w0 m (lC base W T hS) w;rw[a0];exact N.Zv,by show base+n<=(lC base W T hS).next;rw[a0];exact N.nx,?_,?_⟩
  .exact a9 m (base+n) (base+n) (λ_ _ h=> .inl h) (.inl (dN _))
  .exact a3 (λhw q f G=>by rw[c0,<-b3 (.inl hw)];exact L0 q f G)
 |true=>
  simp only[hbb,if_true] at w3;simp only[if_true];have e5:Na m (lC base S T hS).next:=N.Zv.low f7
  by_cases hw:r.x.it.a.qU=true
  ·--it turns the heap
   have G:r.x.al=false:=by
    cases h9:r.x.al with
    |false=>rfl
    |true=>have:=UK ((a2 r inr).1▸h9);rw[hw] at this;cases this
   simp only[G] at w3;have b5:oF cl yl r.vars [] r.hb r.x.it.a=some (r.v,r.ha):=by simpa using w3
   have a4:=b3 (.inl hw);have Y:=c4 (.inl hw);obtain⟨b1,O,_⟩:=pD (base:=base) F (lC base S J hS) Y;obtain⟨d1,c8,_⟩:=pD (base:=base) F r.ha Y;have g2: ∀id,Extra base S F id->(lC base S J hS).get id=none:=λid ⟨q,f,_,e7,_,e⟩=>e▸L0 q f e7
   have b0: ∀id R,r.hb.get id=some R->(lC base S T hS).get id=some R:=by
    intro id R l;rw[<-a4] at l;rw[a1]
    by_cases L:Extra base S F id
    .rw[g2 id L] at l;cases l
    .rw[O id L];exact l
   have a6:r.hb.next=(lC base S T hS).next:=by rw[a1,b1,a4]
   have a5:lC base W T hS=lC base S F r.ha:=by rw[b2];simp [iS,hw]
   rw[Zd (λx L=>(d6 x L).symm)] at b5;refine TW j1 j5 c1 N.st (N.Zv.rel.sub b0) (by rw[a6];exact e5) b5 (λx w' m' hv s=>?_);refine hK _ w' m' ⟨e4 m' x s.ext hv,d9 x,?_,?_,?_,?_⟩
   .show iR P m0 h0 w0 m' (lC base W T hS) w'
    refine N.Zv.frame b0 s (λid R l=>?_) (by have:=N.nx;omega) (by rw[a5,d1];exact dN _) (by rw[a5,d1,<-a6];exact s.next);rw[a5] at l
    by_cases L:Extra base S F id
    .obtain⟨q,f,q1,q2,q3,q4,q5⟩:=(pD (base:=base) F r.ha Y).2.2 id L
     rw[q5] at l;exact .inr ⟨by rw[a1,q5];exact l,c5 q (b4 q f) q2 q3 R (by rw[q4];exact l),by rw[<-a4];exact g2 id L⟩
    .rw[c8 id L] at l;exact .inl l
   .show base+n<=(lC base W T hS).next
    rw[a5,d1];have:=s.next;have:=N.nx;omega
   .exact a9 m' _ _ s.fresh (.inl (by rw[a6];exact N.nx))
   .refine a3 (λ_ q f e7=>s.old _ ?_ ?_)
    .rw[a6]
     have:=N.nx;have:=f0 q (b4 q f);omega
    .rw[<-a4];exact L0 q f e7
  .have c7:r.x.it.a.qU=false:=by simpa using hw
   cases G:r.x.al with
   |true=>
    simp only[G,if_true] at w3;have a7:r.x.it.a.lV=true:=(a2 r inr).1▸G;obtain⟨i,R,hi,j7,j8,c0,g0⟩:=Tg a7 w3;have Y:=c4 (.inr a7);obtain⟨b1,O,_⟩:=pD (base:=base) F (lC base S J hS) Y
    let g:H:={lC base S T hS with next:=base+r.x.i}
    have d5:=g0 g rfl;have i9:m (base+r.x.i)=none:=N.free r inr G b9;have d0:vT P pv [] o=some (.op i):=hi▸c1;rw[Gi (ρ':=xv (wM S T vars0) []) (λx L=>(d6 x (by rw[hi];exact L)).symm)] at d5;have j4:HR P m g w:=N.Zv.rel.sub (λ_ _ h=>h);refine Sh (rD d0) (Jl N.st j4 i9 d0 d5) (λx w' m' hv s=>?_)
    have a5:(lC base W T hS).get=(g.new R).get/\(lC base W T hS).next=(lC base S T hS).next:=by
     rw[b2]
     have f9:iS base (λ_=>true) (lC base S J hS) r=(lC base S J hS).set (base+r.x.i) (some R):=by
      simp only[iS,if_true,c7,Bool.false_eq_true,if_false,G,hbb,Bool.and_self];rw[c0];simp [H.gY,H.bT]
     rw[f9];obtain⟨d1,c8,j6⟩:=pD (base:=base) F ((lC base S J hS).set (base+r.x.i) (some R)) Y;refine⟨funext λid=>?_,by rw[d1,a1,b1];rfl⟩
     by_cases L:Extra base S F id
     .obtain⟨q,f,q1,q2,q3,q4,q5⟩:=j6 id L
      have h8:id≠base+r.x.i:=λe=>(pB q f).1 om
      have f2:g.get id=(lC base S T hS).get id:=rfl;rw[q5,H.jY,aQ (show id≠g.next from h8),f2,a1,q5]
     .have f2:g.get id=(lC base S T hS).get id:=rfl
      rw[c8 id L,H.gY,H.jY,f2,a1,O id L]
    refine hK _ w' m' ⟨e4 m' x s.ext hv,d9 x,?_,?_,?_,?_⟩
    .show iR P m0 h0 w0 m' (lC base W T hS) w'
     have:=N.nx;have:=f0 r inr;exact N.Zv.frame (g:=g) (g':=g.new R) (λ_ _ h=>h) s (λid i4 l=> .inl (by rw[<-a5.1];exact l)) (by show h0.next<=base+r.x.i;omega) (by rw[a5.2];show base+r.x.i+1<=_;omega) (by rw[a5.2];exact dN _)
    .show base+n<=(lC base W T hS).next
     rw[a5.2];exact N.nx
    .exact a9 m' _ _ s.fresh (.inr ⟨rfl,rfl⟩)
    .exact a3 (λh=>by rw[c7] at h;cases h)
   |false=>
    simp only[G] at w3;have b5:oF cl yl r.vars [] r.hb r.x.it.a=some (r.v,r.ha):=by simpa using w3
    have a7:r.x.it.a.lV=false:=(a2 r inr).1▸G;obtain⟨c0,f4⟩:=Pk c7 a7 b5
    have a0:lC base W T hS=lC base S T hS:=by
     rw[b2,a1];congr 1;simp only[iS,if_true,c7,G];simp
    have⟨i,hi,d5,f6⟩:=f4;have d0:vT P pv [] o=some (.op i):=hi▸c1
    have ⟨g,b0,hgx,hgn,hgv⟩: ∃g:H,(∀id R,g.get id=some R->(lC base S T hS).get id=some R)/\(∀id R,(lC base S T hS).get id=some R->g.get id=some R\/(R.rw=true/\g.get id=none))/\
      g.next=(lC base S T hS).next/\dI (xv r.vars []) g i=some (r.v,g):=by
     cases hrd:i.qG with
     |false=>exact⟨lC base S T hS,λ_ _ h=>h,λ_ _ h=> .inl h,rfl,f6 hrd _⟩
     |true=>
      have c6:r.x.it.a.qG=true:=by rw[hi];exact hrd
      have g5:(U:List Rec)->(∀q∈U,S q.x.i=true->q.x.it.a.qU=false)\/ ∃U1 q Z,U=U1++q::Z/\S q.x.i=true/\q.x.it.a.qU=true/\ ∀y∈Z,S y.x.i=true->y.x.it.a.qU=false:=by
       intro U
       induction U with
       |nil=>exact .inl λq f=>by cases f
       |cons q U ih=>
        rcases ih with ih|⟨U1,y,Z,k1,k2,k3,k4⟩
        .by_cases f:S q.x.i=true/\q.x.it.a.qU=true
         .exact .inr ⟨[],q,U,rfl,f.1,f.2,ih⟩
         .refine .inl λy hy hs=>?_
          rcases Hu.1 hy with rfl|hy
          .cases h9:y.x.it.a.qU with
           |false=>rfl
           |true=>exact absurd ⟨hs,h9⟩ f
          .exact ih y hy hs
        .exact .inr ⟨q::U1,y,Z,by simp [k1],k2,k3,k4⟩
      rcases g5 F with Y|⟨U1,q,Z,hU,b7,b6,Y⟩
      .have a4:=b3 (.inr c6)
       obtain⟨b1,O,_⟩:=pD (base:=base) F (lC base S J hS) Y;refine⟨r.hb,λid R l=>?_,λid R l=>?_,by rw[a1,b1,a4],by rw[c0] at d5;exact d5⟩
       .rw[<-a4] at l
        rw[a1]
        by_cases L:Extra base S F id
        .have⟨y,hy,_,e8,_,e⟩:=L
         rw[<-e,L0 y hy e8] at l;cases l
        .rw[O id L];exact l
       .rw[a1] at l
        by_cases L:Extra base S F id
        .obtain⟨y,hy,y1,y2,y3,y4,y5⟩:=(pD (base:=base) F (lC base S J hS) Y).2.2 id L
         rw[y5] at l;exact .inr ⟨c5 y (b4 y hy) y2 y3 R (by rw[y4];exact l),by rw[<-a4,<-y4];exact L0 y hy y2⟩
        .rw[O id L,a4] at l;exact .inl l
      .have b8:T=(J++r::U1)++q::Z:=by rw[hT,hU];simp
       have d3:lC base S T hS=lC base S Z q.ha:=by
        rw[b8,GZ];simp only[lC,List.foldl_cons];congr 1;simp [iS,b7,b6]
       obtain⟨b1,O,_⟩:=pD (base:=base) Z q.ha Y;have h6: ∀y∈Z,y∈T:=λy hy=>by rw[b8];simp [hy]
       refine⟨q.ha,λid R l=>?_,λid R l=>?_,by rw[d3,b1],?_⟩
       .rw[d3]
        by_cases L:Extra base S Z id
        .have⟨y,hy,_,e8,_,e⟩:=L
         rw[<-e,N.none _ q Z b8 b7 b6 y hy e8] at l;cases l
        .rw[O id L];exact l
       .rw[d3] at l
        by_cases L:Extra base S Z id
        .obtain⟨y,hy,y1,y2,y3,y4,y5⟩:=(pD (base:=base) Z q.ha Y).2.2 id L
         rw[y5] at l;exact .inr ⟨c5 y (h6 y hy) y2 y3 R (by rw[y4];exact l),by rw[<-y4];exact N.none _ q Z b8 b7 b6 y hy y2⟩
        .rw[O id L] at l;exact .inl l
       ·--it has been read again behind q
        have g7:q∈F:=by rw[hU];simp
        rcases (pB q g7).2.2 c6 b6 with f8|i7
        .have:=f8 S hd (hd _ b7);rw[b9] at this;cases this
        .have c9:=hC
         rw[b8] at c9;obtain⟨_,_,⟨_,k2,_⟩,_⟩:=uI (J++r::U1) (q::Z) _ _ _ _ _ (λy hy=>(a2 y (by rw[b8];exact List.mem_append_left _ hy)).1) c9
         have g1:(r.x.i,i.close (xv r.vars []),r.v)∈Xb (J++r::U1) []:=by
          have:Xb (J++r::U1) []=Xb U1 (Dh r (Xb J [])):=by simp [Xb]
          rw[this];refine Wt U1 _ ?_;simp only[Dh,hbb,if_true,Dp,hi,hrd];exact wI ..
         obtain⟨h9,k9⟩:=EC k2 g1 i7;rw[JQ hrd] at k9;have:=VE hrd k9;rw[this] at k9;exact k9
    rw[Gi (ρ':=xv (wM S T vars0) []) (λx L=>(d6 x (by rw[hi];exact L)).symm)] at hgv;refine Sh (rD d0) (Jl N.st (N.Zv.rel.sub b0) (by rw[hgn];exact e5.fresh) d0 hgv) (λx w' m' hv s=>?_);refine hK _ w' m' ⟨e4 m' x s.ext hv,d9 x,?_,?_,?_,?_⟩
    .show iR P m0 h0 w0 m' (lC base W T hS) w'
     rw[a0];refine N.Zv.frame b0 s (λid R l=>?_) (by have:=N.nx;omega) om (dN _);rcases hgx id R l with h1|⟨h1,h2⟩
     .exact .inl h1
     .exact .inr ⟨l,h1,h2⟩
    .show base+n<=(lC base W T hS).next
     rw[a0];exact N.nx
    .exact a9 m' _ _ s.fresh (.inl (by rw[hgn];exact N.nx))
    .exact a3 (λh=>by rw[c7] at h;cases h)
end
end
end Go.Ay
namespace Go.Ay
open Go
def Ch (ops:Array Oper)(i:Nat):List Nat:=match ops[i]? with|some o=>xR o|none=> []
def Rel (dep:Nat->List Nat)(a b:AI):Prop:=
 a.i≠b.i/\(Ao a b=true->TH dep a.i b.i)/\(a.it.a.qG=true->b.it.a.qU=true->TH dep a.i b.i\/b.cks.contains a.i=true)
theorem Qu {d j:Nat}:(bef:List Nd)->(Hp d bef).testBit j=true-> ∃q∈bef,q.x.i=d/\q.anc.testBit j=true
 | [],h=>by simp [Hp] at h
 |n::r,h=>by
  simp only[Hp] at h;split at h
  .rename_i e;exact⟨n,wI ..,e,h⟩
  .obtain⟨q,b,a⟩:=Qu r h;exact⟨q,wH _ b,a⟩
theorem Oh {b:List Nd}{j:Nat}:(ds:List Nat)->(m0:Nat)->(ds.foldl (λm d=>m|||(2^d|||Hp d b)) m0).testBit j=true->
  m0.testBit j=true\/ ∃d∈ds,d=j\/(Hp d b).testBit j=true
 | [],m0,h=> .inl h
 |d::ds,m0,h=>by
  simp only[List.foldl_cons] at h;rcases Oh ds _ h with a|⟨f,c,a⟩
  .simp only[Nat.testBit_or,Bool.or_eq_true,Nat.testBit_two_pow,decide_eq_true_eq] at a
   rcases a with a|a|a
   .exact .inl a
   .exact .inr ⟨d,wI ..,.inl a⟩
   .exact .inr ⟨d,wI ..,.inr a⟩
  .exact .inr ⟨f,wH _ c,a⟩
theorem Dd {dep:Nat->List Nat}:(l bef:List Nd)->Iv l bef=true->(∀n∈l,n.dep=dep n.x.i)->(∀q∈bef,q.dep=dep q.x.i/\ ∀j,q.anc.testBit j=true->TH dep j q.x.i)->
  (∀q∈bef,∀n∈l,Rel dep q.x n.x)/\l.Pairwise (λa b=>Rel dep a.x b.x)/\(∀n∈l,n.x.al=n.x.it.a.lV/\n.x.it.Bf=false)/\
  (∀l1 n l2,l=l1++n::l2-> ∀d∈n.dep,∃y,(y∈bef\/y∈l1)/\y.x.i=d)
 | [],bef,_,_,_=>by
  refine⟨λ_ _ n h=>?_,List.Pairwise.nil,λn h=>?_,λl1 n l2 h=>?_⟩
  .cases h
  .cases h
  .cases l1<;>simp at h
 |n::rest,bef,h,hd,hb=>by
  simp only[Iv,oD] at h;obtain⟨⟨⟨⟨⟨⟨⟨W,B⟩,K⟩,c4⟩,Y⟩,c6⟩,U⟩,Q⟩:=h;have L:=hd n (wI ..)
  have k: ∀j,n.anc.testBit j=true->TH dep j n.x.i:=by
   intro j N S O F;have B:=beq_iff_eq.1 B;rw[B] at N;rcases Oh _ _ N with s|⟨d,r,s⟩
   .simp at s
   .have w:S d=true:=F d (L▸r)
    rcases s with s|s
    .exact s▸w
    .obtain⟨q,c,e,A⟩:=Qu _ s
     exact (hb q c).2 j A S O (by rw[e];exact O d w)
  have G: ∀q∈n::bef,q.dep=dep q.x.i/\ ∀j,q.anc.testBit j=true->TH dep j q.x.i:=λq c=>by
   rcases Hu.1 c with rfl|c
   .exact⟨L,k⟩
   .exact hb q c
  obtain⟨J,Z,P,R⟩:=Dd rest (n::bef) Q (λm o=>hd m (wH _ o)) G
  have v: ∀q∈bef,Rel dep q.x n.x:=by
   intro q c;refine⟨λe=>?_,λhc=>?_,λs A=>?_⟩
   .have f:(bef.any λq=>q.x.i==n.x.i)=true:=List.any_eq_true.2 ⟨q,c,by simp [e]⟩
    rw[f] at K;cases K
   .have f:=uR.1 c4 q c
    simp only[hc,Bool.not_true,Bool.false_or] at f;exact k _ f
   .have f:=uR.1 Y q c
    simp only[s,A,Bool.and_self,Bool.not_true,Bool.false_or,Bool.or_eq_true] at f;rcases f with f|f
    .exact .inl (k _ f)
    .exact .inr f
  refine⟨λq c m o=>?_,List.pairwise_cons.2 ⟨λm o=>J n (wI ..) m o,Z⟩,λm o=>?_,λl1 m l2 u d r=>?_⟩
  .rcases Hu.1 o with rfl|o
   .exact v q c
   .exact J q (wH _ c) m o
  .rcases Hu.1 o with rfl|o
   .exact⟨beq_iff_eq.1 U,by simpa using c6⟩
   .exact P m o
  .cases l1 with
   |nil=>
    simp only[List.nil_append,List.cons.injEq] at u;obtain⟨rfl,rfl⟩:=u;have f:=uR.1 W d r;obtain⟨q,c,e⟩:=List.any_eq_true.1 f;exact⟨q,.inl c,by simpa using e⟩
   |cons y l1=>
    simp only[List.cons_append,List.cons.injEq] at u;obtain⟨rfl,u⟩:=u;obtain⟨z,t,e⟩:=R l1 m l2 u d r;refine⟨z,?_,e⟩;rcases t with t|t
    .rcases Hu.1 t with rfl|t
     .exact .inr (wI ..)
     .exact .inl t
    .exact .inr (wH _ t)
section
variable {P:Program} {nt:Nat} {pv:List Nat} {ops:Array Oper}
theorem Ca:(os:List Oper)->(k:Nat)->(ns:List Nd)->Eg P nt pv ops k os=some ns->
  ∀(j:Nat) (nd:Nd),ns[j]? =some nd-> ∃o,os[j]? =some o/\nd.x.i=k+j/\tM P nt pv [] ops o=some (nd.x.it, [])/\nd.dep=xR o
 | [],k,ns,h,j,nd,hj=>by simp only[Eg] at h;cases h;simp at hj
 |o::os,k,ns,h,j,nd,hj=>by
  simp only[Eg] at h;split at h
  .rename_i it a
   simp only[kU] at h;obtain⟨r,c,rfl⟩:=h
   cases j with
   |zero=>simp at hj;subst hj;exact⟨o,rfl,siM,a,rfl⟩
   |succ j=>
    obtain⟨l,d,m,f,b⟩:=Ca os (k+1) r c j nd (by simpa using hj);exact⟨l,by simpa using d,om,f,b⟩
  .cases h
structure Uz (P:Program)(nt:Nat)(pv:List Nat)(ops:Array Oper)(xs:List AI):Prop where
 ok:AU (Ch ops) ops.size xs
 it: ∀x∈xs,∃o,ops[x.i]? =some o/\tM P nt pv [] ops o=some (x.it, [])
theorem Th {u:List Nd}{xs:List AI}(A:(j:Nat)->(nd:Nd)->u[j]? =some nd-> ∃o,ops[nd.x.i]? =some o/\tM P nt pv [] ops o=some (nd.x.it, [])/\nd.dep=xR o)
  (m:Uj u ops.size=some xs):Uz P nt pv ops xs:=by
 unfold Uj at m
 split at m
 .cases m
 .rename_i h l
  split at m
  .rename_i t
   cases m
   simp only[oD,VC] at t
   have⟨U,Q⟩:=t
   have c: ∀nd∈h,∃o,ops[nd.x.i]? =some o/\tM P nt pv [] ops o=some (nd.x.it, [])/\nd.dep=xR o:=by
    intro nd a;obtain⟨m1,N⟩:=iY l;obtain⟨j,Y,B⟩:=List.getElem_of_mem a;have z:j<(Uw u.length u []).length:=om
    obtain⟨b,J,r⟩:=N j _ (dJ z);rw[dJ Y,B] at J;cases J;simp only[kU] at r;obtain⟨mm,v,rfl⟩:=r;exact let ⟨o,f,k,h3⟩:=A _ _ v;⟨o,f,k,h3⟩
   obtain⟨_,R,L,O⟩:=Dd (dep:=Ch ops) h [] Q (λnd a=>by
    obtain⟨o,f,_,k⟩:=c nd a
    rw[k];simp [Ch,f]) (λq w=>by cases w)
   refine⟨⟨?_,λx s=>?_,λx s=>?_,λi hi=>?_,λl1 x l2 Z d G=>?_⟩,λx s=>?_⟩
   case refine_1=>rw[List.pairwise_map];exact R
   case refine_2=>
    obtain⟨nd,a,rfl⟩:=oG.1 s;exact L nd a
   case refine_3=>
    obtain⟨nd,a,rfl⟩:=oG.1 s;obtain⟨o,f,_⟩:=c nd a;exact (Vm.1 f).1
   case refine_4=>
    have W:=uR.1 U i (mS.2 hi);obtain⟨q,w,e⟩:=List.any_eq_true.1 W;exact⟨q.x,oG.2 ⟨q,w,rfl⟩,by simpa using e⟩
   case refine_5=>
    obtain⟨L1,F,K,e1,e2⟩:=List.map_eq_append_iff.1 Z
    cases F with
    |nil=>simp at e2
    |cons nd F=>
     simp only[List.map_cons,List.cons.injEq] at e2;obtain⟨o,f,_,k⟩:=c nd (by rw[K];simp);obtain⟨y,n,e⟩:=O L1 nd F K d (by rw[k];rw[<-e2.1] at G;simpa [Ch,f] using G);rcases n with n|n
     .cases n
     .exact⟨y.x,by rw[<-e1];exact oG.2 ⟨y,n,rfl⟩,e⟩
   case refine_6=>
    obtain⟨nd,a,rfl⟩:=oG.1 s;obtain⟨o,f,k,_⟩:=c nd a;exact⟨o,f,k⟩
  .cases m
theorem JC {c:C}(a:Tn P nt pv ops=some c): ∃(loc:List Nat) (xs:List AI),c= .any ops.size loc.length xs/\(∀t∈loc,t<nt)/\Uz P nt (pv++loc) ops xs:=by
 unfold Tn at a;simp only at a;split at a
 .cases a
 .rename_i m d
  have b:(j:Nat)->(nd:Nd)->m[j]? =some nd-> ∃o,ops[nd.x.i]? =some o/\tM P nt (pv++locals pv (ops.toList.filterMap (·.dst)) []) [] ops o=some (nd.x.it, [])/\nd.dep=xR o:=λj nd r=>by
   obtain⟨o,u,l,q,s⟩:=Ca _ _ _ d j nd r;exact⟨o,by simp only[l,Nat.zero_add];simpa using u,q,s⟩
  split at a
  .rename_i h
   have k: ∀t∈locals pv (ops.toList.filterMap (·.dst)) [],t<nt:=λt n=>by simpa using uR.1 h t n
   obtain⟨xs,f,rfl⟩:=kU.1 a;exact⟨_,_,rfl,k,Th b f⟩
  .cases a
end
end Go.Ay
namespace Go.Ay
open Go
def left (S:Nat->Bool):Nat->Nat
 |0=>0
 |n+1=>left S n+(if S n then 0 else 1)
theorem IL (S:Nat->Bool): ∀n,left S n<=n
 |0=>dN _
 |n+1=>by have:=IL S n;simp only[left];split<;>omega
theorem Qq {S:Nat->Bool}: ∀n,left S n=0-> ∀i,i<n->S i=true
 |0,_,i,h=>om
 |n+1,h,i,hi=>by
  simp only[left] at h
  by_cases a:i=n
  .subst a
   cases hs:S i with
   |true=>rfl
   |false=>simp [hs] at h
  .exact Qq n om i om
theorem Pw {S a:Nat->Bool}{i:Nat}(b:S i=false)(h2:a=λj=>S j||j==i): ∀n,left a n<=left S n/\(i<n->left a n+1<=left S n)
 |0=>⟨dN _,λh=>om⟩
 |n+1=>by
  have d:=Pw b h2 n;subst h2;simp only[left]
  by_cases c:n=i
  .subst c
   simp only[b,beq_self_eq_true,Bool.or_true,if_true,Bool.false_eq_true,if_false];exact⟨om,λ_=>om⟩
  .have:(S n||n==i)=S n:=by simp [c]
   simp only[this];exact⟨om,λh=>by have:=d.2 om;omega⟩
section
variable {P:Program} {cl yl:kO} {base n:Nat} {T:List Rec} {vars0:List V} {hS:H} {nt:Nat} {pv:List Nat} {m0:M} {h0:H} {w0:World} {ds:List Deferred}
 {ops:Array Oper}
theorem Qg {S:Nat->Bool}:(T:List Rec)->(∀q∈T,S q.x.i=true)\/ ∃T1 q T2,T=T1++q::T2/\S q.x.i=false/\ ∀y∈T1,S y.x.i=true
 | []=> .inl λ_ h=>by cases h
 |q::T=>by
  cases hs:S q.x.i with
  |false=>exact .inr ⟨[],q,T,rfl,hs,λ_ h=>by cases h⟩
  |true=>
   rcases Qg (S:=S) T with h|⟨T1,y,T2,d,c,f⟩
   .refine .inl λy a=>?_
    rcases Hu.1 a with rfl|a
    .exact hs
    .exact h y a
   .refine .inr ⟨q::T1,y,T2,by simp [d],c,λz b=>?_⟩
    rcases Hu.1 b with rfl|b
    .exact hs
    .exact f z b
theorem aiV (a3:Ep P cl)(a6:yM P yl){c:List V}{h':H}(hC:Og cl yl base T vars0 [] hS c h')(N:Uz P nt pv ops (T.map (·.x)))
  (hb:base=h0.next) (W:hS.get=h0.get) (a2:Na m0 h0.next) (a4:HR P m0 h0 w0) {rr:Option Nat} {Q:Exit->Act->World->Prop}
  (hQ: ∀a w m,St m nt pv [] c [] a->a.defers=ds->iR P m0 h0 w0 m h' w->Q .normal a w):
  ∀(fuel:Nat) (listed:Array Bool) (m:M) (a:Act) (w:World),listed.size=ops.size->Down (Ch ops) (λj=>listed.getD j false)->left (λj=>listed.getD j false) ops.size<=fuel->
   Inv P base ops.size T vars0 hS nt pv m0 h0 w0 ds (λj=>listed.getD j false) m a w->wpAnyIn (Wf rr) 0 P .any ops Q fuel listed a w:=by
 have a1: ∀q∈T,q.x.al=q.x.it.a.lV/\q.x.it.Bf=false:=λq F=>N.ok.al q.x (oG.2 ⟨q,F,rfl⟩)
 have done:(listed:Array Bool)->(m:M)->(a:Act)->(w:World)->(∀q∈T,listed.getD q.x.i false=true)->Inv P base ops.size T vars0 hS nt pv m0 h0 w0 ds (λj=>listed.getD j false) m a w->Q .normal a w:=by
  intro listed m a w b G;have hc:=uI T [] vars0 [] hS c h' (λq F=>(a1 q F).1) (by simpa using hC);obtain⟨e1,e2⟩:=hc;have v1:wM (λj=>listed.getD j false) T vars0=c:=by rw[<-e1];exact Eo T vars0 (λq F=>b q F)
  have v2:lC base (λj=>listed.getD j false) T hS=h':=by rw[<-e2];exact xW T hS (λq F _=>b q F)
  exact hQ a w m (by rw[<-v1];exact G.st) G.df (by rw[<-v2];exact G.Zv)
 have f:(listed:Array Bool)->listed.size=ops.size->Region.ready .any ops listed= []-> ∀q∈T,listed.getD q.x.i false=true:=by
  intro listed B U;rcases Qg (S:=λj=>listed.getD j false) T with h|⟨T1,q,T2,t,A,h3⟩
  .exact h
  .exfalso
   obtain⟨o,v,_⟩:=N.it q.x (oG.2 ⟨q,by rw[t];simp,rfl⟩);have s:=(Vm.1 v).1
   have:q.x.i∈Region.ready .any ops listed:=by
    refine mem_ready.2 ⟨?_,o,v,λe he O=>?_⟩
    .simp only[PB] at A |-
     rw[Array.getElem?_eq_getElem om] at A |-;exact A
    .have R:e.on∈Ch ops q.x.i:=by
      simp only[Ch,v,xR,oG,Gh];exact⟨e,⟨by simpa using he,O⟩,rfl⟩
     obtain⟨y,hy,a5⟩:=N.ok.ord (T1.map (·.x)) q.x (T2.map (·.x)) (by rw[t];simp) e.on R;obtain⟨z,hz,rfl⟩:=oG.1 hy;rw[<-a5];exact h3 z hz
   rw[U] at this;cases this
 intro fuel
 induction fuel with
 |zero=>
  intro listed m a w B L a9 G;have b: ∀i,i<ops.size->listed.getD i false=true:=Qq ops.size om;refine⟨?_,done listed m a w (λq F=>b _ (N.ok.lt q.x (oG.2 ⟨q,F,rfl⟩))) G⟩
  cases U:Region.ready .any ops listed with
  |nil=>rfl
  |cons i l=>
   obtain⟨t,o,v,_⟩:=mem_ready.1 (show i∈Region.ready .any ops listed by rw[U];simp);have s:=(Vm.1 v).1;have A:=b i s;simp only[PB] at t A;rw[Array.getElem?_eq_getElem om] at t A;simp only[Option.getD_some] at t A;rw[t] at A;cases A
 |succ fuel ih=>
  intro listed m a w B L a9 G;refine⟨λU=>done listed m a w (f listed B U) G,λi hi=>?_⟩;obtain⟨t,o,v,b⟩:=mem_ready.1 hi;have s:=(Vm.1 v).1
  have Z:listed.getD i false=false:=by
   simp only[PB] at t |-;rw[Array.getElem?_eq_getElem om] at t |-;exact t
  have u:(λj=>(listed.setIfInBounds i true).getD j false)=λj=>listed.getD j false||j==i:=by
   funext j
   by_cases k:j=i
   .subst k
    simp only[PB];rw[Array.getElem?_setIfInBounds_self_of_lt om];simp
   .simp only[PB]
    rw[Array.getElem?_setIfInBounds_ne (Ne.symm k)];simp [k]
  obtain⟨x,hx,a8⟩:=N.ok.cover i s;obtain⟨r,U,rfl⟩:=oG.1 hx;obtain⟨T1,T2,hT⟩:=List.append_of_mem U;obtain⟨o',a0,a7⟩:=N.it r.x hx;subst a8;rw[v] at a0;cases a0;obtain⟨c1,c2,c3⟩:=He a7
  have J: ∀d∈Ch ops r.x.i,listed.getD d false=true:=by
   intro d R;simp only[Ch,v,xR,oG,Gh] at R;obtain⟨e,⟨he,O⟩,rfl⟩:=R;exact b e (by simpa using he) O
  refine agL a3 a6 hC N.ok hb W a2 a4 hT L J Z v c1 c2 c3 G (λa' w' m' Y=>?_);rw[<-u] at Y;refine ih (listed.setIfInBounds r.x.i true) m' a' w' (by simpa using B) ?_ ?_ Y
  .intro j k d R
   have K: ∀j,(listed.setIfInBounds r.x.i true).getD j false=(listed.getD j false||j==r.x.i):=congrFun u;simp only at k |-;rw[K] at k |-;simp only[Bool.or_eq_true,beq_iff_eq] at k |-;rcases k with k|k
   .exact .inl (L j k d R)
   .subst k;exact .inl (J d R)
  .rw[u]
   have:=(Pw (S:=λj=>listed.getD j false) (i:=r.x.i) Z rfl ops.size).2 s;omega
theorem Jw {s k:Nat}:(pv loc:List Nat)->idx s (pv++loc)=some k->idx s pv=some k\/(idx s pv=none/\pv.length<=k)
 | [],loc,h=> .inr ⟨rfl,fY _⟩
 |a::pv,loc,h=>by
  simp only[List.cons_append,idx] at h |-
  by_cases c:a=s
  .simp only[c,if_true] at h |-;exact .inl h
  .simp only[c,if_false,kU] at h |-
   obtain⟨f,d,rfl⟩:=h;rcases Jw pv loc d with b|⟨b,i⟩
   .exact .inl ⟨f,b,rfl⟩
   .exact .inr ⟨by simp [b],siO⟩
theorem vY {s k:Nat}:(pv loc:List Nat)->idx s pv=some k->idx s (pv++loc)=some k
 | [],loc,h=>by simp [idx] at h
 |a::pv,loc,h=>by
  simp only[List.cons_append,idx] at h |-
  by_cases b:a=s
  .simp only[b,if_true] at h |-;exact h
  .simp only[b,if_false,kU] at h |-
   obtain⟨d,c,rfl⟩:=h;exact⟨d,vY pv loc c,rfl⟩
theorem ahK (hm:P.follows .mixedOrders=true)(G:Ep P cl)(F:yM P yl){xs:List AI}{c:List Nat}(x: ∀t∈c,t<nt)(hP:Uz P nt (pv++c) ops xs)
  {d f:List V} {h h':H} (he:uH cl yl h.next xs (d++List.replicate c.length .unk) [] {h with next:=h.next+ops.size}=some (f,h'))
  {m:M} {w:World} {a:Act} (l:jK m nt pv d a.tmps) (hr:HR P m h w) (N:Na m h.next) {rr:Option Nat} {id:Nat} {Q:Exit->Act->World->Prop}
  (hQ: ∀a' w' m',jK m' nt pv (f.take d.length) a'.tmps->a'.defers=a.defers->iR P m h w m' h' w'->Q .normal a' w'):(Code.region id ops true).wpIn (Wf rr) 0 P Q a w:=by
 obtain⟨T,U,R⟩:=Ki xs _ _ _ _ _ he
 have z:=iR.drawn hr N.fresh (w.drawn+1)
 refine wpIn_region_any hm ?_
 have K:jK m nt (pv++c) (d++List.replicate c.length .unk) a.tmps:=by
  refine⟨l.size,by simp [l.len],λs y=>?_,λs k v=>?_⟩
  .rcases Es.1 y with i|i
   .exact l.lt s i
   .exact x s i
  .have B:=Jf v
   rcases Jw pv c v with i|⟨_,i⟩
   .have:=Jf i
    have A:=l.val s k i;simp only[List.getD] at A |-;rw[Aw (by rw[l.len];exact this)];exact A
   .simp only[List.getD]
    rw[Hs (by rw[l.len];exact i),List.getElem?_replicate,aS (by rw[l.len];simp at B;omega)];simp [VR]
 have o:(j:Nat)->(Array.replicate ops.size false).getD j false=false:=by
  intro j;simp only[PB,Array.getElem?_replicate];split<;>rfl
 have L:(λj=>(Array.replicate ops.size false).getD j false)=λ_=>false:=funext o
 refine aiV (T:=T) (base:=h.next) (ds:=a.defers) (nt:=nt) (pv:=pv++c) G F R (by rw[U];exact hP) rfl rfl N z.rel (λa' w' m' O s2 s3=>?_) ops.size (Array.replicate ops.size false) m a _ siM ?_ ?_ ?_
 .refine hQ a' w' m' ⟨O.vars.size,?_,λs y=>l.lt s y,λs k v=>?_⟩ s2 (z.trans s3)
  .have:=O.vars.len
   rw[jG,this,l.len];simp
  .have i:=O.vars.val s k (vY pv c v)
   have A:=Jf v
   simp only[List.getD] at i |-
   rw[List.getElem?_take,aS (by rw[l.len];exact A)]
   exact i
 .intro j Y;simp only[o] at Y;cases Y
 .exact IL _ _
 .rw[L]
  have u:lC h.next (λ_=>false) T {h with next:=h.next+ops.size}={h with next:=h.next+ops.size}:=by
   clear R U
   induction T with
   |nil=>rfl
   |cons q t ih=>simpa [lC,iS] using ih
  refine⟨?_,rfl,?_,?_,λr Z _ _=>?_,λT1 q T2 _ y=>by cases y⟩
  .rw[DE];exact⟨K,Lo.nil ..⟩
  .rw[u]
   have W:=iR.Ou z.rel
   exact⟨W.ext,z.rel.sub (λ_ _ h=>h),λ_ _ h=> .inl h,W.kept,λb J=> .inl J,Nat.le_add_right _ _,λb J=> .inl J,λ_ _ h=>h⟩
  .rw[u];exact dN _
  .exact N _ (Nat.le_add_right _ _)
end
end Go.Ay
namespace Go.Ay
open Go
section
variable {w:World} {lo nt:Nat} {m:M} {h:H} {pv:List Nat}
section
variable {P:Program} {p:Nat->Option Fn}
def Cs (w:World)(lo:Nat):Nat->List Deferred->Prop
 |_, []=>True
 |hi,d::ds=> ∃r,d.target= .collected r/\lo<=r/\r<hi/\w.heap[r]? =some (.deferred (some []))/\Cs w lo r ds
theorem Cs.hi {w:World}{lo:Nat}:(ds:List Deferred)->(hi hi':Nat)->hi<=hi'->Cs w lo hi ds->Cs w lo hi' ds
 | [],_,_,_,_=>trivial
 |_::_,_,_,hle,⟨r,h1,h2,h3,h4⟩=>⟨r,h1,h2,om,h4⟩
theorem Cs.append {a:Nat}(b:lo<=a):(ds ds':List Deferred)->(hi:Nat)->a<=hi->Cs w a hi ds->Cs w lo a ds'->Cs w lo hi (ds++ds')
 | [],ds',hi,hle,_,h'=>Cs.hi ds' a hi hle h'
 |_::ds,ds',_,_,⟨r,h1,h2,h3,h4,h5⟩,h'=>⟨r,h1,om,h3,h4,Cs.append b ds ds' r h2 h5 h'⟩
theorem HR.not_def (i:HR P m h w){r:Nat}{x:Option (List Deferred)}(b:w.heap[r]? =some (.deferred x)): ¬LB m h r:=by
 rintro⟨id,o,q,h1,h2,rfl⟩;obtain⟨j,f,d⟩:=i.live id o h1;rw[h2] at f;cases f
 cases o with
 |cells ro vs=>have⟨c,el,fr,a,_⟩:=d;rw[b] at a;cases a
 |map es=>have⟨c,el,a,_⟩:=d;rw[b] at a;cases a
 |wmap sh es=>have⟨_,c,el,a,_⟩:=d;rw[b] at a;cases a
 |loop l=>have⟨c,a,_⟩:=d;rw[b] at a;cases a
theorem FP.lb {b:Nat}(a:FP m h b):LB m h b:=by
 have⟨i,o,q,e1,_,c,d⟩:=a;exact⟨i,o,q,e1,c,d⟩
theorem Cs.Zv {d:M}{h':H}{w':World}(b:HR P m h w)(a:iR P m h w d h' w'):(ds:List Deferred)->(hi:Nat)->Cs w lo hi ds->Cs w' lo hi ds
 | [],_,_=>trivial
 |_::ds,_,⟨r,h1,h2,h3,h4,h5⟩=>⟨r,h1,h2,h3,(a.kept.block r (Vm.1 h4).1 (λc=>b.not_def h4 c.lb)).trans h4,Cs.Zv b a ds r h5⟩
theorem iR.dead {j:M}{l:H}{f:World}(a:iR P j l f m h w){r:Nat}{o:Obj}(u: ¬LB m h r)(s:f.heap.size<=r):iR P j l f m h (w.putObj r o):=by
 have d: ∀b,b≠r->(w.putObj r o).heap[b]? =w.heap[b]? :=λb d=>World.putObj_heap_other d
 refine⟨a.ext,⟨λid k c=>?_,a.rel.inj⟩,a.fresh,⟨a.kept.os,a.kept.tape,a.kept.output,by simpa using a.kept.size,λb v t=>?_⟩,a.fp,a.next,a.lb,a.old⟩
 .obtain⟨q,i,n⟩:=a.rel.live id k c
  exact⟨q,i,OR.mono (Ext.refl m) (d q.1 (λe=>u ⟨id,k,q,c,i,e⟩)) n⟩
 .rw[d b om];exact a.kept.block b v t
theorem iR.laid (d:HR P m h w)(o:Obj):iR P m h w m h (w.alloc o):=by
 refine⟨Ext.refl m,⟨λid i a=>?_,d.inj⟩,λ_ _ h=> .inl h,⟨rfl,rfl,rfl,siM,λb j _=>heap_alloc_old w o _ j⟩,λ_ h=> .inl h,dN _,λ_ h=> .inl h,λ_ _ h=>h⟩;obtain⟨q,f,c⟩:=d.live id i a;exact⟨q,f,OR.mono (Ext.refl m) (heap_alloc_old w o _ c.lt) c⟩
def Kx (F:Fence)(n:Nat)(P:Program)(c:Code)(Q:Exit->Act->World->Prop)(a:Act)(w:World):Prop:=
 ∀(b:Frame) (k:List Item) (cs:List Frame),b.roundOf=F.round->F.fn b.fn->F.room (cs.length+1+n)->
  ∃e a' w',Q e a' w'/\ArrivesIn (Machine.fenced P F) P (lone (b.atR a (.code c:: .inLoop c::k)) cs w) b k cs e a' w'
theorem Kx.wp {F:Fence}{n:Nat}{c:Code}{Q:Exit->Act->World->Prop}{a:Act}(h:Kx F n P c Q a w):(Code.loop c).wpIn F n P Q a w:=by
 intro b k r f j i;obtain⟨e,q,o,l,d⟩:=h b k r f j i;exact⟨e,q,o,l,.of_steps (.one (fenced_calm j i rfl) stepR_loop) d⟩
theorem Kx.step {F:Fence}{n:Nat}{c:Code}{Q:Exit->Act->World->Prop}{a:Act}(h:c.wpIn F n P (Exit.then (Kx F n P c Q) Q) a w):Kx F n P c Q a w:=by
 intro b k z t y v;obtain⟨e,i,f,q,d⟩:=h b (.inLoop c::k) z t y v
 cases e with
 |normal=>
  obtain⟨r,s,u,o,j⟩:=q b k z t y v;exact⟨r,s,u,o,.of_steps (StepsIn.trans d (.one (fenced_calm y v rfl) stepR_inLoop)) j⟩
 |exit id=>exact⟨_,i,f,q,.pass (x:= .inLoop c) rfl (λ_ _=> .inl siM) d⟩
 |goto l=>exact⟨_,i,f,q,.pass (x:= .inLoop c) rfl (λ_ _=> .inl siM) d⟩
 |ret=>exact⟨_,i,f,q,.pass (x:= .inLoop c) rfl (λ_ _=> .inl siM) d⟩
 |panic ch=>exact⟨_,i,f,q,.pass (x:= .inLoop c) rfl (λ_ _=> .inl siM) d⟩
 |outgrown=>exact⟨_,i,f,q,.pass (x:= .inLoop c) rfl (λ_ _=> .inl siM) d⟩
def Tt (tmps:Array Value):ResultVar->Sem Value
 | .tmp t=>pure (tmps.getD t undef)
 | .cell a t=>do loadVar t (←asAddr (tmps.getD a undef))
theorem EG (a:Func)(tmps:Array Value):results a tmps=(do
  let vs ←a.results.mapM (Tt tmps)
  pure (if h:vs.size=1 then vs[0] else .tuple vs)):=rfl
theorem MA {a:List V}{tmps:Array Value}(v:HR P m h w)(o:jK m nt pv a tmps){j:ResultVar}{r:Rv}{u:V}(b:Yt P pv j=some r)(c:Fv a h r=some u):
  ∃y,(Tt tmps j).run P w= .ok y w/\VR m u y:=by
 cases j with
 |tmp t=>
  simp only[Yt,kU] at b;obtain⟨k,i,rfl⟩:=b;simp only[Fv] at c;cases c;exact⟨_,rfl,o.val t k i⟩
 |cell t ty=>
  simp only[Yt] at b;split at b
  .rename_i q x
   simp only[kU] at b;obtain⟨k,i,rfl⟩:=b;simp only[Fv] at c;have f:=o.val t k i;obtain⟨A,s⟩:=DM (agg:=q.1) (n:=q.2) x;obtain⟨y,l,z⟩:=Wa v A s f c
   cases hval:a.getD k V.undef with
   |ptr id off=>
    rw[hval] at f;have⟨B,_,d⟩:=f;refine⟨y,?_,z⟩;simp only[Tt];rw[d] at l |-;simpa [Instr.loadAt,Instr.sureAddr,asAddr] using l
   |_=>rw[hval] at c;simp [ldV] at c
  .cases b
theorem Ju {m:M}{w:World}{f:ResultVar->Sem Value}{g:Rv->Option V}{k:ResultVar->Option Rv}(i: ∀rv r u,k rv=some r->g r=some u-> ∃y,(f rv).run P w= .ok y w/\VR m u y):
  ∀(l:List ResultVar) (rs:List Rv) (us:List V),dB (l.map k)=some rs->dB (rs.map g)=some us-> ∃ys,(l.mapM f).run P w= .ok ys w/\iL m us ys
 | [],rs,us,b,a=>by
  simp only[List.map_nil,dB] at b;cases b;simp only[List.map_nil,dB] at a;cases a;exact⟨[],rfl,trivial⟩
 |rv::l,rs,us,b,a=>by
  simp only[List.map_cons] at b
  cases hk:k rv with
  |none=>simp [hk,dB] at b
  |some r=>
   simp only[hk,dB,kU] at b;obtain⟨c,b,rfl⟩:=b;simp only[List.map_cons] at a
   cases hg:g r with
   |none=>simp [hg,dB] at a
   |some u=>
    simp only[hg,dB,kU] at a;obtain⟨d,a,rfl⟩:=a;obtain⟨y,e1,e2⟩:=i rv r u hk hg;obtain⟨ys,j,n⟩:=Ju i l c d b a;exact⟨y::ys,by simp [List.mapM_cons,e1,j],e2,n⟩
theorem Ns {a:List V}{tmps:Array Value}(n:HR P m h w)(k:jK m nt pv a tmps){d:Func}{f:List Rv}{us:List V}
  (t:dB (d.results.toList.map (Yt P pv))=some f) (l:dB (f.map (Fv a h))=some us): ∃y,(results d tmps).run P w= .ok y w/\VR m (Wz us) y:=by
 obtain⟨b,o,c⟩:=Ju (P:=P) (m:=m) (w:=w) (λv r u i s=>MA n k i s) d.results.toList f us t l
 have j:=iL.length c
 refine⟨if h:b.toArray.size=1 then b.toArray[0] else .tuple b.toArray,?_,?_⟩
 .rw[EG]
  have q:(d.results.mapM (Tt tmps)).run P w= .ok b.toArray w:=by
   rw[Array.mapM_eq_mapM_toList];simp [o]
  simp only[Sem.run_bind,q,Result.andThen,Sem.run_pure]
 .match us,b,c,j with
  | [], [],_,_=>exact⟨#[],rfl,trivial⟩
  | [u], [y],c,_=>exact c.1
  |u::u2::us,y::y2::b,c,_=>exact⟨_,rfl,c⟩
theorem Ks {l:Nat}{q:Loop}(h:w.heap[l]? =some (.loop q))(fn:FuncId)(tmps:Array Value)(a:Array Tmp)(assign body:Code):
  (Instr.enterLoop fn tmps a assign body (some l)).run P w=
   .ok (w.heap.size, []) (w.alloc (.loop {state:= .ready,pending:=none,fn,tmps,params:=a,assign,body,defers:=q.defers})):=by
 unfold Instr.enterLoop
 simp only[Sem.run_bind,run_getLoop h,run_newObj_alloc,Result.andThen,Sem.run_pure]
theorem Xs {m:M}{nt:Nat}{pv:List Nat}:(ps:List Tmp)->(ks:List Nat)->(args:List V)->(xs:List Value)->(vars:List V)->(tmps:Array Value)->dB (ps.map λt=>idx t pv)=some ks->iL m args xs->jK m nt pv vars tmps->
  jK m nt pv ((ks.zip args).foldl (λvs q=>vs.set q.1 q.2) vars) ((ps.zip xs).foldl (λtmps (t,a)=>tmps.setIfInBounds t a) tmps)
 | [],ks,args,xs,vars,tmps,h,_,hv=>by simp only[List.map_nil,dB] at h;cases h;simpa using hv
 |t::ps,ks,args,xs,vars,tmps,h,ha,hv=>by
  simp only[List.map_cons] at h
  cases hi:idx t pv with
  |none=>simp [hi,dB] at h
  |some k=>
   simp only[hi,dB,kU] at h;obtain⟨b,h,rfl⟩:=h
   match args,xs,ha with
   | [], [],_=>simpa using hv
   |u::args,x::xs,ha=>
    simp only[List.zip_cons_cons,List.foldl_cons]
    exact Xs ps b args xs _ _ h ha.2 (hv.set hi ha.1)
end
end
end Go.Ay
namespace Go.Ay
open Go
def BY:E->Exit
 | .norm=> .normal
 | .ret=> .ret
 | .exit n=> .exit n
def RdR (m:M)(rd rr:Option Nat):Prop:=
 match rd,rr with
 |none,none=>True
 |some id,some l=> ∃q,m id=some q/\q.1=l
 |_,_=>False
theorem RdR.mono {m a:M}(e:Ext m a){rd rr:Option Nat}(h:RdR m rd rr):RdR a rd rr:=by
 cases rd<;>cases rr<;>try exact h
 have⟨q,b,c⟩:=h;exact⟨q,e _ _ b,c⟩
def KN (P:Program)(m:M)(h:H)(w:World)(nt:Nat)(pv:List Nat)(a:Act)(e:E)(vars':List V)(h':H)(Q:Exit->Act->World->Prop):Prop:=
 ∀a' w' m' ds,iR P m h w m' h' w'->jK m' nt pv vars' a'.tmps->a'.defers=ds++a.defers->Cs w' w.heap.size w'.heap.size ds->Q (BY e) a' w'
def agT (P:Program)(cl yl:kO)(N:Nat):Prop:= ∀nt pv code c,kG P nt pv code=some c-> ∀rd vars h e vars' h',run cl yl N rd c vars h=some (e,vars',h')->
 ∀m w a rr,jK m nt pv vars a.tmps->RdR m rd rr->HR P m h w->Na m h.next-> ∀Q,KN P m h w nt pv a e vars' h' Q->code.wpIn (Wf rr) 0 P Q a w
section
variable {P:Program} {p:Nat->Option Fn} {cl yl:kO} {N:Nat}
theorem HM {s k:Nat}:{l:List Nat}->idx s l=some k->l[k]? =some s
 | [],h=>by simp [idx] at h
 |a::l,h=>by
  simp only[idx] at h
  by_cases b:a=s
  .simp [b] at h;subst h;simp [b]
  .simp [b] at h
   obtain⟨d,c,rfl⟩:=h;simpa using HM c
theorem iL.getD {m:M}{vs:List V}{xs:List Value}(h:iL m vs xs){i:Nat}(hi:i<vs.length):VR m (vs.getD i .undef) (xs.getD i undef):=by
 obtain⟨x,a,b⟩:=h.get (dJ hi);simp only[List.getD,a,dJ hi,Option.getD_some];exact b
theorem leaves {f:Func}{tmps:Array Value}{c:M}{i h:H}{a:World}{R:Ending->World->Prop}:(ds:List Deferred)->(hi:Nat)->(m:M)->(w:World)->Cs w a.heap.size hi ds->iR P c i a m h w->
  (∀w',iR P c i a m h w'-> ∃v,(results f tmps).run P w'= .ok v w'/\R (.returned v) w')->LeavesInM (Wf none) 0 P f tmps R ds .returning w
 | [],hi,m,w,_,ha,hR=>hR w ha
 |d::ds,hi,m,w,⟨r,h1,h2,h3,h4,h5⟩,ha,hR=>by
  refine⟨siM,.inl ⟨r,_,h1,run_takeDeferred h4,leaves ds r m _ ?_ (ha.dead (o:= .deferred none) (ha.rel.not_def h4) h2) hR⟩⟩
  have iU:(ds:List Deferred)->(hi:Nat)->hi<=r->Cs w a.heap.size hi ds->Cs (w.putObj r (.deferred none)) a.heap.size hi ds:=by
   intro ds
   induction ds with
   |nil=>exact λ_ _ _=>trivial
   |cons d ds ih=>exact λhi j ⟨b,k1,k2,k3,k4,k5⟩=>⟨b,k1,k2,k3,by rw[World.putObj_heap_other om];exact k4,ih b om k5⟩
  exact iU ds r (dN _) h5
theorem Xp (hp:POk P p)(hS:agT P cl yl N):Ep P (Pc p cl yl N):=by
 intro g b h v h' a;simp only[Pc] at a
 cases hg:p g with
 |none=>simp [hg] at a
 |some fn=>
  simp only[hg] at a;rcases hp g fn hg with ⟨j,ha⟩|⟨pv,F,hF,d,l⟩
  .rw[j,aS rfl] at a;exact ha _ _ _ _ a
  unfold CE at d;split at d
  .cases d
  .rename_i c hb
   split at d
   .rename_i body results f L
    split at d
    .rename_i z
     cases d;simp only[oD,decide_eq_true_eq] at z;rw[aQ siM] at a;split at a
     .rename_i o
      simp only at o;refine⟨l,λm w xs Y hr hl=>?_⟩
      have J:jK m F.ntmps pv (qC {nargs:=F.params.size+F.nfree,init:=pv.map λt=>if t<F.params.size+F.nfree then some t else none,results,body} b) (xs++Array.replicate (F.ntmps-xs.size) undef):=by
       have A:=iL.length Y;simp only[Array.length_toList] at A;refine⟨siO,by simp [qC],λs j=>by simpa using uR.1 z.1 s j,λs k hk=>?_⟩;have U:=HM hk;simp only[qC,List.map_map,List.getD,Al,U,Option.map_some,Option.getD_some,Function.comp]
       by_cases j:s<F.params.size+F.nfree
       .simp only[j,if_true]
        have:=iL.getD Y (i:=s) om;simp only[PB];rw[Array.getElem?_append_left om];simpa [List.getD] using this
       .simp only[j,if_false]
        simp only[PB];rw[Array.getElem?_append_right om,Array.getElem?_replicate];split<;>exact VR.undef m
      cases hrun:run cl yl N none body (qC {nargs:=F.params.size+F.nfree,init:=pv.map λt=>if t<F.params.size+F.nfree then some t else none,results,body} b) h with
      |none=>simp [hrun] at a
      |some q=>
       have⟨e,R,U⟩:=q;simp only[hrun] at a
       cases e with
       |exit n=>cases a
       |_=>
        simp only[kU] at a;have⟨vs,u,a⟩:=a;cases a;refine callsIn_of_wp_marks hF hb trivial (hS _ _ _ _ f _ _ _ _ _ _ hrun m w _ none J trivial hr hl _ λG Q Z W r hv B K=>?_);have O:G.defers=W:=by simpa using B
        show LeavesInM (Wf none) 0 P F G.tmps _ G.defers .returning Q;rw[O];exact leaves W _ Z Q K r λw2 x=>let ⟨y,k1,k2⟩:=Ns x.rel hv L u;⟨y,k1,y,Z,rfl,k2,x⟩
     .cases a
    .cases d
   .cases d
end
end Go.Ay
namespace Go.Ay
open Go
section
variable {m:M} {h:H} {w:World}
section
variable {P:Program} {p:Nat->Option Fn} {cl yl:kO} {N:Nat}
theorem xV (j:HR P m h w)(i:Na m h.next){id:Nat}{r r':dP}{q:Nat×Nat×Nat}{L L':Loop}(d:h.get id=some (.loop r))(f:m id=some q)(l:w.heap[q.1]? =some (.loop L))(a:AV P m r' L'):
  iR P m h w m (h.set id (some (.loop r'))) (w.putObj q.1 (.loop L')):=by
 have c:=(Vm.1 l).1
 exact iR.put j i.fresh d rfl rfl f ⟨L',World.putObj_heap_same c,a⟩ rfl rfl rfl siM (λb k=>World.putObj_heap_other k)
theorem Ds (f:HR P m h w){id:Nat}{r:dP}{q:Nat×Nat×Nat}(b:h.get id=some (.loop r))(c:m id=some q): ∃L,w.heap[q.1]? =some (.loop L)/\AV P m r L:=by
 obtain⟨i,a,d⟩:=f.live id _ b;rw[c] at a;cases a;exact d
theorem Uc (hS:agT P cl yl N):yM P (La cl yl N):=by
 intro id a8 h v h' f m w xs q hx hr F hq;simp only[La] at f;split at f
 .rename_i r a0
  split at f
  .rename_i a7
   obtain⟨L,hL,K⟩:=Ds hr a0 hq;have⟨⟨nt,pv,hv,Z,a4,Q⟩,iS,W,b1⟩:=K
   have B:xs.size=L.params.size:=by
    have h1:=(iY Q).1;have h2:=iL.length hx;simp at h1 h2;omega
   refine⟨_,_,_,_,run_yield hL B,roundIn_of_wpIn trivial ?_⟩;have A:=Xs _ _ _ _ _ _ Q hx hv
   have a2:(L.params.zip xs).foldl (λi (x:Tmp×Value)=>i.setIfInBounds x.1 x.2) L.tmps=(L.params.toList.zip xs.toList).foldl (λi (x:Tmp×Value)=>i.setIfInBounds x.1 x.2) L.tmps:=by
    rw[<-Array.foldl_toList,Array.toList_zip]
   split at f
   .rename_i U h2 G
    refine hS nt pv _ _ Z _ _ _ _ _ _ G m w ⟨_, []⟩ (some q.1) ?_ ⟨q,hq,rfl⟩ hr F _ ?_
    .show jK m nt pv _ ((L.params.zip xs).foldl (λi (x:Tmp×Value)=>i.setIfInBounds x.1 x.2) L.tmps)
     rw[a2];exact A
    .intro a1 w1 m1 a9 a a5 _ _
     have t:=a.ext _ _ hq;split at f
     .rename_i r2 u
      split at f
      .rename_i J
       obtain⟨L2,R,d⟩:=Ds a.rel u t
       have y:AV P m1 {r2 with st:= .busy} {L2 with state:= .busy}:=⟨d.vars,rfl,d.pend,d.nn⟩
       have k:=xV a.rel (a.low F) u t R y;have O:L2.state= .ready:=by rw[d.st,J];rfl
       refine⟨_,run_beginRound R O,?_⟩;split at f
       .rename_i e a6 h3 z
        refine hS nt pv _ _ a4 _ _ _ _ _ _ z m1 _ a1 (some q.1) a5 ⟨q,t,rfl⟩ k.rel (k.low (a.low F)) _ ?_;intro a3 w3 Y b0 b _ _ _;have s:=b.ext _ _ t;have c:=(a.trans k).trans b;split at f
        .rename_i r3 l
         obtain⟨L3,o,j⟩:=Ds b.rel l s
         cases e with
         |norm=>
          cases f;exact⟨_,_,run_endRound none o,_,Y,rfl,rfl,c.trans (xV b.rel (c.low F) l s o ⟨j.vars,rfl,rfl,siM⟩)⟩
         |ret=>
          cases f;exact⟨_,_,run_endRound (some .ret) o,_,Y,rfl,rfl,c.trans (xV b.rel (c.low F) l s o ⟨j.vars,rfl,rfl,siM⟩)⟩
         |exit n=>
          cases f;exact⟨_,_,run_endRound (some (.exit n)) o,_,Y,rfl,rfl,c.trans (xV b.rel (c.low F) l s o ⟨j.vars,rfl,rfl,siM⟩)⟩
        .cases f
       .cases f
      .cases f
     .cases f
   .cases f
  .cases f
 .cases f
theorem UB (hC:Ep P cl){rd rr:Option Nat}{h':H}{nt:Nat}{pv:List Nat}{vars:List V}{a:Act}{g:Nat}{fs cs:List V}{v:V}{pars:List Nat}{aQ_ bd:C}{x:X}{fo:Operand}{W:Array Tmp}{z A:Code}
  (hv:jK m nt pv vars a.tmps) (a1:RdR m rd rr) (hr:HR P m h w) (hl:Na m h.next) (hx:fS pv [] fo=some x) (b6:xv vars [] x= .fn g fs cs) (c2:dB (W.toList.map λt=>idx t pv)=some pars)
  (b4:kG P nt pv z=some aQ_) (b8:kG P nt pv A=some bd) (a3:MT rd h=true)
  (he:cl g (fs++ .yl h.next::cs) (h.new (.loop {vars,pars,assign:=aQ_,body:=bd,st:= .ready,pend:=none}))=some (v,h')) {r:dP} (a7:h'.get h.next=some (.loop r)) (Y:r.st≠ .busy)
  {Q:Exit->Act->World->Prop} (hQ:KN P m h w nt pv a (r.pend.getD .norm) vars (h'.set h.next (some (.loop {r with st:= .out}))) Q):(Code.rangeFunc fo W z A).wpIn (Wf rr) 0 P Q a w:=by
 refine wpIn_rangeFunc (λfn _=>?_)
 have a6:=aN (s:=(⟨hv,Lo.nil ..⟩:St m nt pv [] vars [] a)) hx
 rw[b6] at a6
 have⟨xs,ys,b9,h1,h2⟩:=a6
 have c1: ∃(l:Nat) (j:List Deferred) (f u:World) (dd:Nat),(Instr.enterLoop fn a.tmps W z A rr).run P w= .ok (l,j) f/\iR P m h w m h u/\l=u.heap.size/\
   f=u.alloc (.loop {state:= .ready,pending:=none,fn,tmps:=a.tmps,params:=W,assign:=z,body:=A,defers:=dd})/\
   (j= []\/ ∃d:Deferred,j= [d]/\d.target= .collected w.heap.size/\u.heap.size=w.heap.size+1/\u.heap[w.heap.size]? =some (.deferred (some []))):=by
  cases rd with
  |none=>
   cases rr with
   |none=>
    exact⟨_,_,_,w.alloc (.deferred (some [])),w.heap.size,run_enterLoop_outer fn a.tmps W z A,iR.laid hr _,siM,rfl,.inr ⟨_,rfl,rfl,siM,heap_alloc_new w _⟩⟩
   |some l=>exact a1.elim
  |some id=>
   cases rr with
   |none=>exact a1.elim
   |some l=>
    obtain⟨q,hq,rfl⟩:=a1;simp only[MT] at a3;split at a3
    .rename_i r0 a8
     obtain⟨L0,b7,_⟩:=Ds hr a8 hq;exact⟨_,_,_,w,L0.defers,Ks b7 fn a.tmps W z A,iR.Ou hr,rfl,rfl,.inl rfl⟩
    .cases a3
 have⟨l,j,f,u,dd,a5,o,b3,b5,a0⟩:=c1
 subst b3
 have F:=o.low hl
 have b:=iR.new o.rel F.fresh (.loop {vars,pars,assign:=aQ_,body:=bd,st:= .ready,pend:=none})
  (.loop {state:= .ready,pending:=none,fn,tmps:=a.tmps,params:=W,assign:=z,body:=A,defers:=dd}) (0,0)
  (λm' e _=>⟨_,heap_alloc_new u _,⟨⟨nt,pv,hv.mono e,b4,b8,c2⟩,rfl,rfl,siM⟩⟩)
 rw[<-b5] at b
 have a4:=b.low F
 have a2:iL (m.set h.next (u.heap.size,0,0)) (fs++ .yl h.next::cs) (xs++ #[Value.func (.yield u.heap.size) #[] #[]]++ys).toList:=by
  have e1:=iL.mono b.ext _ _ h1;have e2:=iL.mono b.ext _ _ h2
  have e3:iL (m.set h.next (u.heap.size,0,0)) (.yl h.next::cs) (.func (.yield u.heap.size) #[] #[]::ys.toList):=⟨⟨_,M.jN ..,rfl⟩,e2⟩
  have:=e1.append e3;simpa using this
 have Z:=(hC _ _ _ _ _ he).2 _ f _ a2 b.rel a4
 refine⟨u.heap.size,j,f,{target:= .fn (.func g) ys,args:=xs++ #[Value.func (.yield u.heap.size) #[] #[]]},f,g,xs++ #[Value.func (.yield u.heap.size) #[] #[]]++ys,f,a5,?_,λ_ _=>trivial,?_,λhh=>by simp [Fence.wide] at hh,?_⟩
 .have c0:a.eval (.const (.func (.yield u.heap.size) #[] #[]))= .func (.yield u.heap.size) #[] #[]:=rfl
  simp [resolve,rangeCall,b9,Deferred.ofValue,c0]
 .simp only[Go.invoke];exact vJ (hC _ _ _ _ _ he).1
 .have K:CallsIn (Wf rr) 0 P g (xs++ #[Value.func (.yield u.heap.size) #[] #[]]++ys) f (zS P _ _ f v h'):=Z
  refine CallsIn.mono K (λe w2 hh=>?_)
  obtain⟨y,m2,rfl,_,i⟩:=hh
  have b0:=i.ext _ _ (M.jN m h.next (u.heap.size,0,0))
  obtain⟨L,hL,k⟩:=Ds i.rel a7 b0
  have iS:L.state≠ .busy:=by
   rw[k.st];cases hs:r.st<;>simp [aoI];exact Y hs
  have R:=(o.trans b).trans i
  have B:=xV i.rel (R.low hl) a7 b0 hL (r':={r with st:= .out}) (L':={L with state:= .exhausted}) ⟨k.vars,rfl,k.pend,k.nn⟩
  refine⟨L.pending,_,run_endLoop hL iS,?_⟩
  have O:=R.trans B
  have hq:=hQ {a with defers:=j++a.defers} _ m2 j O (hv.mono O.ext) rfl ?_
  .have G:=k.pend
   have a9:=k.nn
   cases hpe:r.pend with
   |none=>
    rw[hpe] at hq G;split
    .exact hq
    .rename_i c J;rw[G] at J;cases J
   |some e=>
    rw[hpe] at hq G;split
    .rename_i J
     rw[G] at J
     cases e with
     |norm=>exact absurd hpe a9
     |ret=>cases J
     |exit n=>cases J
    .rename_i c J
     rw[G] at J
     cases e with
     |norm=>exact absurd hpe a9
     |ret=>cases J;exact wpIn_ret hq
     |exit n=>cases J;exact wpIn_exit hq
  .rcases a0 with rfl|⟨d,rfl,hd,c3,U⟩
   .trivial
   .refine⟨w.heap.size,hd,dN _,?_,?_,trivial⟩
    .have k1:=b.kept.size
     have k2:=i.kept.size
     have k3:=B.kept.size
     omega
    .have b1:f.heap[w.heap.size]? =some (.deferred (some [])):=(b.kept.block _ om (λhf=>o.rel.not_def U hf.lb)).trans U
     have b2:w2.heap[w.heap.size]? =some (.deferred (some [])):=(i.kept.block _ (Vm.1 b1).1 (λhf=>b.rel.not_def b1 hf.lb)).trans b1
     exact (B.kept.block _ (Vm.1 b2).1 (λhf=>i.rel.not_def b2 hf.lb)).trans b2
end
end
end Go.Ay
namespace Go.Ay
open Go
section
variable {P:Program} {p:Nat->Option Fn} {cl yl:kO} {N:Nat}
theorem KN.still {m:M}{h:H}{w:World}{nt:Nat}{pv:List Nat}{a:Act}{e:E}{b:List V}{Q:Exit->Act->World->Prop}(f:KN P m h w nt pv a e b h Q)
  (d:HR P m h w) (c:jK m nt pv b a.tmps):Q (BY e) a w:=f a w m [] (iR.Ou d) c siM trivial
theorem adA {nt:Nat}{pv:List Nat}{x:Code}{k:C}{rd rr:Option Nat}
  (K: ∀vars h e vars' h',run cl yl N rd k vars h=some (e,vars',h')-> ∀m w a,jK m nt pv vars a.tmps->RdR m rd rr->HR P m h w->Na m h.next-> ∀Q,KN P m h w nt pv a e vars' h' Q->x.wpIn (Wf rr) 0 P Q a w):
  ∀n vars h e vars' h',Lh (run cl yl N rd k) n vars h=some (e,vars',h')-> ∀m w a,jK m nt pv vars a.tmps->RdR m rd rr->HR P m h w->Na m h.next-> ∀Q,KN P m h w nt pv a e vars' h' Q->
   Kx (Wf rr) 0 P x Q a w:=by
 intro n
 induction n with
 |zero=>intro vars h e vars' h' d;cases d
 |succ n ih=>
  intro vars h e vars' h' d m w a L f G t Q s;rw[Lh] at d;refine Kx.step ?_
  cases hra:run cl yl N rd k vars h with
  |none=>simp [hra] at d
  |some q=>
   have⟨e1,j,U⟩:=q;simp only[hra] at d;refine K _ _ _ _ _ hra m w a L f G t _ λz o v b c u r y=>?_
   cases e1 with
   |norm=>
    exact ih _ _ _ _ _ d v o z u (f.mono c.ext) c.rel (c.low t) _ λO R A i l F J B=>
     s O R A (i++b) (c.trans l) F (by rw[J,r,AA]) (Cs.append c.kept.size i b _ l.kept.size B (Cs.Zv c.rel l b _ y))
   |_=>cases d;exact s z o v b c u r y
theorem VF (hm:P.follows .mixedOrders=true)(O:Ep P cl)(a5:yM P yl):agT P cl yl N:=by
 intro nt pv a3
 induction a3 with
 |skip=>
  intro c f rd vars h e d A b m w a rr k i o t Q j;simp only[kG] at f;cases f;rw[run] at b;cases b;exact wpIn_skip (j.still o k)
 |label l=>
  intro c f rd vars h e d A b m w a rr k i o t Q j;simp only[kG] at f;cases f;rw[run] at b;cases b;exact wpIn_label (j.still o k)
 |region id ops draw=>
  intro c f rd vars h e d A b m w a rr k i o t Q j;simp only[kG] at f;split at f
  .rename_i hd
   subst hd;obtain⟨b9,xs,rfl,a6,hP⟩:=JC f;rw[run] at b;split at b
   .rename_i vs h2 U
    cases b;exact ahK hm O a5 a6 hP U k o t (λa' w' m' e1 e2 e3=>j a' w' m' [] e3 e1 (by simpa using e2) trivial)
   .cases b
  .rename_i hd
   have hd:draw=false:=by simpa using hd
   subst hd;simp only[kU] at f;obtain⟨b7,a0,rfl⟩:=f;rw[run] at b;split at b
   .rename_i a7 h2 U
    cases b;refine wpIn_region ?_;have:=agP (r:=rr) (Q:=Q) O a5 [] _ [] b7 vars [] h d A a0 U m w a ⟨k,Lo.nil ..⟩ o t (λa' w' m' e1 e2 e3=>j a' w' m' [] e3 e1 (by simpa using e2) trivial);simpa using this
   .cases b
 |seq x y ihx ihy=>
  intro c f rd vars h e d A b m w a rr k i o t Q j;simp only[kG,uA,qA] at f;have⟨B,u,cy,G,f⟩:=f;cases f;rw[run] at b;refine wpIn_seq ?_
  cases hra:run cl yl N rd B vars h with
  |none=>simp [hra] at b
  |some q=>
   have⟨e1,K,h1⟩:=q;simp only[hra] at b;refine ihx B u _ _ _ _ _ _ hra m w a rr k i o t _ λa1 Z Y z F b2 W b4=>?_
   cases e1 with
   |norm=>
    exact ihy cy G _ _ _ _ _ _ b Y Z a1 rr b2 (i.mono F.ext) F.rel (F.low t) _ λa2 w2 m2 a4 c1 c2 c3 c4=>
     j a2 w2 m2 (a4++z) (F.trans c1) c2 (by rw[c3,W,AA]) (Cs.append F.kept.size a4 z _ c1.kept.size c4 (Cs.Zv F.rel c1 z _ b4))
   |_=>cases b;exact j a1 Z Y z F b2 W b4
 |cond c x y ihx ihy=>
  intro c' f rd vars h e d A b m w a rr k i o t Q j;simp only[kG,uA,qA] at f;have⟨cc,b6,B,u,cy,G,f⟩:=f;cases f;rw[run] at b;have J:=aN (s:=(⟨k,Lo.nil ..⟩:St m nt pv [] vars [] a)) b6;split at b
  .rename_i L
   rw[L] at J;exact wpIn_cond_true J (ihx B u _ _ _ _ _ _ b m w a rr k i o t _ j)
  .rename_i L
   rw[L] at J;exact wpIn_cond_false J (ihy cy G _ _ _ _ _ _ b m w a rr k i o t _ j)
  .cases b
 |block id x ihx=>
  intro c f rd vars h e d A b m w a rr k i o t Q j;simp only[kG,uA,qA] at f;have⟨B,u,f⟩:=f;cases f;rw[run] at b;refine wpIn_block ?_
  cases hra:run cl yl N rd B vars h with
  |none=>simp [hra] at b
  |some q=>
   have⟨e1,K,h1⟩:=q;simp only[hra] at b;refine ihx B u _ _ _ _ _ _ hra m w a rr k i o t _ λa1 Z Y z F b2 W b4=>?_
   cases e1 with
   |exit n=>
    simp only at b;simp only[BY,Exit.inBlock];split at b
    .rename_i hn
     cases b;rw[aS hn];exact j a1 Z Y z F b2 W b4
    .rename_i hn
     cases b;rw[aQ hn];exact j a1 Z Y z F b2 W b4
   |_=>cases b;exact j a1 Z Y z F b2 W b4
 |loop x ihx=>
  intro c f rd vars h e d A b m w a rr k i o t Q j;simp only[kG,uA,qA] at f;have⟨B,u,f⟩:=f;cases f;rw[run] at b;exact (adA (rr:=rr) (λvars h e d A b m w a k i o t Q j=>ihx B u rd vars h e d A b m w a rr k i o t Q j) N _ _ _ _ _ b m w a k i o t Q j).wp
 |exit n=>
  intro c f rd vars h e d A b m w a rr k i o t Q j;simp only[kG] at f;cases f;rw[run] at b;cases b;exact wpIn_exit (j.still o k)
 |ret=>
  intro c f rd vars h e d A b m w a rr k i o t Q j;simp only[kG] at f;cases f;rw[run] at b;cases b;exact wpIn_ret (j.still o k)
 |rangeFunc g ps x y ihx ihy=>
  intro c f rd vars h e d A b m w a rr k i o t Q j;simp only[kG,uA,qA] at f;have⟨cg,a8,pars,R,B,u,cy,G,f⟩:=f;cases f;rw[run] at b;split at b
  .rename_i gf fs cs a9
   generalize b8:MT rd h=b5 at b
   cases b5 with
   |false=>simp at b
   |true=>
    simp only[if_true] at b
    cases hcall:cl gf (fs++ .yl h.next::cs) (h.new (.loop {vars,pars,assign:=B,body:=cy,st:= .ready,pend:=none})) with
    |none=>simp [hcall] at b
    |some q=>
     have⟨v,hA⟩:=q;simp only[hcall] at b;split at b
     .rename_i r b0
      by_cases L:r.st= .busy
      .simp [L] at b
      .simp only[L,if_false] at b
       cases b;exact UB O k i o t a8 a9 R u G b8 hcall b0 L j
     .cases b
  .cases b
 |_=>intro c f;simp [kG] at f
theorem sound (a:P.follows .mixedOrders=true)(c:POk P p): ∀f,Ep P (nY p f).1/\yM P (nY p f).2
 |0=>⟨λ_ _ _ _ _ b=>(nomatch b),λ_ _ _ _ _ b=>(nomatch b)⟩
 |f+1=>let ⟨h1,h2⟩:=sound a c f;⟨Xp c (VF a h1 h2),Uc (VF a h1 h2)⟩
theorem Vq (b:P.follows .mixedOrders=true)(a:POk P p){f g:Nat}{args:List V}{h h':H}{v:V}(c:(nY p f).1 g args h=some (v,h')){m:M}{w:World}{xs:Array Value}(i:iL m args xs.toList)(j:HR P m h w)(d:Na m h.next):
  Calls P g xs w (zS P m h w v h'):=
 callsIn_wide.1 (((sound b a f).1 g args h v h' c).2 m w xs i j d)
end
end Go.Ay
namespace Go.Ay
open Go Go.RowKit Go.WideShapes Go.ChangeShapes Go.ChangeAt
section
variable {P:Program}
def H.uO (os:List Ob):H:=os.foldl H.new ⟨lf,0⟩
theorem Gf:(os:List Ob)->(h:H)->(os.foldl H.new h).next=h.next+os.length/\ ∀k,(os.foldl H.new h).get k=if k<h.next then h.get k else if h.next+os.length<=k then h.get k else os[k-h.next]?
 | [],h=>⟨rfl,λk=>by
  simp only[List.foldl_nil,List.length_nil,Nat.add_zero]
  by_cases c:k<h.next
  .rw[aS c]
  .rw[aQ c,aS om]⟩
 |o::os,h=>by
  obtain⟨f,i⟩:=Gf os (h.new o);refine⟨by rw[List.foldl_cons,f,H.aM,List.length_cons];omega,λk=>?_⟩;rw[List.foldl_cons,i,H.aM,H.jY]
  by_cases b:k<h.next
  .rw[aS om,aQ om,aS b]
  .rw[aQ b]
   by_cases a:k=h.next
   .subst a
    rw[aS om,aS rfl,aQ siM];simp
   .rw[aQ om]
    by_cases d:h.next+1+os.length<=k
    .rw[aS d,aQ a,aS siO]
    .rw[aQ d,aQ siO]
     rw[show k-h.next=(k-(h.next+1))+1 by omega,List.getElem?_cons_succ]
theorem rM (a:List Ob):(H.uO a).next=a.length:=by
 rw[H.uO,(Gf a _).1];exact Nat.zero_add _
theorem qP (a:List Ob)(k:Nat):(H.uO a).get k=a[k]? :=by
 rw[H.uO,(Gf a _).2];rw[aQ (Nat.not_lt_zero _)]
 by_cases h:a.length<=k
 .have:(H.get ⟨lf,0⟩ k)=none:=rfl
  rw[aS (show 0+a.length<=k by omega),this,List.getElem?_eq_none h]
 .rw[aQ (show ¬0+a.length<=k by omega)];rfl
theorem QI {w:World}{c:List Ob}{a:List (Nat×Nat×Nat)}(l:c.length=a.length)(h:(i:Nat)->(o:Ob)->(p:Nat×Nat×Nat)->c[i]? =some o->a[i]? =some p->o.rw=false/\OR P (λ(id:Nat)=>a[id]?) o p w):
  HR P (λ(id:Nat)=>a[id]?) (H.uO c) w/\Na (λ(id:Nat)=>a[id]?) (H.uO c).next:=by
 refine⟨⟨λid o f=>?_,λi j n t q r m hi s b _ _=>?_⟩,λid k=>?_⟩
 .rw[qP] at f
  have d:=(Iq.1 f).1
  exact⟨a[id]'om,dJ _,(h id o _ f (dJ om)).2⟩
 .rw[qP] at hi
  have d:=(Iq.1 hi).1
  rw[(h i n _ hi (dJ om)).1] at b
  cases b
 .rw[rM] at k
  exact List.getElem?_eq_none om
theorem iR.below {m f:M}{h h':H}{w w':World}(a:iR P m h w f h' w')(c: ∀id o,h.get id=some o->o.rw=false):Below w.heap.size w w':=
 ⟨a.kept.os,a.kept.tape,a.kept.output,a.kept.size,λb d=>a.kept.block b d λ⟨id,o,p,ho,hrw,_⟩=>by rw[c id o ho] at hrw;cases hrw⟩
theorem TV {b:List Ob}(h: ∀o∈b,o.rw=false): ∀id o,(H.uO b).get id=some o->o.rw=false:=λid o a=>by
 rw[qP] at a;exact h o (HP a)
variable {H:Type} {enc:TypeId×Value->H}
theorem Ac (b:laidOutB P=true){W W':World}(c:Below W.heap.size W W'){sp:Nat->Bool}:(ts:List TypeId)->(vs:List Value)->(ds:List (DataW H))->(ps:List MemPlace)->(∀t∈ts,P.readableRec t=true/\t<P.types.size)->(∀x∈ps,x.block<W.heap.size/\sp x.block=true)->
  DataW.TrodAll enc P W 0 (λ_=>true) true ts vs ds ps->DataW.TrodAll enc P W' 0 sp true ts vs ds ps
 | [], [], [],_,_,_,h=>h
 |t::ts,v::vs,d::ds,ps,ht,hlt,h=>by
  obtain⟨p,q,i,f,rfl⟩:=h
  exact⟨p,q,WideElems.Trod_stays b (ht t (wI ..)).1 (ht t (wI ..)).2 i (λx a=>c.same (hlt x (List.mem_append_left _ a)).1) (λx a=>(hlt x (List.mem_append_left _ a)).2),
   Ac b c ts vs ds q (λt h=>ht t (wH _ h)) (λx a=>hlt x (List.mem_append_right _ a)) f,rfl⟩
 | [], [],_::_,_,_,_,h=>h.elim
 | [],_::_,_,_,_,_,h=>h.elim
 |_::_, [],_,_,_,_,h=>h.elim
 |_::_,_::_, [],_,_,_,h=>h.elim
theorem Nc {f:Func}{s:ChangeSpec}{k fresh i o:Bool}{W W':World}{args:Array Value}{v:Value}{ds gs:List (DataW H)}{a pa pv:List MemPlace}
  (y:DataW.Whole enc P f.params.toList s.vars k W args.toList ds gs a)
  (m:(b:Nat)->(sp:Nat->Bool)->(hd:Bool)->DataW.TrodAll enc P W' b sp hd f.resultTypes.toList (v.resultList f.resultTypes.size) (s.fn H (ds++gs)).results [])
  (c: ∀sp:Nat->Bool,(∀p∈a,sp p.block=true)->DataW.TrodAll enc P W' 0 sp true f.params.toList args.toList (s.fn H (ds++gs)).args pa)
  (h: ∀sp:Nat->Bool,(∀p∈a,sp p.block=true)->DataW.TrodVars enc P W' sp s.vars (s.fn H (ds++gs)).vars pv)
  (l:a=pa++pv) (z:Below W.heap.size W W')
  (x:(j:Nat)->(t:TypeId)->(r:Value)->f.resultTypes[j]? =some t->(v.resultList f.resultTypes.size)[j]? =some r->Value.okWide P W' .any 0 t r):
  s.post enc P f k fresh i o W args v W':=by
 have q: ∀p∈a,p.block<W.heap.size:=λp d=>y.lt p d
 have n: ∀p∈a,(λb=>decide (b<W.heap.size)) p.block=true:=λp d=>by simpa using q p d
 refine⟨ds,gs,a, [],pa,pv,y,m _ _ _,c _ n,h _ n,World.keptBut_mono (λp d=>⟨d,?_⟩) (z.frame (· ∈a)),λ_=>?_⟩
 .rw[l,Es] at d
  exact Or.inr d
 .have⟨_,_,_,_,_,F,A⟩:=y
  refine⟨x,_,_,([]++pa)++pv,⟨[]++pa,pv,trodAll_append (c _ (λ_ _=>rfl)) (m _ _ _),h _ (λ_ _=>rfl),rfl,?_,?_⟩,?_⟩
  .intro b w d
   have u:MemPlace.cell b w∈a:=by rw[l];simpa using d
   rw[z.frozen (q _ u)]
   exact F b w u
  .intro B
   have:=A B
   rw[l] at this
   simpa using this
  .intro p d _
   rw[l]
   simpa using d
theorem VI {f:Func}{s:ChangeSpec}{h fresh d j:Bool}{W W':World}{args:Array Value}{ds gs:List (DataW H)}{c:List MemPlace}{tb:TypeId}
  (z:laidOutB P=true) (i:s.vars= []) (l:f.params.toList.all (λt=>P.readableRec t&&decide (t<P.types.size))=true)
  (m:f.resultTypes= #[tb]) (o:P.underlying tb=some .bool)
  (w:DataW.Whole enc P f.params.toList s.vars h W args.toList ds gs c)
  (a:(s.fn H (ds++gs))={results:= [.lit (.bool true)],args:=ds})
  (u:Below W.heap.size W W'):s.post enc P f h fresh d j W args (.bool true) W':=by
 have n:=w
 have⟨p,q,G,y,k,F,B⟩:=w
 rw[i] at y
 obtain⟨rfl,rfl⟩:=trodVars_none y
 rw[qH] at k
 subst k
 rw[qH] at a
 refine Nc (pa:=c) (pv:= []) n (λb sp J=>?_) (λsp r=>?_) (λsp _=>?_) siM u ?_
 .rw[qH,a,m]
  exact trodAll_mk1 (shut_bool o true)
 .rw[qH,a]
  refine Ac z u _ _ _ _ (λt A=>?_) (λx v=>⟨?_,r x v⟩) G
  .have:=uR.1 l t A
   simpa using this
  .exact n.lt x v
 .rw[qH,a,i];rfl
 .exact ok_one m rfl (okWide_bool_mk o true)
end
end Go.Ay
namespace Go.Ay
open Go
def Pj (l:List Nat):Nat:=l.foldl (λm t=>m|||1<<<t) 0
def opM (ops:Array Oper)(o:Oper):Nat:=Pj ((o.op.operands.toList.filterMap fun| .tmp t=>some t|_=>none)++(match o.guard with|some (j,_)=>((ops[j]?).bind (·.dst)).toList|none=> []))
def xM:Operand->Nat
 | .tmp t=>1<<<t
 |_=>0
def Wc:Code->Nat×Nat×Nat->Nat×Nat×Nat
 | .region _ ops _,(s,m,u)=>
  let r:=ops.toList.foldl (λ(d,n,r) o=>
   let us:=opM ops o
   (d|||Pj o.dst.toList,n|||(match o.op with| .defer _=>us|_=>us^^^(us&&&d)),r|||us|||Pj o.dst.toList)) ((0:Nat),u,(0:Nat))
  (s|||r.2.2,m|||(s&&&r.2.2),r.2.1)
 | .seq a b,x=>Wc b (Wc a x)
 | .cond c a b,x=>let y:=Wc b (Wc a x);(y.1,y.2.1,y.2.2|||xM c)
 | .block _ c,x| .loop c,x| .scope c,x=>Wc c x
 | .rangeFunc f ps a b,x=>let y:=Wc b (Wc a x);(y.1,y.2.1,y.2.2|||xM f|||Pj ps.toList)
 |_,x=>x
def pvM (fn:Func):List Nat:=
 match fn.body with
 |none=> []
 |some c=>
  let x:=Wc c (0,0,0)
  let k:=x.2.1|||x.2.2|||Pj (fn.results.toList.map fun| .tmp t=>t| .cell t _=>t)|||(x.1&&&Pj (List.range (fn.params.size+fn.nfree)))
  (List.range fn.ntmps).filter λt=>Nat.testBit k t
def uK (P:Program)(k:Nat):Option Fn:=match P.funcs[k]? with
 |some F=>if F.body.isSome&&F.name != "runtime.NumGoroutine" then CE P (pvM F) F else none
 |none=>none
end Go.Ay
namespace Go.Proofs.YtoighkablmjfeaaGreat
open Go Go.Ay
noncomputable def T:Nat->Option Ay.Fn:=λ k=>bif Nat.beq k 76 then some ⟨0, [], [],.fail,true⟩ else uK Tryz.prog k
structure Zt (k:Nat) where
 fn:Ay.Fn
 ok:T k=some fn
noncomputable abbrev zZ (k:Nat) {c:Ay.Fn} (h:uK Tryz.prog k=some c:=by conv=>lhs;reduce;simp only [Int.reduceOfNat,Int.reduceNegSucc]) (hk:Nat.beq k 76=false:=by rfl):Zt k:=⟨c,by unfold T;rw [hk];exact h⟩
@[go_sem] theorem anF {k:Nat} {c:Ay.Fn} {h:uK Tryz.prog k=some c} {hk:Nat.beq k 76=false}:(@zZ k c h hk).fn=c:=rfl
theorem EvZ {k:Nat} (c:Zt k) {args:List V} {h:H} {Q:V->H->Prop} (hl:args.length=c.fn.nargs) (hw:Wp T none c.fn.body (qC c.fn args) h (Gb c.fn.results Q)) (hs:c.fn.Pn=false:=by rfl):Ev T k args h Q:=vZ c.ok hl hw hs
theorem mV {k:Nat} {c:Ay.Fn} {args:List V} {h:H} {Q:V->H->Prop} (hw:Wp T none c.body (qC c args) h (Gb c.results Q)) (ok:uK Tryz.prog k=some c:=by conv=>lhs;reduce;simp only [Int.reduceOfNat,Int.reduceNegSucc]) (hk:Nat.beq k 76=false:=by rfl) (hl:args.length=c.nargs:=by rfl) (hs:c.Pn=false:=by rfl):Ev T k args h Q:=vZ (by unfold T;rw [hk];exact ok) hl hw hs
theorem lG {k:Nat} {c:Ay.Fn} {args:List V} {h:H} {Q:V->H->Prop} {q:Prop} (y:q) (ok:uK Tryz.prog k=some c:=by conv=>lhs;reduce;simp only [Int.reduceOfNat,Int.reduceNegSucc]) (hw:Wp T none c.body (qC c args) h (Gb c.results Q)=q:=by conv=>lhs;simp (disch:=omega) only[go_sem,aV]) (hk:Nat.beq k 76=false:=by rfl) (hl:args.length=c.nargs:=by rfl) (hs:c.Pn=false:=by rfl):Ev T k args h Q:=mV ((hw).mpr y) ok hk hl hs
theorem pM {k:Nat} {c:Ay.Fn} {args:List V} {h:H} {Q:V->H->Prop} {q p0:Prop} (x0:p0) (y:q) (ok:uK Tryz.prog k=some c:=by conv=>lhs;reduce;simp only [Int.reduceOfNat,Int.reduceNegSucc]) (hw:p0->Wp T none c.body (qC c args) h (Gb c.results Q)=q:=by intro x0;conv=>lhs;simp (disch:=omega) only[go_sem,aV,x0]) (hk:Nat.beq k 76=false:=by rfl) (hl:args.length=c.nargs:=by rfl) (hs:c.Pn=false:=by rfl):Ev T k args h Q:=mV ((hw x0).mpr y) ok hk hl hs
theorem Hv {k:Nat} {c:Ay.Fn} {args:List V} {h:H} {Q:V->H->Prop} {q p0 p1:Prop} (x0:p0) (x1:p1) (y:q) (ok:uK Tryz.prog k=some c:=by conv=>lhs;reduce;simp only [Int.reduceOfNat,Int.reduceNegSucc]) (hw:p0->p1->Wp T none c.body (qC c args) h (Gb c.results Q)=q:=by intro x0 x1;conv=>lhs;simp (disch:=omega) only[go_sem,aV,x0,x1]) (hk:Nat.beq k 76=false:=by rfl) (hl:args.length=c.nargs:=by rfl) (hs:c.Pn=false:=by rfl):Ev T k args h Q:=mV ((hw x0 x1).mpr y) ok hk hl hs
theorem XL {k:Nat} {c:Ay.Fn} {args:List V} {h:H} {Q:V->H->Prop} {q p0 p1 p2:Prop} (x0:p0) (x1:p1) (x2:p2) (y:q) (ok:uK Tryz.prog k=some c:=by conv=>lhs;reduce;simp only [Int.reduceOfNat,Int.reduceNegSucc]) (hw:p0->p1->p2->Wp T none c.body (qC c args) h (Gb c.results Q)=q:=by intro x0 x1 x2;conv=>lhs;simp (disch:=omega) only[go_sem,aV,x0,x1,x2]) (hk:Nat.beq k 76=false:=by rfl) (hl:args.length=c.nargs:=by rfl) (hs:c.Pn=false:=by rfl):Ev T k args h Q:=mV ((hw x0 x1 x2).mpr y) ok hk hl hs
theorem Nk {k:Nat} {c:Ay.Fn} {args:List V} {h:H} {Q:V->H->Prop} {q p0 p1 p2 p3:Prop} (x0:p0) (x1:p1) (x2:p2) (x3:p3) (y:q) (ok:uK Tryz.prog k=some c:=by conv=>lhs;reduce;simp only [Int.reduceOfNat,Int.reduceNegSucc]) (hw:p0->p1->p2->p3->Wp T none c.body (qC c args) h (Gb c.results Q)=q:=by intro x0 x1 x2 x3;conv=>lhs;simp (disch:=omega) only[go_sem,aV,x0,x1,x2,x3]) (hk:Nat.beq k 76=false:=by rfl) (hl:args.length=c.nargs:=by rfl) (hs:c.Pn=false:=by rfl):Ev T k args h Q:=mV ((hw x0 x1 x2 x3).mpr y) ok hk hl hs
theorem alP {k:Nat} {c:Ay.Fn} {args:List V} {h:H} {Q:V->H->Prop} {q p0 p1 p2 p3 p4:Prop} (x0:p0) (x1:p1) (x2:p2) (x3:p3) (x4:p4) (y:q) (ok:uK Tryz.prog k=some c:=by conv=>lhs;reduce;simp only [Int.reduceOfNat,Int.reduceNegSucc]) (hw:p0->p1->p2->p3->p4->Wp T none c.body (qC c args) h (Gb c.results Q)=q:=by intro x0 x1 x2 x3 x4;conv=>lhs;simp (disch:=omega) only[go_sem,aV,x0,x1,x2,x3,x4]) (hk:Nat.beq k 76=false:=by rfl) (hl:args.length=c.nargs:=by rfl) (hs:c.Pn=false:=by rfl):Ev T k args h Q:=mV ((hw x0 x1 x2 x3 x4).mpr y) ok hk hl hs
theorem agU {k:Nat} {c:Ay.Fn} {args:List V} {h:H} {Q:V->H->Prop} {q p0 p1 p2 p3 p4 p5:Prop} (x0:p0) (x1:p1) (x2:p2) (x3:p3) (x4:p4) (x5:p5) (y:q) (ok:uK Tryz.prog k=some c:=by conv=>lhs;reduce;simp only [Int.reduceOfNat,Int.reduceNegSucc]) (hw:p0->p1->p2->p3->p4->p5->Wp T none c.body (qC c args) h (Gb c.results Q)=q:=by intro x0 x1 x2 x3 x4 x5;conv=>lhs;simp (disch:=omega) only[go_sem,aV,x0,x1,x2,x3,x4,x5]) (hk:Nat.beq k 76=false:=by rfl) (hl:args.length=c.nargs:=by rfl) (hs:c.Pn=false:=by rfl):Ev T k args h Q:=mV ((hw x0 x1 x2 x3 x4 x5).mpr y) ok hk hl hs
end Go.Proofs.YtoighkablmjfeaaGreat
namespace Go.Proofs.YtoighkablmjfeaaGreat
open Go Go.Ay
noncomputable abbrev zT:=zZ 52
noncomputable abbrev sF:=zZ 74
noncomputable abbrev fE:=zZ 178
noncomputable abbrev nK:=zZ 185
noncomputable abbrev eQ:=zZ 213
noncomputable abbrev iB:=zZ 215
noncomputable abbrev uZ:=zZ 233
noncomputable abbrev sG:=zZ 249
end Go.Proofs.YtoighkablmjfeaaGreat
namespace Go.Proofs.YtoighkablmjfeaaGreat
open Go Go.Ay
noncomputable abbrev fM:=zZ 38
noncomputable abbrev kZ:=zZ 42
noncomputable abbrev uM:=zZ 75
noncomputable abbrev oM:=zZ 179
noncomputable abbrev bP:=zZ 180
noncomputable abbrev lQ:=zZ 232
noncomputable abbrev yI:=zZ 268
end Go.Proofs.YtoighkablmjfeaaGreat
namespace Go.Proofs.YtoighkablmjfeaaGreat
open Go Go.Ay
noncomputable abbrev eM:=zZ 78
noncomputable abbrev EH:=zZ 112
noncomputable abbrev lW:=zZ 182
noncomputable abbrev cG:=zZ 183
noncomputable abbrev fU:=zZ 217
noncomputable abbrev BX:=zZ 227
noncomputable abbrev oA:=zZ 231
noncomputable abbrev uX:=zZ 256
end Go.Proofs.YtoighkablmjfeaaGreat
namespace Go.Proofs.YtoighkablmjfeaaGreat
open Go Go.Ay
noncomputable abbrev iJ:=zZ 90
noncomputable abbrev Be:=zZ 118
noncomputable abbrev gU:=zZ 119
noncomputable abbrev aG:=zZ 181
noncomputable abbrev iA:=zZ 184
noncomputable abbrev jV:=zZ 214
noncomputable abbrev qF:=zZ 219
noncomputable abbrev mM:=zZ 254
end Go.Proofs.YtoighkablmjfeaaGreat

namespace Go.Proofs.YtoighkablmjfeaaGreat
open Go Go.Ay Go.Pm
theorem anO (h:H)(n:Nat)(a:n<=100000):sD h 1 8 [aC 0] (aC n) (aC n)=some (.sl h.next 0 n (.kn n),h.new (.cells false (rc n λ_=> aC 0))):=by
 rw[iH om (Int.le_refl _) om om,Mc,jP,qT,show ints (List.replicate n 0)=rc n λ_=> aC 0 from (Dg (by simp [aE]) λi hi=>by simp [ints,hi]).symm]
theorem zD {g:Nat}(A:T g=some mM.fn)(u w:V)(a b:List Nat)(h:H)(hn:a.length<=1000)(P:SI h u (zi a))(Y:SI h w (zi b))(Z: ∀i,i<a.length->a.getD i 0<b.length):
  Ev T g [u,w] h (λv h'=>Ya h h' v (aZ a b)):=by
 refine vZ A rfl ?_
 have O:=P.lens
 rw[bD] at O
 obtain⟨id,off,K,y,R⟩:=P.open
 rw[bD] at K y R
 obtain⟨B,o,s,d,q⟩:=Y.open
 rw[bD] at s d q
 simp(disch:=omega)only[go_sem,mM,aV,O,anO h a.length om]
 have t:Fr h (h.new (.cells false (rc a.length λ_=> aC 0))):=(Fr.refl h).new _
 have m:(h.new (.cells false (rc a.length λ_=> aC 0))).get h.next=some (.cells false (rc a.length λ_=> aC 0)):=H.aI ..
 have l:(h.new (.cells false (rc a.length λ_=> aC 0))).next=h.next+1:=H.aM ..
 generalize h.new (.cells false (rc a.length λ_=> aC 0))=h1 at*
 obtain⟨S,x⟩:=exI h.next
 rw[x] at m l
 rw[x]
 refine aP (λN f G=> ∃(i:Nat),(∃j:Nat->V,f= [u,w,.aH,.sl S 0 a.length (.kn a.length),j 4,j 5,u,aC (a.length:Int),aC i,j 9])/\i<=a.length/\
   G.get S=some (.cells false (rc a.length λj=>if j<i then aC ((aZ a b).getD j 0:Nat) else aC 0))/\G.next=S+1/\Fr h G/\N=a.length-i) a.length
  ⟨0,aD rfl,fY _,by rw[m];rfl,l,t,rfl⟩ ?_
 clear m t l
 rintro N f z ⟨i,⟨jk,rfl⟩,hi,J,lS,F,rfl⟩
 refine aT ?_
 by_cases n:(i:Int)<(a.length:Int)
 .rw[cV n]
  have c:i<a.length:=om
  have ci:z.cell id (off+i)=some (aC (a.getD i 0:Nat)):=by rw[F.cell (y om),R i c];congr 2;simp [zi,c]
  have r:=Z i c
  generalize U:a.getD i 0=k at ci r
  have W:z.cell B (o+k)=some (aC (b.getD k 0:Nat)):=by rw[F.cell (d om),q k r];congr 2;simp [zi,r]
  have e1:decide ((i:Int)<0)=false:=bZ om
  have e2:decide ((a.length:Int)<=(i:Int))=false:=bZ om
  have L:=bE (vs:=rc a.length λj=>if j<i then aC ((aZ a b).getD j 0:Nat) else aC 0) (off:=i) (by rw[dE];exact c) z S (aC (b.getD k 0:Nat))
  rw[iQ] at L
  refine wY @K.ixa @s.ixa ci W e1 e2 J L ?_
  rw[fJ i]
  refine⟨a.length-(i+1),om,i+1,aD rfl,om,?_,lS,F.set om _,rfl⟩
  congr 2
  refine bW λj Q=>?_
  by_cases e:j=i
  .subst e
   rw[aS rfl,aS om,dA c,U]
  .rw[aQ e]
   by_cases e2:j<i
   .rw[aS e2,aS om]
   .rw[aQ e2,aQ om]
 rw[bZ n]
 obtain rfl:i=a.length:=om
 refine aT ?_
 refine⟨by rw[eY,x],?_,by rw[x];exact lS,F⟩
 rw[x,J]
 congr 2
 rw[<-Pe,eY]
 exact bW λj Q=>by rw[aS Q]
theorem IM {g:Nat}(t:T g=some yI.fn)(u:V)(n:Nat)(a:List Nat)(h:H)(U:n<=1000)(A:bJ n a)(K:SI h u (zi a)):
  Ev T g [u] h (λv h'=>Ya h h' v (bY a)):=by
 refine vZ t rfl ?_
 have la:=A.len
 have J:=K.lens
 rw[bD,la] at J
 obtain⟨id,off,B,q,N⟩:=K.open
 rw[bD,la] at B q N
 simp(disch:=omega)only[go_sem,yI,aV,J,anO h n om]
 have m:Fr h (h.new (.cells false (rc n λ_=> aC 0))):=(Fr.refl h).new _
 have f:(h.new (.cells false (rc n λ_=> aC 0))).get h.next=some (.cells false (rc n λ_=> aC 0)):=H.aI ..
 have d:(h.new (.cells false (rc n λ_=> aC 0))).next=h.next+1:=H.aM ..
 generalize h.new (.cells false (rc n λ_=> aC 0))=R at*
 obtain⟨S,o⟩:=exI h.next
 rw[o] at f d
 rw[o]
 refine aP (λG c w=> ∃(i:Nat),(∃j:Nat->V,c= [u,.aH,.sl S 0 n (.kn n),j 3,j 4,u,aC n,aC i,j 8])/\i<=n/\
   w.get S=some (.cells false (rc n λj=>if a.idxOf j<i then aC (a.idxOf j:Nat) else aC 0))/\w.next=S+1/\Fr h w/\G=n-i) n
  ⟨0,aD rfl,fY _,by rw[f];rfl,d,m,rfl⟩ ?_
 clear f m d
 rintro G c x ⟨i,⟨W,rfl⟩,hi,y,lS,F,rfl⟩
 refine aT ?_
 by_cases l:(i:Int)<(n:Int)
 .rw[cV l]
  have b:i<n:=om
  have ci:x.cell id (off+i)=some (aC (a.getD i 0:Nat)):=by rw[F.cell (q om),N i b];congr 2;simp [zi,la,b]
  have r:=A.eJ b
  have L:a.idxOf (a.getD i 0)=i:=A.inj (A.idx r).1 b (A.idx r).2
  generalize P:a.getD i 0=k at ci r L
  have e1:decide ((k:Int)<0)=false:=bZ om
  have e2:decide ((n:Int)<=(k:Int))=false:=bZ om
  have z:=bE (vs:=rc n λj=>if a.idxOf j<i then aC (a.idxOf j:Nat) else aC 0) (off:=k) (by rw[dE];exact r) x S (aC i)
  rw[iQ] at z
  refine wE @B.ixa ci e1 e2 y z ?_
  rw[fJ i]
  refine⟨n-(i+1),om,i+1,aD rfl,om,?_,lS,F.set om _,rfl⟩
  congr 2
  refine bW λj s=>?_
  by_cases e:j=k
  .rw[aS e,e,L,aS om]
  .rw[aQ e]
   have O:a.idxOf j≠i:=λQ=>e (by rw[<-(A.idx s).2,Q,P])
   by_cases e2:a.idxOf j<i
   .rw[aS e2,aS om]
   .rw[aQ e2,aQ om]
 rw[bZ l]
 obtain rfl:i=n:=om
 refine aT ?_
 refine⟨by rw[iX,la,o],?_,by rw[o];exact lS,F⟩
 rw[o,y]
 congr 2
 rw[<-Pe,iX,la]
 exact bW λj s=>by rw[aS (A.idx s).1,oX (by rw[la];exact s)]
theorem Sj {g:Nat}(m:T g=some sG.fn)(n:Nat)(h:H)(w:n<=1000):
  Ev T g [aC n] h (λv h'=>Ya h h' v (bI n)):=by
 refine vZ m rfl ?_
 simp(disch:=omega)only[go_sem,sG,aV,anO h n om]
 have f:Fr h (h.new (.cells false (rc n λ_=> aC 0))):=(Fr.refl h).new _
 have c:(h.new (.cells false (rc n λ_=> aC 0))).get h.next=some (.cells false (rc n λ_=> aC 0)):=H.aI ..
 have b:(h.new (.cells false (rc n λ_=> aC 0))).next=h.next+1:=H.aM ..
 generalize h.new (.cells false (rc n λ_=> aC 0))=y at*
 obtain⟨S,k⟩:=exI h.next
 rw[k] at c b
 rw[k]
 refine aP (λt a l=> ∃(i:Nat),(∃j:Nat->V,a= [aC n,.aH,.sl S 0 n (.kn n),j 3,aC n,aC i,j 6])/\i<=n/\
   l.get S=some (.cells false (rc n λj=>if j<i then aC (j:Nat) else aC 0))/\l.next=S+1/\Fr h l/\t=n-i) n
  ⟨0,aD rfl,fY _,by rw[c];rfl,b,f,rfl⟩ ?_
 clear c f b
 rintro t a u ⟨i,⟨x,rfl⟩,hi,r,lS,F,rfl⟩
 refine aT ?_
 by_cases d:(i:Int)<(n:Int)
 .rw[cV d]
  have q:i<n:=om
  have e1:decide ((i:Int)<0)=false:=bZ om
  have e2:decide ((n:Int)<=(i:Int))=false:=bZ om
  have s:=bE (vs:=rc n λj=>if j<i then aC (j:Nat) else aC 0) (off:=i) (by rw[dE];exact q) u S (aC i)
  rw[iQ] at s
  refine jX e1 e2 r s ?_
  rw[fJ i]
  refine⟨n-(i+1),om,i+1,aD rfl,om,?_,lS,F.set om _,rfl⟩
  congr 2
  refine bW λj o=>?_
  by_cases e:j=i
  .rw[aS e,aS om,e]
  .rw[aQ e]
   by_cases e2:j<i
   .rw[aS e2,aS om]
   .rw[aQ e2,aQ om]
 rw[bZ d]
 obtain rfl:i=n:=om
 refine aT ?_
 refine⟨by rw[iF,k],?_,by rw[k];exact lS,F⟩
 rw[k,r]
 congr 2
 rw[<-Pe,iF]
 exact bW λj o=>by rw[aS o,eG o]
theorem yB (u w:V)(a b:List Nat)(h:H)(f:a.length<=1000)(d:SI h u (zi a))(c:SI h w (zi b))(j: ∀i,i<a.length->a.getD i 0<b.length):
  Ev T 75 [u,w] h (λv h'=>Ya h h' v (aZ a b)):=zD uM.ok u w a b h f d c j
end Go.Proofs.YtoighkablmjfeaaGreat
namespace Go.Ay
open Go
section
variable {v:V} {sz:Nat} {ws:List V} {l:List Nat}
structure Fx (W:Nat->Prop)(h h':H):Prop where
 next:h.next<=h'.next
 get: ∀id,id<h.next-> ¬W id->h'.get id=h.get id
def vI (W:Nat->Prop):V->Prop
 | .sl id _ _ _=> ¬W id
 |_=>True
section
variable {W W':Nat->Prop} {a b c h h':H}
theorem Fx.refl (W:Nat->Prop)(h:H):Fx W h h:=⟨dN _,λ_ _ _=>rfl⟩
theorem Fx.of (f:Fr h h'):Fx W h h':=⟨f.next,λid d _=>f.get id d⟩
theorem Fx.trans (x:Fx W a b)(y:Fx W' b c)(i: ∀id,id<a.next->W' id->W id):Fx W a c:=
 ⟨kQ x.next y.next,λid d f=>(y.get id (iD d x.next) (λh=>f (i id d h))).trans (x.get id d f)⟩
theorem Fx.mE (x:Fx W a b)(f: ∀id,id<a.next->W id->W' id):Fx W' a b:=⟨x.next,λid d i=>x.get id d λh=>i (f id d h)⟩
theorem Fx.fr (x:Fx W a b)(f: ∀id,id<a.next-> ¬W id):Fr a b:=⟨x.next,λid d=>x.get id d (f id d)⟩
theorem Fx.set (h:H){id:Nat}(d:W id)(o:Option Ob):Fx W h (h.set id o):=⟨dN _,λk _ f=>H.Cj h (λe:k=id=>f (by rw[e];exact d)) o⟩
theorem Fx.cell (x:Fx W a b){id:Nat}(d:id<a.next)(h2: ¬W id)(off:Nat):b.cell id off=a.cell id off:=by unfold H.cell;rw[x.get id d h2]
theorem SV.fx (s:SV h v sz ws)(o:vI W v)(f:Fx W h h'):SV h' v sz ws:=by
 rcases s with s|⟨id,d,len,i,r,m,t,n,j,q,u,k⟩
 .exact .inl s
 .subst t
  exact .inr ⟨id,d,len,i,r,m,rfl,n,iD j f.next,by rw[f.get id j o];exact q,u,k⟩
theorem SI.fx {l:List Int}(s:SI h v l)(o:vI W v)(f:Fx W h h'):SI h' v l:=SV.fx s o f
theorem SV.in (s:SV h v sz ws): ∀id off len cap,v= .sl id off len cap->id<h.next:=by
 rcases s with ⟨s|⟨a,s⟩,_⟩|⟨id,off,len,cap,j,m,f,i,d,n,o,k⟩
 .intro _ _ _ _ e;rw[s] at e;cases e
 .intro _ _ _ _ e;rw[s] at e;cases e
 .intro _ _ _ _ e;rw[f] at e;cases e;exact d
theorem vI.mE (o:vI W v)(s:SV h v sz ws)(d: ∀id,id<h.next->W' id->W id):vI W' v:=by
 cases v with
 |sl id off len cap=>exact λf=>o (d id (s.in _ _ _ _ rfl) f)
 |_=>trivial
structure PV (W:Nat->Prop)(h:H)(v:V)(l:List Nat):Prop where
 si:SI h v (zi l)
 off:vI W v
theorem PV.fx (p:PV W h v l)(f:Fx W h h'):PV W h' v l:=⟨p.si.fx p.off f,p.off⟩
theorem PV.mE (p:PV W h v l)(d: ∀id,id<h.next->W' id->W id):PV W' h v l:=⟨p.si,p.off.mE p.si d⟩
theorem Ya.pv (n:Ya h h' v l)(f: ¬W h.next):PV W h' v l:=by
 obtain⟨rfl,d,i,_⟩:=n;exact⟨SV.all (by rw[aE,bD,jP]) om d _,f⟩
end
end
end Go.Ay
namespace Go.Ay
open Go
section
variable {x v u w:V} {sz n m id:Nat} {ws us vs vars:List V} {l:List Nat} {ls:List (List Nat)} {p:Nat->Option Fn} {Q:V->H->Prop} {rd:Option Nat}
section
variable {W:Nat->Prop} {a b c h h':H}
structure xQ (h:H)(x:V)(n m:Nat)(sz:Nat)(ws us:List V)(h':H):Prop where
 get:h'.get h.next=some (.cells false (ws++us))
 next:h'.next=h.next+1
 old: ∀k,k≠h.next->cW x k->h'.get k=h.get k
theorem dF.push {y:V}{bytes b:Nat}(o:dF h x sz ws b)(t:SV h y sz us)(A:ws.length=n*sz)(K:us.length=m*sz)(r:0<sz)(P:0<m)(f:(2*(n+m)+1000)*bytes<=2^48/\n+m<2^62):
  ∃h',tW h sz bytes x y=some (.sl h.next 0 (n+m) (.un sz),h')/\xQ h x n m sz ws us h':=by
 have e1:tW h sz bytes x y=Ay.tV h sz bytes x m us:=by
  simp only[tW,t.len K r,t.slice]
 rw[e1]
 have z:=o.sv
 have i:=z.len A r
 have j:=z.slice
 unfold Ay.tV
 simp only[i,j]
 rw[aQ om,aS f]
 have d: ∀g:H,g.next=h.next->(∀k,k≠h.next->cW x k->g.get k=h.get k)-> ∃h',some (V.sl h.next 0 (n+m) (.un sz),g.new (.cells false (ws++us)))=some (.sl h.next 0 (n+m) (.un sz),h')/\xQ h x n m sz ws us h':=by
  intro g gn G;refine⟨_,rfl,by rw[<-gn,H.aI],by rw[H.aM,gn],λk B q=>?_⟩;rw[H.bG g om];exact G k B q
 rcases o with ⟨rfl,rfl⟩|⟨id,s,N,F,rfl,L,J,R,U,O⟩
 .exact d h rfl (λ_ _ _=>rfl)
 .have:s=n:=Nat.eq_of_mul_eq_mul_right r (L.symm.trans A)
  subst this
  rcases J with rfl|⟨rfl,rfl⟩
  .simp only[O,if_true]
   exact d (h.set id none) rfl (λk B q=>H.Cj h (q id 0 s _ rfl) none)
  .simp only
   rw[aQ om]
   exact d h rfl (λ_ _ _=>rfl)
theorem xQ.own (p:xQ h x n m sz ws us h')(f:ws.length=n*sz)(d:us.length=m*sz){b:Nat}(i:b<=h.next):dF h' (.sl h.next 0 (n+m) (.un sz)) sz (ws++us) b:=
 .inr ⟨h.next,n+m,_, [],rfl,by rw[eE,f,d,Nat.add_mul],.inl rfl,i,by rw[p.next];omega,by rw[qH];exact p.get⟩
theorem xQ.fx (p:xQ h x n m sz ws us h')(d: ∀id off len cap,x= .sl id off len cap->W id):Fx W h h':=
 ⟨by rw[p.next];omega,λid j f=>p.old id om λi off n c e=>λe2=>f (e2▸d _ _ _ _ e)⟩
theorem dF.iU {b:Nat}(o:dF h v sz ws b)(i:h.next<=h'.next)(f: ∀id off n c,v= .sl id off n c->id<h.next->h'.get id=h.get id):dF h' v sz ws b:=
 o.mono i λid off n c e _ d=>f id off n c e d
theorem dF.in {b:Nat}(o:dF h v sz ws b): ∀id off len cap,v= .sl id off len cap->id<h.next/\b<=id/\off=0:=by
 rcases o with ⟨rfl,_⟩|⟨id,n,cap,d,rfl,_,_,i,f,_⟩
 .intro _ _ _ _ e;cases e
 .intro _ _ _ _ e;cases e;exact⟨f,i,rfl⟩
theorem PV.sl (p:PV W h v l)(f:l≠ []): ∃id off len cap,v= .sl id off len cap/\id<h.next/\ ¬W id:=by
 rcases p.si with ⟨_,i⟩|⟨id,off,len,cap,k,vs,d,_,j,_⟩
 .exfalso
  cases l with
  |nil=>exact f rfl
  |cons x l=>simp [zi,ints] at i
 .exact⟨id,off,len,cap,d,j,by have:=p.off;rw[d] at this;exact this⟩
theorem PV.mono (p:PV W h v l)(f:Fr h h'):PV W h' v l:=p.fx (Fx.of f)
theorem bJ.ne (d:0<n)(L:Pm.bJ n l):l≠ []:=λe=>by
 have:=L.len;rw[e] at this;simp at this;omega
theorem Sx (p:PV W h v l)(i:l≠ [])(neg:Bool):Jv neg v=some (.bool neg):=by
 obtain⟨id,f,len,d,rfl,_⟩:=p.sl i
 rfl
abbrev jI (W:Nat->Prop)(h:H)(vs:List V)(ls:List (List Nat)):Prop:=bH (PV W h) vs ls
theorem jI.fx (p:jI W h vs ls)(f:Fx W h h'):jI W h' vs ls:=p.mono λ_ _ x=>x.fx f
theorem jI.mE {W':Nat->Prop}(p:jI W h vs ls)(d: ∀id,id<h.next->W' id->W id):jI W' h vs ls:=p.mono λ_ _ x=>x.mE d
theorem jI.at (p:jI W h vs ls){i:Nat}(hi:i<ls.length): ∃v,vs[i]? =some v/\PV W h v (ls.getD i []):=by
 have d:=bH.length p;refine⟨vs[i]'om,dJ om,?_⟩;have:=bH.get p i om hi;simpa [List.getD,hi] using this
theorem jI.one (p:PV W h v l):jI W h [v] [l]:=⟨p,trivial⟩
end
theorem PV.fX {W:Nat->Prop}{h:H}(p:PV W h v l):v.cells= [v]/\v.one=true:=⟨(SV.cT p.si).1,(SV.cT p.si).2.1⟩
theorem dL (h:H){z:V}(d:v.cells= [v])(f:v.one=true):lU h 1 [z] 1 [(0,1,v)]=some (.sl h.next 0 1 (.kn 1),h.new (.cells false [v])):=by
 have e1:putAt [z] 0 [v]=some [v]:=by simp [putAt]
 simp [lU,fP,cJ,d,f,e1]
theorem SV.one {h:H}{ro:Bool}(d:id<h.next)(f:h.get id=some (.cells ro [v]))(cap:qD):SV h (.sl id 0 1 cap) 1 [v]:=SV.all rfl d f cap
theorem lY (h:H)(id off:Nat)(d:v.one=true)(i:u.one=true)(f:w.one=true):HO h 3 (.ptr id off) (.agg [v,u,w])=dY (h.get id) h id off [v,u,w]:=yX h id off 3 _ rfl (by simp [d,i,f])
theorem jE {y z:V}(h:H)(id:Nat):dY (some (.cells false [x,y,z])) h id 0 [v,u,w]=some (h.set id (some (.cells false [v,u,w]))):=by
 simp [dY,putAt]
theorem bU {h:H}{ro:Bool}(d:h.get id=some (.cells ro [v,u,w])):h.row id 0 3=some [v,u,w]:=by
 simp [H.row,d,sub]
theorem dH (h:H)(d:v.one=true)(i:u.one=true)(f:w.one=true):mT h (.agg [v,u,w])=some (.ptr h.next 0,h.new (.cells false [v,u,w])):=rI h _ (by simp [d,i,f])
theorem H.Xz (h:H)(n k off m:Nat):(H.mk h.tr n).row k off m=h.row k off m:=rfl
theorem iI {h:H}{ID:Nat}(d:h.next=ID)(c:List V): ∃x,h.new (.cells false c)=x/\x.next=ID+1/\x.get ID=some (.cells false c)/\(∀k,k≠ID->x.get k=h.get k)/\Fr h x:=
 ⟨_,rfl,by rw[H.aM,d],by rw[<-d,H.aI],λk f=>H.bG h om _,(Fr.refl h).new _⟩
theorem xN (h:H)(ID:Nat)(c:List V): ∃x,h.set ID (some (.cells false c))=x/\x.next=h.next/\x.get ID=some (.cells false c)/\ ∀k,k≠ID->x.get k=h.get k:=
 ⟨_,rfl,rfl,H.aJ ..,λk d=>H.Cj h d _⟩
def pF (r:dP):dP:={r with st:= .busy}
def Cy (r:dP)(e:E):dP:={r with st:= .done,pend:=some e}
theorem pP {args:List V}{h:H}{r:dP}(d:h.get id=some (.loop r))(j:args.length=r.pars.length)(iS:r.st= .ready)
  (f: ∀h1,h1.get id=some (.loop (pF r))->h1.next=h.next->(∀k,k≠id->h1.get k=h.get k)->Wp p (some id) r.assign ((r.pars.zip args).foldl (λvs q=>vs.set q.1 q.2) r.vars) h (λe vars h'=>e= .norm/\h'=h/\Wp p (some id) r.body vars h1 (Jp id Q))):Ey p id args h Q:=by
 refine Ph d j ((f _ (H.aJ h id _) rfl λk i=>H.Cj h i _).mono ?_)
 rintro e vars h' ⟨rfl,rfl,w⟩
 exact⟨rfl,r,d,iS,w⟩
theorem pQ {h:H}{r:dP}(iS:r.st= .ready)(d:r.pend=none)(f:h.get id=some (.loop (pF r)))(q:Q (.bool true) (h.set id (some (.loop r)))):Jp id Q .norm vars h:=by
 refine⟨_,f,?_⟩
 have e:({pF r with st:= .ready,pend:=none}:dP)=r:=by
  cases r;simp only at iS d;subst iS d
  rfl
 show Q (.bool true) (h.set id (some (.loop {pF r with st:= .ready,pend:=none})));rw[e];exact q
theorem On {h:H}{r:dP}(d:h.get id=some (.loop (pF r)))(q:Q (.bool false) (h.set id (some (.loop (Cy r .ret))))):Jp id Q .ret vars h:=⟨_,d,q⟩
theorem sJ {g:Nat}{args:List V}{h:H}{r:dP}(k: ∀r',r'=r->Ev p g args (h.new (.loop r')) Q):Ev p g args (h.new (.loop r)) Q:=k r rfl
theorem YI {a c:C}{h:H}{Q:E->List V->H->Prop}(J:List V->H->Prop)(f:Wp p rd a vars h (λe v h'=>e= .norm/\J v h'\/e≠ .norm/\Q e v h'))(h2: ∀v h',J v h'->Wp p rd c v h' Q):Wp p rd (.seq a c) vars h Q:=by
 rw[akH];refine f.mono λe v h' x=>?_
 rcases x with ⟨rfl,x⟩|⟨d,x⟩
 .exact h2 v h' x
 .cases e
  .exact absurd rfl d
  .exact x
  .exact x
theorem dG {a c:C}{k:Nat}{h:H}{Q:E->List V->H->Prop}(J:List V->H->Prop)(d:Wp p rd (.loop a) vars h (λe v h'=>e= .exit k/\J v h'))(h2: ∀v h',J v h'->Wp p rd c v h' Q):Wp p rd (.loop a) vars h (tP k (Dm p rd c Q)):=
 d.mono λe v h' x=>by
  obtain⟨rfl,x⟩:=x;rw[yH,Lg];exact h2 v h' x
theorem Pl {p:Nat->Option Ay.Fn}{a b c:C}{h:H}{Q:E->List V->H->Prop}(J:List V->H->Prop)(i:Hw p rd a b vars h (λe vs h'=>e= .norm/\J vs h'\/e≠ .norm/\Q e vs h') v)(h2: ∀vs h',J vs h'->Wp p rd c vs h' Q):Hw p rd a b vars h (Dm p rd c Q) v:=by
 have d: ∀e vs h',(e= .norm/\J vs h'\/e≠ .norm/\Q e vs h')->Dm p rd c Q e vs h':=λe vs h' q=>by
  rcases q with ⟨rfl,q⟩|⟨f,q⟩
  .exact h2 vs h' q
  .cases e
   .exact absurd rfl f
   .exact q
   .exact q
 cases v with
 |bool t=>
  cases t
  .exact Wp.mono (show Wp p rd b vars h _ from i) d
  .exact Wp.mono (show Wp p rd a vars h _ from i) d
 |_=>exact (show False from i).elim
end
end Go.Ay
namespace Go.Pm
section
variable {j p:Nat}
structure Lv where
 gens:wG
 orb:List Nat
 to:Nat->Option (List Nat)
 tr:Nat->Nat
abbrev oL:=Nat->Lv
def Fix (i:Nat)(x:List Nat):Prop:= ∀k,k<i->x.getD k 0=k
def dQ (n:Nat)(τ:oL):Nat->Nat->List Nat->Prop
 |_,0,x=>x=bI n
 |i,d+1,x=> ∃p y h,(τ i).to p=some y/\dQ n τ (i+1) d h/\x=aZ h y
def S (n:Nat)(τ:oL)(i:Nat)(x:List Nat):Prop:=dQ n τ i (n-i) x
section
variable {n:Nat} {τ τ':oL} {x y z:List Nat} {i:Nat}
theorem sH:S n τ n x↔x=bI n:=by unfold S;rw[Nat.sub_self];exact Iff.rfl
theorem oN (hi:i<n):S n τ i x↔ ∃p y h,(τ i).to p=some y/\S n τ (i+1) h/\x=aZ h y:=by
 unfold S;rw[show n-i=(n-(i+1))+1 from oq];exact Iff.rfl
theorem Qm:(d i:Nat)->(x:List Nat)->(∀j,i<=j->j<i+d->τ j=τ' j)->(dQ n τ i d x↔dQ n τ' i d x)
 |0,_,_,_=>Iff.rfl
 |d+1,i,x,h=>by
  simp only[dQ];rw[h i (Nat.le_refl _) oq];have a:=λg=>Qm d (i+1) g (λj b c=>h j oq oq)
  simp only[a]
theorem IN (h: ∀j,i<=j->j<n->τ j=τ' j):S n τ i x↔S n τ' i x:=
 Qm _ _ _ λj a b=>h j a oq
def Inc (n:Nat)(l:wG):Prop:= ∀k,k<l.length-> ¬fG n (· ∈l.take k) (l.getD k [])
structure VG (n j:Nat)(l:Lv):Prop where
 nd:l.orb.Nodup
 base:j∈l.orb
 one:l.to j=some (bI n)
 iff: ∀p,p∈l.orb↔(l.to p).isSome
 cF: ∀p y,l.to p=some y->bJ n y
 fix: ∀p y,l.to p=some y->Fix j y
 maps: ∀p y,l.to p=some y->y.getD j 0=p
 gen: ∀p y,l.to p=some y->fG n (· ∈l.gens) y
 gP: ∀s∈l.gens,bJ n s
 gF: ∀s∈l.gens,Fix j s
 gN:Inc n l.gens
 le: ∀q,l.tr q<=l.gens.length
 zero: ∀q,q∉l.orb->l.tr q=0
theorem VG.lt {l:Lv}(L:VG n j l)(c:j<n)(b:p∈l.orb):p<n:=by
 obtain⟨y,a⟩:=Option.isSome_iff_exists.1 ((L.iff p).1 b);rw[<-L.maps p y a];exact (L.cF p y a).eJ c
theorem VG.to {l:Lv}(L:VG n j l)(a:p∈l.orb): ∃y,l.to p=some y:=Option.isSome_iff_exists.1 ((L.iff p).1 a)
theorem VG.mem {l:Lv}(L:VG n j l){y:List Nat}(h:l.to p=some y):p∈l.orb:=(L.iff p).2 (by rw[h];rfl)
def Cl (n j:Nat)(τ:oL):Prop:= ∀q y,(τ j).to q=some y-> ∀k s,k<(τ j).tr q->(τ j).gens[k]? =some s->
 ∃u,(τ j).to ((aZ y s).getD j 0)=some u/\S n τ (j+1) (aZ (aZ y s) (bY u))
def Full (l:Lv):Prop:= ∀q∈l.orb,l.tr q=l.gens.length
def Dn (n j:Nat)(τ:oL):Prop:=j+1<n-> ∀s∈(τ (j+1)).gens,fG n (· ∈(τ j).gens) s
def oH (n i:Nat)(τ:oL):Prop:= ∀j,i<=j->j<n->VG n j (τ j)/\Cl n j τ/\Full (τ j)/\Dn n j τ
theorem oH.mono (t:oH n i τ){k:Nat}(h:i<=k):oH n k τ:=λj b a=>t j oq a
theorem oH.congr (t:oH n i τ)(h: ∀j,i<=j->j<n->τ j=τ' j):oH n i τ':=λj v l=>by
 obtain⟨a,b,c,d⟩:=t j v l;have e:=h j v l;refine⟨e▸a,λq y m k s o f=>?_,e▸c,λr s f=>?_⟩
 .rw[<-e] at m o f |-
  obtain⟨u,w,B⟩:=b q y m k s o f;exact⟨u,w,(IN λk F A=>h k oq A).1 B⟩
 .rw[<-h (j+1) oq r] at f
  rw[<-e];exact d r s f
theorem Fix.one (n i:Nat)(hi:i<=n):Fix i (bI n):=λk a=>eG oq
theorem Fix.mul (X:bJ n x)(hi:i<=n)(a:Fix i x)(b:Fix i y):Fix i (aZ x y):=λk c=>by
 rw[dA (by rw[X.len];omega),a k c,b k c]
theorem Fix.inv (X:bJ n x)(hi:i<=n)(a:Fix i x):Fix i (bY x):=λk b=>by
 have:=rO X (show k<n by omega);rwa [a k b] at this
theorem Fix.mono (a:Fix j x)(h:i<=j):Fix i x:=λk b=>a k oq
theorem Fix.succ (a:Fix i x)(h:x.getD i 0=i):Fix (i+1) x:=λk b=>by
 by_cases e:k=i
 .rw[e];exact h
 .exact a k oq
theorem Fix.all (X:bJ n x)(a:Fix n x):x=bI n:=by
 refine rL (by rw[X.len,iF]) λk b=>?_
 rw[X.len] at b;rw[a k b,eG b]
theorem fG.fix {L:List Nat->Prop}(a: ∀g,L g->bJ n g)(hi:i<=n)(b: ∀g,L g->Fix i g)(h:fG n L x):Fix i x:=by
 induction h with
 |one=>exact Fix.one n i hi
 |mul hx hg ih=>exact Fix.mul (hx.cF a) hi ih (b _ hg)
theorem oH.IC:(d i:Nat)->i+d=n->oH n i τ-> ∀x,(S n τ i x->bJ n x/\Fix i x)/\(i<n->(S n τ i x↔fG n (· ∈(τ i).gens) x))
 |0,i,h,_,x=>by
  obtain rfl:i=n:=oq
  refine⟨λa=>?_,λh=>oq⟩;rw[sH] at a;subst a;exact⟨bJ.one i,Fix.one i i (Nat.le_refl _)⟩
 |d+1,i,h,t,x=>by
  have hi:i<n:=oq
  have m:=oH.IC d (i+1) oq (t.mono oq);obtain⟨L,C,F,D⟩:=t i (Nat.le_refl _) hi;have v: ∀g,g∈(τ i).gens->bJ n g:=L.gP
  have N: ∀z,S n τ (i+1) z->fG n (· ∈(τ i).gens) z:=by
   intro z f
   by_cases c:i+1<n
   .exact ((m z).2 c|>.1 f).le (fG.kT v) (D c)
   .obtain rfl:i+1=n:=oq
    rw[sH] at f;subst f;exact .one
  have o: ∀u z,S n τ (i+1) u->S n τ (i+1) z->S n τ (i+1) (aZ u z):=by
   intro u z l f
   by_cases c:i+1<n
   .obtain⟨O,_⟩:=t (i+1) oq c
    exact ((m _).2 c).2 ((((m u).2 c).1 l).app O.gP (((m z).2 c).1 f))
   .obtain rfl:i+1=n:=oq
    rw[sH] at l f |-;subst l f;exact cH (bJ.one _)
  have w:S n τ (i+1) (bI n):=by
   by_cases c:i+1<n
   .exact ((m _).2 c).2 .one
   .obtain rfl:i+1=n:=oq
    exact sH.2 rfl
  have b:S n τ i x->fG n (· ∈(τ i).gens) x:=by
   intro a;obtain⟨p,y,g,r,A,rfl⟩:=(oN hi).1 a;exact (N g A).app v (L.gen p y r)
  refine⟨λa=>⟨(b a).cF v,(b a).fix v oq L.gF⟩,λ_=>⟨b,λK=>?_⟩⟩;clear b
  induction K with
  |one=>exact (oN hi).2 ⟨i,bI n,bI n,L.one,w,(cH (bJ.one n)).symm⟩
  |mul hx a hind=>
   rename_i Q s;obtain⟨q,y,g,r,A,e⟩:=(oN hi).1 hind;obtain⟨k,J,B⟩:=List.mem_iff_getElem.1 a;obtain⟨u,l,P⟩:=C q y r k s (by rw[F q (L.mem r)];exact J) (by rw[List.getElem?_eq_getElem J,B]);refine (oN hi).2 ⟨_,u,aZ g (aZ (aZ y s) (bY u)),l,o _ _ A P,?_⟩;have G:=((m g).1 A).1;have Y:=L.cF q y r;have U:=L.cF _ u l;have Sp:=v s a;rw[e,aX G Y Sp,aX G ((Y.mul Sp).mul U.inv) U,aX (Y.mul Sp) U.inv U,dX U,cH (Y.mul Sp)]
theorem oH.gen (t:oH n i τ)(hi:i<n):S n τ i x↔fG n (· ∈(τ i).gens) x:=(oH.IC (n-i) i oq t x).2 hi
theorem oH.cF (t:oH n i τ)(hi:i<=n)(h:S n τ i x):bJ n x:=((oH.IC (n-i) i oq t x).1 h).1
theorem oH.fix (t:oH n i τ)(hi:i<=n)(h:S n τ i x):Fix i x:=((oH.IC (n-i) i oq t x).1 h).2
theorem oH.kT (t:oH n i τ)(hi:i<=n):oK n (S n τ i):=by
 by_cases h:i<n
 .have g:=fG.kT (n:=n) (L:=(· ∈(τ i).gens)) (t i (Nat.le_refl _) h).1.gP
  exact⟨λa=>t.cF hi a,(t.gen h).2 g.one,λa b=>(t.gen h).2 (g.mul ((t.gen h).1 a) ((t.gen h).1 b)),λa=>(t.gen h).2 (g.inv ((t.gen h).1 a))⟩
 .obtain rfl:i=n:=oq
  refine⟨λa=>t.cF hi a,sH.2 rfl,λa b=>?_,λa=>?_⟩
  .rw[sH] at a b |-;subst a b;exact cH (bJ.one _)
  .rw[sH] at a |-;subst a;exact xT _
theorem oH.sift (t:oH n i τ)(hi:i<n)(h:S n τ i x): ∃y,(τ i).to (x.getD i 0)=some y/\S n τ (i+1) (aZ x (bY y)):=by
 obtain⟨p,y,g,b,a,rfl⟩:=(oN hi).1 h;have L:=(t i (Nat.le_refl _) hi).1;have c:=t.mono (Nat.le_succ i);have G:=c.cF hi a;have Y:=L.cF p y b
 have e:(aZ g y).getD i 0=p:=by
  rw[dA (by rw[G.len];exact hi),c.fix hi a i oq,L.maps p y b]
 refine⟨y,by rw[e];exact b,?_⟩;rw[aX G Y Y.inv,fH Y,cH G];exact a
theorem oH.back (t:oH n i τ)(hi:i<n){y:List Nat}(b:bJ n x)(a:(τ i).to (x.getD i 0)=some y)(h2:S n τ (i+1) (aZ x (bY y))):S n τ i x:=by
 have Y:=(t i (Nat.le_refl _) hi).1.cF _ y a;refine (oN hi).2 ⟨_,y,_,a,h2,?_⟩;rw[aX b Y.inv Y,dX Y,cH b]
theorem oH.amW (t:oH n i τ)(hi:i<n):S n τ (i+1) x↔S n τ i x/\x.getD i 0=i:=by
 have L:=(t i (Nat.le_refl _) hi).1;have a:=t.mono (Nat.le_succ i);constructor
 .intro h
  have e:=a.fix hi h i oq;have X:=a.cF hi h;refine⟨t.back hi X (y:=bI n) (by rw[e];exact L.one) ?_,e⟩;rw[xT,cH X];exact h
 .rintro⟨h,e⟩
  obtain⟨y,b,c⟩:=t.sift hi h;rw[e,L.one] at b;cases b;rwa [xT,cH (t.cF oq h)] at c
theorem oH.Xi (t:oH n i τ):{k:Nat}->i<=k->k<=n->(S n τ k x↔S n τ i x/\Fix k x):=by
 intro k
 induction k with
 |zero=>
  intro h _;obtain rfl:i=0:=oq
  exact⟨λh=>⟨h,λ_ h=>oq⟩,λh=>h.1⟩
 |succ k ih=>
  intro l f
  by_cases e:i=k+1
  .subst e
   exact⟨λh=>⟨h,t.fix f h⟩,λh=>h.1⟩
  .have a:=ih oq oq
   rw[(t.mono oq).amW (i:=k) f,a];constructor
   .rintro⟨⟨b,c⟩,d⟩;exact⟨b,c.succ d⟩
   .rintro⟨b,c⟩;exact⟨⟨b,c.mono oq⟩,c k oq⟩
end
end
end Go.Pm
namespace Go.Pm
section
variable {j k q:Nat}
def tG (τ:oL)(i:Nat)(l:Lv):oL:=λj=>if j=i then l else τ j
theorem Cz (τ:oL)(i:Nat)(l:Lv):tG τ i l i=l:=by simp [tG]
theorem dZ (τ:oL){i:Nat}(l:Lv)(h:j≠i):tG τ i l j=τ j:=by simp [tG,h]
def Lv.tick (l:Lv)(q:Nat):Lv:={l with tr:=λr=>if r=q then l.tr q+1 else l.tr r}
def Lv.reach (l:Lv)(p:Nat)(y:List Nat):Lv:={l with orb:=l.orb++ [p],to:=λr=>if r=p then some y else l.to r}
def Lv.more (l:Lv)(r:List Nat):Lv:={l with gens:=l.gens++ [r]}
structure CI (n i:Nat)(τ:oL):Prop where
 nY:VG n i (τ i)
 cl:Cl n i τ
 dn:Dn n i τ
 up:oH n (i+1) τ
section
variable {n:Nat} {τ τ':oL} {x y z s u w:List Nat} {i:Nat}
theorem CI.full (c:CI n i τ)(a:Full (τ i)):oH n i τ:=λj d b=>by
 by_cases e:j=i
 .subst e;exact⟨c.nY,c.cl,a,c.dn⟩
 .exact c.up j oq b
theorem afX {l:Lv}(h:i<k):S n (tG τ i l) k x↔S n τ k x:=IN λj a _=>dZ τ l oq
theorem oH.ahU {l:Lv}(h:i<k)(t:oH n k τ):oH n k (tG τ i l):=t.congr λj a _=>(dZ τ l oq).symm
theorem CI.Jk (c:CI n i τ)(hi:i<n)(d:(τ i).to q=some y)(f:s∈(τ i).gens)(a:(τ i).to ((aZ y s).getD i 0)=some u):
  bJ n (aZ (aZ y s) (bY u))/\Fix (i+1) (aZ (aZ y s) (bY u))/\fG n (· ∈(τ i).gens) (aZ (aZ y s) (bY u)):=by
 have L:=c.nY
 have Y:=L.cF q y d
 have U:=L.cF _ u a
 have Sp:=L.gP s f
 have h:=Y.mul Sp
 have b:fG n (· ∈(τ i).gens) (aZ (aZ y s) (bY u)):=((L.gen q y d).mul f).app L.gP ((L.gen _ u a).inv L.gP)
 refine⟨h.mul U.inv,Fix.succ (b.fix L.gP oq L.gF) ?_,b⟩
 rw[dA (by rw[h.len];exact hi)]
 have:=rO U hi
 rwa [L.maps _ u a] at this
theorem CI.tick (c:CI n i τ)(B:(τ i).to q=some y)(K:(τ i).tr q=k)(A:(τ i).gens[k]? =some s)(G:(τ i).to ((aZ y s).getD i 0)=some u)
  (O:S n τ (i+1) (aZ (aZ y s) (bY u))):CI n i (tG τ i ((τ i).tick q)):=by
 have L:=c.nY
 have f:k<(τ i).gens.length:=(List.getElem?_eq_some_iff.1 A).1
 refine⟨?_,?_,?_,c.up.ahU oq⟩
 .rw[Cz]
  refine⟨L.nd,L.base,L.one,L.iff,L.cF,L.fix,L.maps,L.gen,L.gP,L.gF,L.gN,λr=>?_,λr m=>?_⟩
  .show (if r=q then (τ i).tr q+1 else (τ i).tr r)<=_
   split
   .rw[K];exact f
   .exact L.le r
  .show (if r=q then (τ i).tr q+1 else (τ i).tr r)=0
   have:r≠q:=λe=>m (by rw[e];exact L.mem B)
   rw[if_neg this];exact L.zero r m
 .intro r v l j t F h
  rw[Cz] at l F h |-
  simp only[afX (Nat.lt_succ_self i)]
  have b:j<(if r=q then (τ i).tr q+1 else (τ i).tr r):=F
  by_cases e:r=q/\j=k
  .obtain⟨rfl,rfl⟩:=e
   have d:(τ i).to r=some v:=l
   have a:(τ i).gens[j]? =some t:=h
   rw[B] at d;cases d
   rw[A] at a;cases a
   exact⟨u,G,O⟩
  .refine c.cl r v l j t ?_ h
   split at b
   .rename_i e2;subst e2
    have:j≠k:=λN=>e ⟨rfl,N⟩
    omega
   .exact b
 .intro J g o
  rw[dZ τ _ oq] at o
  rw[Cz]
  exact c.dn J g o
theorem CI.reach (c:CI n i τ)(hi:i<n){p:Nat}(B:(τ i).to p=none)(Y:bJ n y)(F:Fix i y)(U:y.getD i 0=p)(Q:fG n (· ∈(τ i).gens) y):CI n i (tG τ i ((τ i).reach p y)):=by
 have L:=c.nY;have l:p∉(τ i).orb:=λh=>by have:=(L.iff p).1 h;rw[B] at this;cases this
 have f: ∀r v,((τ i).reach p y).to r=some v->(r=p/\v=y)\/(r≠p/\(τ i).to r=some v):=by
  intro r v h;have o:(if r=p then some y else (τ i).to r)=some v:=h;split at o
  .rename_i e;cases o;exact .inl ⟨e,rfl⟩
  .rename_i e;exact .inr ⟨e,o⟩
 have d: ∀r v,(τ i).to r=some v->((τ i).reach p y).to r=some v:=by
  intro r v h;have:r≠p:=λe=>by rw[e,B] at h;cases h
  show (if r=p then some y else (τ i).to r)=some v;rw[if_neg this];exact h
 refine⟨?_,?_,?_,c.up.ahU oq⟩
 .rw[Cz]
  refine⟨?_,List.mem_append_left _ L.base,d _ _ L.one,λr=>?_,λr v h=>?_,λr v h=>?_,λr v h=>?_,λr v h=>?_,L.gP,L.gF,L.gN,L.le,λr P=>?_⟩
  .show ((τ i).orb++ [p]).Nodup
   rw[List.nodup_append];exact⟨L.nd,by simp,λa W b J=>by simp at J;subst J;exact λe=>l (e▸W)⟩
  .show r∈(τ i).orb++ [p]↔(if r=p then some y else (τ i).to r).isSome
   by_cases e:r=p
   .subst e;simp
   .rw[if_neg e,<-L.iff r];simp [e]
  .rcases f r v h with ⟨_,rfl⟩|⟨_,h⟩
   .exact Y
   .exact L.cF r v h
  .rcases f r v h with ⟨_,rfl⟩|⟨_,h⟩
   .exact F
   .exact L.fix r v h
  .rcases f r v h with ⟨rfl,rfl⟩|⟨_,h⟩
   .exact U
   .exact L.maps r v h
  .rcases f r v h with ⟨_,rfl⟩|⟨_,h⟩
   .exact Q
   .exact L.gen r v h
  .exact L.zero r λh=>P (List.mem_append_left _ h)
 .intro r v K j t A G
  rw[Cz] at K A G |-;simp only[afX (Nat.lt_succ_self i)];rcases f r v K with ⟨rfl,rfl⟩|⟨_,h⟩
  .have hz:(τ i).tr r=0:=L.zero r l
   have N:j<(τ i).tr r:=A;omega
  .obtain⟨a,Z,O⟩:=c.cl r v h j t A G
   exact⟨a,d _ _ Z,O⟩
 .intro R g m
  rw[dZ τ _ oq] at m;rw[Cz];exact c.dn R g m
theorem CI.found (c:CI n i τ)(hi:i<n){p:Nat}(b:(τ i).to q=some y)(v:(τ i).tr q=k)(o:(τ i).gens[k]? =some s)(l:(aZ y s).getD i 0=p)(m:(τ i).to p=none):
  CI n i (tG τ i (((τ i).tick q).reach p (aZ y s))):=by
 have L:=c.nY
 have a:s∈(τ i).gens:=List.mem_of_getElem? o
 have Y:=L.cF q y b
 have Sp:=L.gP s a
 have r:=c.reach hi m (Y.mul Sp) (Fix.mul Y oq (L.fix q y b) (L.gF s a)) l ((L.gen q y b).mul a)
 have f:q≠p:=λe=>by rw[e,m] at b;cases b
 have d:(tG τ i ((τ i).reach p (aZ y s)) i).to p=some (aZ y s):=by
  rw[Cz];show (if p=p then some (aZ y s) else (τ i).to p)=_;rw[if_pos rfl]
 have A:S n (tG τ i ((τ i).reach p (aZ y s))) (i+1) (aZ (aZ y s) (bY (aZ y s))):=by
  rw[fH (Y.mul Sp)];exact (r.up.kT oq).one
 have t:=r.tick (q:=q) (k:=k) (y:=y) (s:=s) (u:=aZ y s) (by
  rw[Cz];show (if q=p then some (aZ y s) else (τ i).to q)=_
  rw[if_neg f];exact b) (by rw[Cz];exact v) (by rw[Cz];exact o) (by rw[l];exact d) A
 have e:tG (tG τ i ((τ i).reach p (aZ y s))) i ((tG τ i ((τ i).reach p (aZ y s)) i).tick q)=tG τ i (((τ i).tick q).reach p (aZ y s)):=by
  funext j
  by_cases h:j=i
  .subst h;rw[Cz,Cz,Cz];rfl
  .rw[dZ _ _ h,dZ _ _ h,dZ _ _ h]
 rwa [e] at t
structure Vx (n i:Nat)(x:List Nat)(τ τ':oL):Prop where
 low: ∀j,j<i->τ' j=τ j
 tw:oH n i τ'
 old: ∀s∈(τ i).gens,s∈(τ' i).gens
 new: ∀s∈(τ' i).gens,fG n (λg=>g∈(τ i).gens\/g=x) s
 has:fG n (· ∈(τ' i).gens) x
theorem Vx.S (a:Vx n i x τ τ')(t:oH n i τ)(hi:i<n)(h:Go.Pm.S n τ i z):Go.Pm.S n τ' i z:=
 (a.tw.gen hi).2 (((t.gen hi).1 h).mono a.old)
theorem CI.added (c:CI n i τ)(d:i+1<n)(a:Vx n (i+1) z τ τ')(t:fG n (· ∈(τ i).gens) z):CI n i τ'/\Go.Pm.S n τ' (i+1) z:=by
 have e:=a.low i oq;refine⟨⟨e▸c.nY,λq y l k s f m=>?_,λh g b=>?_,a.tw⟩,(a.tw.gen d).2 a.has⟩
 .rw[e] at l f m |-
  obtain⟨u,r,o⟩:=c.cl q y l k s f m;exact⟨u,r,a.S c.up d o⟩
 .rw[e]
  refine (a.new g b).le (fG.kT c.nY.gP) λg b=>?_
  rcases b with b|rfl
  .exact c.dn d g b
  .exact t
def Wg (n:Nat)(τ:oL):Nat->Nat->List Nat->Nat×List Nat
 |0,i,x=>(i,x)
 |d+1,i,x=>match (τ i).to (x.getD i 0) with
  |none=>(i,x)
  |some y=>Wg n τ d (i+1) (if x.getD i 0=i then x else aZ x (bY y))
structure SfP (n i:Nat)(τ:oL)(x:List Nat)(k:Nat)(r:List Nat):Prop where
 ge:i<=k
 le:k<=n
 cF:bJ n r
 fix:Fix k r
 out:k<n->(τ k).to (r.getD k 0)=none
 rest:i<n-> ∃w,fG n (· ∈(τ i).gens) w/\x=aZ r w
theorem QY:(d i:Nat)->(x:List Nat)->i+d=n->oH n i τ->bJ n x->Fix i x->SfP n i τ x (Wg n τ d i x).1 (Wg n τ d i x).2
 |0,i,x,h,_,X,F=>⟨Nat.le_refl _,by show i<=n;omega,X,F,λa=>by have:i<n:=a;omega,λa=>oq⟩
 |d+1,i,x,h,t,X,F=>by
  have hi:i<n:=oq
  obtain⟨L,C,G,D⟩:=t i (Nat.le_refl _) hi;unfold Wg
  cases e:(τ i).to (x.getD i 0) with
  |none=>exact⟨Nat.le_refl _,by show i<=n;omega,X,F,λ_=>e,λ_=>⟨bI n,.one,(cH X).symm⟩⟩
  |some y=>
   simp only;have Y:=L.cF _ y e
   have m: ∀f,f=(if x.getD i 0=i then x else aZ x (bY y))->bJ n f/\Fix (i+1) f/\x=aZ f y:=by
    intro f a
    by_cases l:x.getD i 0=i
    .rw[if_pos l] at a
     subst a;rw[l,L.one] at e;cases e;exact⟨X,F.succ l,(cH X).symm⟩
    .rw[if_neg l] at a
     subst a;refine⟨X.mul Y.inv,(Fix.mul X oq F (Fix.inv Y oq (L.fix _ y e))).succ ?_,by rw[aX X Y.inv Y,dX Y,cH X]⟩;rw[dA (by rw[X.len];exact hi)];have:=rO Y hi;rwa [L.maps _ y e] at this
   obtain⟨B,F2,ex⟩:=m _ rfl;have b:=QY d (i+1) _ oq (t.mono oq) B F2;refine⟨by have:=b.ge;omega,b.le,b.cF,b.fix,b.out,λ_=>?_⟩
   by_cases o:i+1<n
   .obtain⟨w,v,A⟩:=b.rest o
    have c:fG n (· ∈(τ i).gens) w:=v.le (fG.kT L.gP) (D o);refine⟨aZ w y,c.app L.gP (L.gen _ y e),?_⟩;rw[<-aX b.cF (c.cF L.gP) Y,<-A];exact ex
   .have r:d=0:=oq
    subst r;exact⟨y,L.gen _ y e,ex⟩
theorem SfP.in (f:SfP n i τ x n w)(t:oH n i τ)(hi:i<n):S n τ i x:=by
 obtain⟨v,a,e⟩:=f.rest hi;have:=f.fix.all f.cF;rw[this,dK (a.cF (t i (Nat.le_refl _) hi).1.gP)] at e;subst e;exact (t.gen hi).2 a
theorem SfP.alZ (f:SfP n i τ x k w)(t:oH n i τ)(a:k<n)(c:i<=j)(h2:j<=k): ¬S n τ j w:=by
 intro h;have l:=t.mono c;have d:=(l.Xi h2 oq).2 ⟨h,f.fix⟩;obtain⟨y,b,_⟩:=(t.mono f.ge).sift a d;rw[f.out a] at b;cases b
def push (τ:oL)(i k:Nat)(r:List Nat):oL:=λj=>if i<=j/\j<=k then (τ j).more r else τ j
theorem FZ (τ:oL){i:Nat}(r:List Nat)(a:i<=j)(h2:j<=k):push τ i k r j=(τ j).more r:=by simp [push,a,h2]
theorem Kt (τ:oL){i:Nat}(r:List Nat)(h:j<i\/k<j):push τ i k r j=τ j:=by
 unfold push;rw[if_neg oq]
structure Ko (n i k:Nat)(r:List Nat)(τ τ':oL)(j:Nat):Prop where
 low: ∀m,m<j->τ' m=push τ i k r m
 tw:oH n j τ'
 gens:j<=k->(τ' j).gens=(τ j).gens++ [r]
 same:k<j->τ' j=τ j
theorem Ko.start (f:SfP n i τ x k w)(t:oH n i τ)(_:k<n):Ko n i k w τ (push τ i k w) (k+1):=
 ⟨λ_ _=>rfl,(t.mono (by have:=f.ge;omega)).congr λj a _=>(Kt τ w (.inr oq)).symm,λh=>oq,λ_=>Kt τ w (.inr oq)⟩
theorem Inc.snoc {l:wG}{w:List Nat}(h:Inc n l)(b: ¬fG n (· ∈l) w):Inc n (l++ [w]):=λk a=>by
 rw[List.length_append] at a
 by_cases e:k<l.length
 .rw[List.take_append_of_le_length oq,List.getD_eq_getElem?_getD,List.getElem?_append_left e,<-List.getD_eq_getElem?_getD]
  exact h k e
 .obtain rfl:k=l.length:=by simp at a;omega
  rw[List.take_left' rfl,List.getD_eq_getElem?_getD,List.getElem?_append_right (Nat.le_refl _),Nat.sub_self];exact b
theorem Inc.two {l:wG}(h:Inc n l)(F: ∀g∈l,bJ n g)(k:Nat)(K:k<=l.length):2^k<=n^n:=by
 have v: ∀k,k<=l.length-> ∃L:wG,L.Nodup/\L.length=2^k/\ ∀x∈L,fG n (· ∈l.take k) x:=λk=>by
  induction k with
  |zero=>exact λ_=>⟨[bI n],by simp,rfl,λx f=>by rw[List.mem_singleton.1 f];exact .one⟩
  |succ k ih=>
   intro K;obtain⟨L,nd,J,m⟩:=ih oq;have d: ∀g∈l.take k,bJ n g:=λg o=>F g (List.mem_of_mem_take o)
   have r:l.getD k []∈l:=by rw[List.getD_eq_getElem?_getD,List.getElem?_eq_getElem oq];exact List.getElem_mem _
   have G:=F _ r
   have e1:l.take (k+1)=l.take k++ [l.getD k []]:=by
    rw[List.take_add_one,List.getD_eq_getElem?_getD,List.getElem?_eq_getElem oq];rfl
   refine⟨L++L.map λx=>aZ x (l.getD k []),?_,by rw[List.length_append,List.length_map,J,Nat.pow_succ];omega,λx f=>?_⟩
   .rw[List.nodup_append]
    refine⟨nd,?_,λa B b A e=>?_⟩
    .rw[List.nodup_iff_pairwise_ne,List.pairwise_map]
     exact (List.nodup_iff_pairwise_ne.1 nd).imp_of_mem λ{a b} B A ne e=>ne (uU ((m a B).cF d) ((m b A).cF d) G e)
    .obtain⟨c,t,rfl⟩:=List.mem_map.1 A
     have C:=(m c t).cF d;refine h k oq ?_
     have:l.getD k []=aZ (bY c) a:=by
      rw[e,<-aX C.inv C G,dX C,dK G]
     rw[this];exact ((m c t).inv d).app d (m a B)
   .rw[e1]
    have sub: ∀g,g∈l.take k->g∈l.take k++ [l.getD k []]:=λg o=>List.mem_append_left _ o
    rcases List.mem_append.1 f with f|f
    .exact (m x f).mono sub
    .obtain⟨c,t,rfl⟩:=List.mem_map.1 f
     exact ((m c t).mono sub).mul (List.mem_append_right _ (List.mem_singleton.2 rfl))
 obtain⟨L,nd,J,m⟩:=v k K;rw[<-J];exact Xg nd λx f=>(m x f).cF λg o=>F g (List.mem_of_mem_take o)
theorem Ko.ci (f:SfP n i τ x k w)(t:oH n i τ)(R:k<n)(a:Ko n i k w τ τ' (j+1))(A:i<=j)(h2:j<=k):CI n j τ':=by
 have P:j<n:=oq
 obtain⟨L,C,Z,D⟩:=t j A P;have e:τ' j=(τ j).more w:=(a.low j oq).trans (FZ τ w A h2);have U:=t.mono A;have B: ¬fG n (· ∈(τ j).gens) w:=λW=>f.alZ t R A h2 ((U.gen P).2 W)
 have J: ∀z,S n τ (j+1) z->S n τ' (j+1) z:=by
  intro z K
  by_cases v:j+1<n
  .have F:=t.mono (show i<=j+1 by omega)
   refine (a.tw.gen v).2 (((F.gen v).1 K).mono λg b=>?_)
   by_cases l:j+1<=k
   .rw[a.gens l];exact List.mem_append_left _ b
   .rw[a.same oq];exact b
  .obtain rfl:j+1=n:=oq
   rw[sH] at K |-;exact K
 have d: ∀g,g∈(τ j).gens->g∈(τ j).gens++ [w]:=λg b=>List.mem_append_left _ b
 have r: ∀g,g∈(τ j).gens++ [w]->bJ n g:=λg b=>by
  rcases List.mem_append.1 b with b|b
  .exact L.gP g b
  .simp at b;subst b;exact f.cF
 refine⟨?_,λq y N m s O c=>?_,λv s c=>?_,a.tw⟩
 .rw[e]
  refine⟨L.nd,L.base,L.one,L.iff,L.cF,L.fix,L.maps,λp y h=>(L.gen p y h).mono d,r,λg b=>?_,?_,λq=>?_,L.zero⟩
  .rcases List.mem_append.1 b with b|b
   .exact L.gF g b
   .simp at b;subst b;exact f.fix.mono h2
  .exact L.gN.snoc B
  .show (τ j).tr q<=((τ j).gens++ [w]).length
   have:=L.le q;simp;omega
 .rw[e] at N O c |-
  have G:m<(τ j).tr q:=O;have o:((τ j).gens++ [w])[m]? =some s:=c;rw[List.getElem?_append_left (by have:=L.le q;omega)] at o;obtain⟨u,Y,Q⟩:=C q y N m s G o;exact⟨u,Y,J _ Q⟩
 .rw[e]
  show fG n (· ∈(τ j).gens++ [w]) s
  by_cases l:j+1<=k
  .rw[a.gens l] at c
   rcases List.mem_append.1 c with c|c
   .exact (D v s c).mono d
   .simp at c;subst c
    exact fG.of r (List.mem_append_right _ (by simp))
  .rw[a.same oq] at c
   exact (D v s c).mono d
theorem Ko.next {b:oL}(a:Ko n i k w τ τ' (j+1))(c:i<=j)(h2:j<=k)(low: ∀m,m<j->b m=τ' m)(g:(b j).gens=(τ' j).gens)(t:oH n j b):Ko n i k w τ b j:=
 ⟨λm d=>(low m d).trans (a.low m oq),t,λ_=>by rw[g,a.low j oq,FZ τ w c h2];rfl,λh=>oq⟩
theorem Ko.done (f:SfP n i τ x k w)(t:oH n i τ)(X:bJ n x)(r:k<n)(a:Ko n i k w τ τ' i):Vx n i x τ τ':=by
 have hi:i<n:=by have:=f.ge;omega
 have L:=(t i (Nat.le_refl _) hi).1;have c:=a.gens f.ge;obtain⟨v,l,e⟩:=f.rest hi;have V:=l.cF L.gP;refine⟨λj m=>(a.low j m).trans (Kt τ w (.inl m)),a.tw,λs d=>?_,λs d=>?_,?_⟩
 .rw[c];exact List.mem_append_left _ d
 .have b: ∀g,(g∈(τ i).gens\/g=x)->bJ n g:=λg c=>by
   rcases c with c|rfl
   .exact L.gP g c
   .exact X
  rw[c] at d;rcases List.mem_append.1 d with d|d
  .exact fG.of b (.inl d)
  .simp at d;subst d
   have o:s=aZ x (bY v):=by rw[e,aX f.cF V V.inv,fH V,cH f.cF]
   rw[o];exact (fG.of b (.inr rfl)).app b ((l.mono λg c=>Or.inl c).inv b)
 .have b: ∀g,g∈(τ' i).gens->bJ n g:=(a.tw i (Nat.le_refl _) hi).1.gP
  rw[e];exact (fG.of b (by rw[c];exact List.mem_append_right _ (by simp))).app b (l.mono λg h=>by rw[c];exact List.mem_append_left _ h)
theorem Vx.none (t:oH n i τ)(hi:i<n)(h:Go.Pm.S n τ i x):Vx n i x τ τ:=by
 have L:=(t i (Nat.le_refl _) hi).1
 have c: ∀g,(g∈(τ i).gens\/g=x)->bJ n g:=λg b=>by
  rcases b with b|rfl
  .exact L.gP g b
  .exact t.cF oq h
 exact⟨λ_ _=>rfl,t,λ_ a=>a,λs a=>fG.of c (.inl a),(t.gen hi).1 h⟩
theorem VG.many {l:Lv}(L:VG n j l)(a:n<=20):l.gens.length<=1000:=by
 have h:=L.gN.two L.gP _ (Nat.le_refl _);have c:n^n<=20^20:=Nat.le_trans (Nat.pow_le_pow_left a n) (Nat.pow_le_pow_right oq a);refine Nat.le_of_not_lt λf=>?_
 have b:2^101<=2^l.gens.length:=Nat.pow_le_pow_right oq oq;have d:=Nat.le_trans b (Nat.le_trans h c);simp at d
def VY (n:Nat):oL:=λj=>⟨[], [j],λp=>if p=j then some (bI n) else none,λ_=>0⟩
theorem WG (n:Nat):oH n 0 (VY n):=λj _ f=>by
 refine⟨⟨by simp [VY],by simp [VY],by simp [VY],λp=>?_,λp y h=>?_,λp y h=>?_,λp y h=>?_,λp y h=>?_,λs c=>?_,λs c=>?_,λk a=>by simp [VY] at a,λq=>Nat.le_refl _,λ_ _=>rfl⟩,λq y l k s a=>?_,λq _=>rfl,λ_ s c=>?_⟩
 .show p∈ [j]↔(if p=j then some (bI n) else none).isSome
  by_cases e:p=j<;>simp [e]
 all_goals first
  |(have b:(if p=j then some (bI n) else none)=some y:=h
    split at b
    .rename_i e
     cases b
     first
      |exact bJ.one n
      |exact Fix.one n j oq
      |(rw[e];exact eG f)
      |exact .one
    .cases b)
  |(cases c;done)
  |(have d:k<0:=a;omega)
end
end
end Go.Pm
namespace Go.Proofs.YtoighkablmjfeaaGreat
open Go Go.Ay Go.Pm
def Slot (W:Nat->Prop)(h:H)(v:V):Option (List Nat)->Prop
 |none=>v= .aH
 |some y=>PV W h v y
def tC (F:Nat->V)(s:Nat):V:=F (s/2*194+s%2)
def WT (n L:Nat)(F:Nat->V)(id:Nat):Prop:=id=L\/ ∃s,s<2*n/\ ∃off len c,tC F s= .sl id off len c
structure qB (h:H)(n tid L:Nat)(F:Nat->V)(τ:oL):Prop where
 t:h.get tid=some (.cells false [aC n,.sl L 0 n (.kn n)])
 l:h.get L=some (.cells false (rc (n*194) F))
 tn:tid<h.next
 ln:L<h.next
 tw: ¬WT n L F tid
 to: ∀j p,j<n->p<64->Slot (WT n L F) h (F (j*194+2+p)) ((τ j).to p)
 iv: ∀j p,j<n->p<64->Slot (WT n L F) h (F (j*194+66+p)) (((τ j).to p).map bY)
 tr: ∀j p,j<n->p<64->F (j*194+130+p)= aC ((τ j).tr p:Nat)
 gens: ∀j,j<n-> ∃vs,dF h (F (j*194)) 1 vs 0/\jI (WT n L F) h vs (τ j).gens
 orb: ∀j,j<n->dF h (F (j*194+1)) 1 (ints (zi (τ j).orb)) 0
 uY: ∀s s',s<2*n->s'<2*n->s≠s'->NI (tC F s) (tC F s')
 ap: ∀s,s<2*n->cW (tC F s) L
section
variable {h h':H} {n tid L:Nat} {F:Nat->V} {τ:oL}
theorem Slot.fx {W:Nat->Prop}{v:V}{o:Option (List Nat)}(s:Slot W h v o)(f:Fx W h h'):Slot W h' v o:=by
 cases o with
 |none=>exact s
 |some y=>exact PV.fx s f
theorem Slot.mE {W W':Nat->Prop}{v:V}{o:Option (List Nat)}(s:Slot W h v o)(a: ∀id,id<h.next->W' id->W id):Slot W' h v o:=by
 cases o with
 |none=>exact s
 |some y=>exact PV.mE s a
theorem Dq (F:Nat->V)(j:Nat):tC F (2*j)=F (j*194):=by
 unfold tC;congr 1;omega
theorem Ho (F:Nat->V)(j:Nat):tC F (2*j+1)=F (j*194+1):=by
 unfold tC;congr 1;omega
theorem qB.own (R:qB h n tid L F τ){s:Nat}(c:s<2*n): ∃ws,dF h (tC F s) 1 ws 0:=by
 rcases Nat.mod_two_eq_zero_or_one s with e|e
 .obtain⟨b,a,_⟩:=R.gens (s/2) om
  exact⟨b,by unfold tC;rw[e];exact a⟩
 .exact⟨_,by unfold tC;rw[e];exact R.orb (s/2) om⟩
theorem qB.AN (R:qB h n tid L F τ){id:Nat}(a:WT n L F id):id<h.next:=by
 rcases a with rfl|⟨s,d,b,len,c,e⟩
 .exact R.ln
 .obtain⟨f,o⟩:=R.own d
  exact (o.in _ _ _ _ e).1
theorem qB.mono (R:qB h n tid L F τ)(f:Fr h h'):qB h' n tid L F τ:=by
 refine⟨by rw[f.get _ R.tn];exact R.t,by rw[f.get _ R.ln];exact R.l,iD R.tn f.next,iD R.ln f.next,R.tw,
  λj p a b=>(R.to j p a b).fx (Fx.of f),λj p a b=>(R.iv j p a b).fx (Fx.of f),R.tr,λj c=>?_,λj c=>(R.orb j c).fr f,R.uY,R.ap⟩
 obtain⟨d,a,b⟩:=R.gens j c;exact⟨d,a.fr f,b.fx (Fx.of f)⟩
theorem qB.cell (R:qB h n tid L F τ){j c:Nat}(a:j<n)(b:c<194):h.cell L (j*194+c)=some (F (j*194+c)):=
 vD R.l (by
         have:(j+1)*194<=n*194:=Nat.mul_le_mul_right _ a
         omega)
theorem qB.Qc (R:qB h n tid L F τ){j c p:Nat}(a:j<n)(b:c+p<194):h.cell L (j*194+c+p)=some (F (j*194+c+p)):=by
 rw[Nat.add_assoc];exact R.cell a b
end
theorem XX {n:Nat}{τ:oL}{d i:Nat}{x:List Nat}(h:(τ i).to (x.getD i 0)=none):Wg n τ (d+1) i x=(i,x):=by
 rw[Wg,h]
theorem WJ {n:Nat}{τ:oL}{d i:Nat}{x z:List Nat}(h:(τ i).to (x.getD i 0)=some z):Wg n τ (d+1) i x=Wg n τ d (i+1) (if x.getD i 0=i then x else aZ x (bY z)):=by
 rw[Wg,h]
theorem abU (h:H)(n tid L:Nat)(F:Nat->V)(τ:oL)(P:V)(x:List Nat)(a:Nat)(hn:n<=64)(h0:0<n)(R:qB h n tid L F τ)(hx:PV (WT n L F) h P x)(X:bJ n x)(W:a<=n)(t:oH n a τ):
  Ev T 250 [.ptr tid 0,P,aC a] h (λv h'=> ∃vr,v= .tup [aC (((Wg n τ (n-a) a x).1:Nat):Int),vr]/\PV (WT n L F) h' vr (Wg n τ (n-a) a x).2/\bJ n (Wg n τ (n-a) a x).2/\Fr h h'):=by
 refine lG ?_
 refine aP (λk' o hh=> ∃(i:Nat) (y:List Nat) (s:V),(∃g:Nat->V,o= [.ptr tid 0,s,g 2,g 3,g 4,aC i,g 6,g 7,g 8,g 9])/\a<=i/\i<=n/\Wg n τ (n-i) i y=Wg n τ (n-a) a x/\
   PV (WT n L F) hh s y/\bJ n y/\Fr h hh/\k'=n-i) (n-a)
  ⟨a,x,P,aD rfl,dN _,W,rfl,hx,X,Fr.refl h,rfl⟩ ?_
 rintro k' o d ⟨i,y,s,⟨g,rfl⟩,N,a4,l,A,Y,f,rfl⟩
 have K:=R.mono f
 have ct:d.cell tid 0=some (aC n):=by rw[H.cell_of K.t];rfl
 have cl:d.cell tid 1=some (.sl L 0 n (.kn n)):=by rw[H.cell_of K.t];rfl
 refine eZ ct cl ?_
 by_cases u:(i:Int)<(n:Int)
 .have b:i<n:=om
  rw[cV u]
  obtain⟨id,a1,J,a3,hc⟩:=A.si.open
  rw[bD,Y.len] at J a3 hc
  have ci:d.cell id (a1+i)=some (aC (y.getD i 0:Nat)):=by rw[hc i b];congr 2;simp [zi,Y.len,b]
  have r:=Y.eJ b
  have lv:=(t i N b).1
  generalize Q:y.getD i 0=k at ci r
  have cb:=K.Qc (c:=66) (p:=k) b om
  have G:=K.iv i k b om
  refine nW ct cl @J.ixa ci cb ?_
  generalize F (i*194+66+k)=U at G cb
  have q:n-i=(n-(i+1))+1:=om
  rw[q] at l
  cases hto:(τ i).to k with
  |none=>
   rw[hto] at G;rw[XX (by rw[Q];exact hto)] at l;have m:U= .aH:=G;subst m;refine aT ?_;rw[<-l];exact⟨s,rfl,A.fx (Fx.of ((Fr.refl d).cU om)),Y,f.cU om⟩
  |some z=>
   rw[hto] at G;rw[WJ (by rw[Q];exact hto),Q] at l;have Z:=lv.cF _ _ hto;have m:PV (WT n L F) d U (bY z):=G;have sn:=Sx m (bJ.ne h0 Z.inv) false;have B:Fr d (H.mk d.tr (d.next+14)):=(Fr.refl d).cU om
   by_cases w:k=i
   .have e0:decide ((k:Int)≠(i:Int))=false:=bZ om
    rw[aS w] at l;refine jX sn @J.ixa ci e0 ?_;rw[fJ i];exact⟨n-(i+1),om,i+1,y,s,aD rfl,om,om,l,A.fx (Fx.of B),Y,f.trans B,rfl⟩
   .have e0:decide ((k:Int)≠(i:Int))=true:=cV om
    rw[aQ w] at l;refine jX sn @J.ixa ci e0 ?_;have a2:=A.fx (Fx.of B);have a0:=m.fx (Fx.of B);have f':=f.trans B;generalize H.mk d.tr (d.next+14)=h3 at*;refine (zD mM.ok s U y (bY z) h3 (by rw[Y.len];omega) a2.si a0.si (λj hj=>by rw[iX,Z.len];exact Y.eJ (by rw[<-Y.len];exact hj))).mono ?_;rintro v h4 nw;have f4:=f'.trans nw.fr;refine aT ?_;rw[fJ i];refine⟨n-(i+1),om,i+1,_,v,aD rfl,om,om,l,nw.pv (λhw=>?_),Y.mul Z.inv,f4,rfl⟩;have:=R.AN hw;have:=f'.next;omega
 .rw[bZ u]
  obtain rfl:i=n:=om
  refine eZ ct cl ?_
  rw[Nat.sub_self] at l
  have O:Wg i τ (i-a) a x=(i,y):=l.symm
  rw[O]
  exact⟨s,rfl,A,Y,f⟩
end Go.Proofs.YtoighkablmjfeaaGreat
namespace Go.Proofs.YtoighkablmjfeaaGreat
open Go Go.Ay Go.Pm
section
variable {h h' h2:H} {n tid L i:Nat} {F F':Nat->V} {τ τ':oL}
theorem XT (b: ∀s,s<2*n->tC F' s=tC F s)(id:Nat):WT n L F' id↔WT n L F id:=by
 unfold WT;constructor
 .rintro (e|⟨s,a,h2⟩)
  .exact .inl e
  .exact .inr ⟨s,a,by rw[<-b s a];exact h2⟩
 .rintro (e|⟨s,a,h2⟩)
  .exact .inl e
  .exact .inr ⟨s,a,by rw[b s a];exact h2⟩
theorem RY {j:Nat}(P: ∀s,s<2*n->tC F' s=tC F s)(a:j<n):F' (j*194)=F (j*194)/\F' (j*194+1)=F (j*194+1):=
 ⟨(Dq F' j).symm.trans ((P _ om).trans (Dq F j)),(Ho F' j).symm.trans ((P _ om).trans (Ho F j))⟩
theorem PV.go {W W':Nat->Prop}{v:V}{l:List Nat}(p:PV W h v l)(f:Fx W h h')(a: ∀id,id<h.next->W' id->W id):PV W' h' v l:=⟨p.si.fx p.off f,p.off.mE p.si a⟩
theorem Slot.go {W W':Nat->Prop}{v:V}{o:Option (List Nat)}(s:Slot W h v o)(f:Fx W h h')(a: ∀id,id<h.next->W' id->W id):Slot W' h' v o:=by
 cases o with
 |none=>exact s
 |some y=>exact PV.go s f a
theorem jI.go {W W':Nat->Prop}{vs:List V}{a:LN}(s:jI W h vs a)(f:Fx W h h')(b: ∀id,id<h.next->W' id->W id):jI W' h' vs a:=s.mono λ_ _ x=>PV.go x f b
theorem qB.cells (R:qB h n tid L F τ)(o:h.next<=h'.next)(y: ∀id,id≠L->id<h.next->h'.get id=h.get id)(B:h'.get L=some (.cells false (rc (n*194) F')))
  (k: ∀s,s<2*n->tC F' s=tC F s) (z: ∀j,j<n->(τ' j).gens=(τ j).gens/\(τ' j).orb=(τ j).orb)
  (v: ∀j p,j<n->p<64->Slot (WT n L F) h' (F' (j*194+2+p)) ((τ' j).to p)) (u: ∀j p,j<n->p<64->Slot (WT n L F) h' (F' (j*194+66+p)) (((τ' j).to p).map bY))
  (r: ∀j p,j<n->p<64->F' (j*194+130+p)= aC ((τ' j).tr p:Nat)):qB h' n tid L F' τ'/\Fx (WT n L F) h h'/\ ∀id,WT n L F' id↔WT n L F id:=by
 have f:Fx (WT n L F) h h':=⟨o,λid b h2=>y id (λe=>h2 (.inl e)) b⟩
 have w:=XT (L:=L) k
 have q:WT n L F'=WT n L F:=funext λid=>propext (w id)
 have A: ∀s,s<2*n-> ∀id a len c,tC F s= .sl id a len c->id<h.next->h'.get id=h.get id:=λs b id a len c e h2=>y id (λe2=>(R.ap s b _ _ _ _ e) e2.symm) h2
 refine⟨⟨?_,B,iD R.tn o,iD R.ln o,by rw[q];exact R.tw,by rw[q];exact v,by rw[q];exact u,r,λj d=>?_,λj d=>?_,λs x b h2 l=>by rw[k s b,k x h2];exact R.uY s x b h2 l,λs b=>by rw[k s b];exact R.ap s b⟩,f,w⟩
 .rw[f.get tid R.tn R.tw];exact R.t
 .obtain⟨G,b,h2⟩:=R.gens j d
  rw[(RY k d).1,q,(z j d).1]
  exact⟨G,b.iU o λid a m c e l=>A (2*j) om id a m c (by rw[Dq];exact e) l,h2.fx f⟩
 .rw[(RY k d).2,(z j d).2]
  exact (R.orb j d).iU o λid a m c e l=>A (2*j+1) om id a m c (by rw[Ho];exact e) l
structure amQ (h h':H)(n tid L:Nat)(F F':Nat->V)(s0:Nat):Prop where
 fx:Fx (WT n L F) h h'
 wt: ∀id,id<h.next->WT n L F' id->WT n L F id
 uY: ∀s s',s<2*n->s'<2*n->s≠s'->NI (tC F' s) (tC F' s')
 ap: ∀s,s<2*n->cW (tC F' s) L
 own: ∀s,s<2*n->s≠s0->tC F' s=tC F s/\ ∀ws,dF h (tC F s) 1 ws 0->dF h' (tC F s) 1 ws 0
theorem qB.amY (R:qB h n tid L F τ){s0 x m:Nat}(w:s0<2*n){ws us:List V}(p:xQ h (tC F s0) x m 1 ws us h2)(f: ∀s,s<2*n->s≠s0->tC F' s=tC F s){O:qD}(d:tC F' s0= .sl h.next 0 (x+m) O)(o:Option Ob):
  amQ h (h2.set L o) n tid L F F' s0:=by
 have l: ∀s,s<2*n-> ∀id a len c,tC F s= .sl id a len c->id<h.next:=λs r id a len c e=>by
  obtain⟨ws,o⟩:=R.own r;exact (o.in _ _ _ _ e).1
 have J:Fx (WT n L F) h h2:=p.fx λid a len c e=> .inr ⟨s0,w,a,len,c,e⟩
 refine⟨J.trans (Fx.set h2 (.inl rfl:WT n L F L) o) (λ_ _ h=>h),λid b z=>?_,λs j b h2 q=>?_,λs b=>?_,λs b q=>⟨f s b q,λws B=>?_⟩⟩
 .rcases z with e|⟨s,r,a,len,c,e⟩
  .exact .inl e
  .by_cases e2:s=s0
   .rw[e2,d] at e;cases e;omega
   .exact .inr ⟨s,r,a,len,c,by rw[<-f s r e2];exact e⟩
 .by_cases e2:s=s0
  .rw[e2,d,f j h2 om]
   intro i o n c e K G t v k
   cases e
   have:=l j h2 _ _ _ _ k
   omega
  .rw[f s b e2]
   by_cases y:j=s0
   .rw[y,d]
    intro i o n c e K G t v k
    cases k
    have:=l s b _ _ _ _ e
    omega
   .rw[f j h2 y];exact R.uY s j b h2 q
 .by_cases e2:s=s0
  .rw[e2,d]
   exact cW.sl (by have:=R.ln;omega)
  .rw[f s b e2];exact R.ap s b
 .refine B.iU (show h.next<=h2.next by rw[p.next];omega) λid a m c e N=>?_
  rw[H.Cj h2 (λe2:id=L=>(R.ap s b _ _ _ _ e) e2.symm)]
  refine p.old id om λA u t v k e2=>?_
  exact R.uY s s0 b w q _ _ _ _ e _ _ _ _ k e2
def F1 (F:Nat->V)(k:Nat)(v:V):Nat->V:=λc=>if c=k then v else F c
theorem qB.slot (R:qB h n tid L F τ){e k m:Nat}(hi:i<n)(W:e<2){ws us:List V}(p:xQ h (F (i*194+e)) k m 1 ws us h2){h3:H}{v:V}{q:qD}(u:q= .un 1\/q= .kn (k+m))(A:v= .sl h.next 0 (k+m) q)(o:h3=h2.set L (some (.cells false (rc (n*194) (F1 F (i*194+e) v)))))
  (a: ∀j,j<n->(τ' j).to=(τ j).to/\(τ' j).tr=(τ j).tr)
  (O:Fx (WT n L F) h h3->(∀id,id<h.next->WT n L (F1 F (i*194+e) v) id->WT n L F id)->(∀s,s<2*n->s≠2*i+e-> ∀ws,dF h (tC F s) 1 ws 0->dF h3 (tC F s) 1 ws 0)->dF h3 v 1 (ws++us) 0->ws.length=k*1/\us.length=m*1->
   (∀j,j<n-> ∃vs,dF h3 (F1 F (i*194+e) v (j*194)) 1 vs 0/\jI (WT n L (F1 F (i*194+e) v)) h3 vs (τ' j).gens)/\ ∀j,j<n->dF h3 (F1 F (i*194+e) v (j*194+1)) 1 (ints (zi (τ' j).orb)) 0)
  (x:ws.length=k*1/\us.length=m*1):
  qB h3 n tid L (F1 F (i*194+e) v) τ'/\Fx (WT n L F) h h3/\ ∀id,id<h.next->WT n L (F1 F (i*194+e) v) id->WT n L F id:=by
 have z: ∀s,s<2*n->s≠2*i+e->tC (F1 F (i*194+e) v) s=tC F s:=λs d h2=>by
  unfold tC F1;rw[aQ om]
 have f:(2*i+e)/2*194+(2*i+e)%2=i*194+e:=om
 have y:tC F (2*i+e)=F (i*194+e):=by unfold tC;rw[f]
 have w:tC (F1 F (i*194+e) v) (2*i+e)= .sl h.next 0 (k+m) q:=by unfold tC F1;rw[f,aS rfl,A]
 have G:=R.amY (F':=F1 F (i*194+e) v) (s0:=2*i+e) om (by rw[y];exact p) z w (some (.cells false (rc (n*194) (F1 F (i*194+e) v))))
 rw[<-o] at G
 obtain⟨J,P⟩:=O G.fx G.wt (λs d h2=>(G.own s d h2).2) (by
  rw[A,o];have N:dF h2 (.sl h.next 0 (k+m) q) 1 (ws++us) 0:= .inr ⟨h.next,k+m,q, [],rfl,by rw[eE,x.1,x.2];omega,by rcases u with e|e;exact .inl e;exact .inr ⟨e,rfl⟩,fY _,by rw[p.next];omega,by rw[qH];exact p.get⟩;refine N.iU (dN _) λid K m c e Q=>?_
  cases e
  exact H.Cj h2 (by have:=R.ln;omega) _) x
 have U: ∀j c,2<=c->c<194->F1 F (i*194+e) v (j*194+c)=F (j*194+c):=λj c d h2=>by
  unfold F1;rw[aQ om]
 have l: ∀j b c,2<=b->b+c<194->F1 F (i*194+e) v (j*194+b+c)=F (j*194+b+c):=λj b c d h2=>by
  rw[Nat.add_assoc];exact U j (b+c) om h2
 have r:=G.fx.next
 refine⟨⟨?_,by rw[o,H.aJ],iD R.tn r,iD R.ln r,λB=>R.tw (G.wt _ R.tn B),λj p d h2=>?_,λj p d h2=>?_,λj p d h2=>?_,J,P,G.uY,G.ap⟩,G.fx,G.wt⟩
 .rw[G.fx.get tid R.tn R.tw];exact R.t
 .rw[l j 2 p om om,(a j d).1];exact (R.to j p d h2).go G.fx G.wt
 .rw[l j 66 p om om,(a j d).1];exact (R.iv j p d h2).go G.fx G.wt
 .rw[l j 130 p om om,(a j d).2];exact R.tr j p d h2
theorem qB.more (R:qB h n tid L F τ)(hi:i<n){vs:List V}{c:V}{r:List Nat}(pv:jI (WT n L F) h vs (τ i).gens)(q:PV (WT n L F) h c r)(p:xQ h (F (i*194)) (τ i).gens.length 1 1 vs [c] h2){h3:H}{v:V}(o:v= .sl h.next 0 ((τ i).gens.length+1) (.un 1))(d:h3=h2.set L (some (.cells false (rc (n*194) (F1 F (i*194) v))))):
  qB h3 n tid L (F1 F (i*194) v) (tG τ i ((τ i).more r))/\Fx (WT n L F) h h3/\ ∀id,id<h.next->WT n L (F1 F (i*194) v) id->WT n L F id:=by
 refine R.slot (e:=0) hi om p (.inl rfl) o d (λj a=>?_) (λf b k m t=>⟨λj a=>?_,λj a=>?_⟩) ⟨by have:=bH.length pv;omega,rfl⟩
 .by_cases e:j=i
  .subst e;rw[Cz];exact⟨rfl,rfl⟩
  .rw[dZ _ _ e];exact⟨rfl,rfl⟩
 .by_cases e:j=i
  .subst e
   rw[Cz]
   refine⟨vs++ [c],?_,(jI.go pv f b).append (jI.one (PV.go q f b))⟩
   unfold F1;rw[aS (Nat.add_zero _).symm];exact m
  .rw[dZ _ _ e]
   obtain⟨l,s,h2⟩:=R.gens j a
   refine⟨l,?_,jI.go h2 f b⟩
   have:=k (2*j) om om l (by rw[Dq];exact s)
   rw[Dq] at this
   unfold F1;rw[aQ om];exact this
 .have:=k (2*j+1) om om _ (by rw[Ho];exact R.orb j a)
  rw[Ho] at this
  unfold F1;rw[aQ om]
  by_cases e:j=i
  .subst e;rw[Cz];exact this
  .rw[dZ _ _ e];exact this
theorem qB.VV (R:qB h n tid L F τ)(hi:i<n){q:Nat}(p:xQ h (F (i*194+1)) (τ i).orb.length 1 1 (ints (zi (τ i).orb)) [aC q] h2){h3:H}{v:V}{c:qD}(b:c= .un 1\/c= .kn ((τ i).orb.length+1))(s:v= .sl h.next 0 ((τ i).orb.length+1) c)(d:h3=h2.set L (some (.cells false (rc (n*194) (F1 F (i*194+1) v))))):
  qB h3 n tid L (F1 F (i*194+1) v) (tG τ i {τ i with orb:=(τ i).orb++ [q]})/\Fx (WT n L F) h h3/\ ∀id,id<h.next->WT n L (F1 F (i*194+1) v) id->WT n L F id:=by
 refine R.slot (e:=1) hi om p b s d (λj a=>?_) (λf k l o u=>⟨λj a=>?_,λj a=>?_⟩) ⟨by rw[aE,bD,jP],rfl⟩
 .by_cases e:j=i
  .subst e;rw[Cz];exact⟨rfl,rfl⟩
  .rw[dZ _ _ e];exact⟨rfl,rfl⟩
 .obtain⟨m,t,h2⟩:=R.gens j a
  have:=l (2*j) om om m (by rw[Dq];exact t)
  rw[Dq] at this
  refine⟨m,?_,?_⟩
  .unfold F1;rw[aQ om];exact this
  .by_cases e:j=i
   .subst e;rw[Cz];exact jI.go h2 f k
   .rw[dZ _ _ e];exact jI.go h2 f k
 .by_cases e:j=i
  .subst e
   rw[Cz]
   have r:ints (zi ((τ j).orb++ [q]))=ints (zi (τ j).orb)++ [aC q]:=by simp [zi,ints]
   show dF h3 _ 1 (ints (zi ((τ j).orb++ [q]))) 0
   rw[r]
   unfold F1;rw[aS rfl];exact o
  .rw[dZ _ _ e]
   have:=l (2*j+1) om om _ (by rw[Ho];exact R.orb j a)
   rw[Ho] at this
   unfold F1;rw[aQ om];exact this
theorem qB.tick (R:qB h n tid L F τ)(hi:i<n){q:Nat}(k:q<64){z:Int}(d:z=((τ i).tr q:Nat)+1){h3:H}(c:h3=h.set L (some (.cells false (rc (n*194) (F1 F (i*194+130+q) (aC z)))))):
  qB h3 n tid L (F1 F (i*194+130+q) (aC z)) (tG τ i ((τ i).tick q))/\Fx (WT n L F) h h3/\ ∀id,WT n L (F1 F (i*194+130+q) (aC z)) id↔WT n L F id:=by
 subst c
 have f:Fx (WT n L F) h (h.set L (some (.cells false (rc (n*194) (F1 F (i*194+130+q) (aC z)))))):=Fx.set h (.inl rfl) _
 have a: ∀j,(tG τ i ((τ i).tick q) j).to=(τ j).to/\(tG τ i ((τ i).tick q) j).gens=(τ j).gens/\(tG τ i ((τ i).tick q) j).orb=(τ j).orb:=λj=>by
  by_cases e:j=i
  .subst e;rw[Cz];exact⟨rfl,rfl,rfl⟩
  .rw[dZ _ _ e];exact⟨rfl,rfl,rfl⟩
 refine R.cells (dN _) (λid b _=>H.Cj h b _) (H.aJ ..) (λs l=>?_) (λj _=>(a j).2) (λj p b h2=>?_) (λj p b h2=>?_) (λj p b h2=>?_)
 .unfold tC F1;rw[aQ om]
 .rw[(a j).1]
  have:=(R.to j p b h2).fx f
  unfold F1;rw[aQ om];exact this
 .rw[(a j).1]
  have:=(R.iv j p b h2).fx f
  unfold F1;rw[aQ om];exact this
 .have:=R.tr j p b h2
  unfold F1
  by_cases e:j=i
  .subst e
   rw[Cz]
   show _=aC (if p=q then (τ j).tr q+1 else (τ j).tr p:Nat)
   by_cases e2:p=q
   .subst e2;rw[aS rfl,aS rfl,d];rfl
   .rw[aQ om,aQ e2];exact this
  .rw[aQ om,dZ _ _ e];exact this
theorem qB.way (R:qB h n tid L F τ)(hi:i<n){q:Nat}(v:q<64){d c:V}{y:List Nat}(o:PV (WT n L F) h d y)(t:PV (WT n L F) h c (bY y)){h3:H}(l:h.next<=h3.next)(k: ∀id,id≠L->id<h.next->h3.get id=h.get id)
  (m:h3.get L=some (.cells false (rc (n*194) (F1 (F1 F (i*194+2+q) d) (i*194+66+q) c)))):
  qB h3 n tid L (F1 (F1 F (i*194+2+q) d) (i*194+66+q) c) (tG τ i {τ i with to:=λr=>if r=q then some y else (τ i).to r})/\Fx (WT n L F) h h3/\ ∀id,WT n L (F1 (F1 F (i*194+2+q) d) (i*194+66+q) c) id↔WT n L F id:=by
 have f:Fx (WT n L F) h h3:=⟨l,λid a h2=>k id (λe=>h2 (.inl e)) a⟩
 have b: ∀j,(tG τ i {τ i with to:=λr=>if r=q then some y else (τ i).to r} j).tr=(τ j).tr/\(tG τ i {τ i with to:=λr=>if r=q then some y else (τ i).to r} j).gens=(τ j).gens/\(tG τ i {τ i with to:=λr=>if r=q then some y else (τ i).to r} j).orb=(τ j).orb:=λj=>by
  by_cases e:j=i
  .subst e;rw[Cz];exact⟨rfl,rfl,rfl⟩
  .rw[dZ _ _ e];exact⟨rfl,rfl,rfl⟩
 refine R.cells l k m (λs u=>?_) (λj _=>(b j).2) (λj p a h2=>?_) (λj p a h2=>?_) (λj p a h2=>?_)
 .unfold tC F1;rw[aQ om,aQ om]
 .have:=(R.to j p a h2).fx f
  unfold F1
  by_cases e:j=i
  .subst e
   rw[Cz]
   show Slot _ _ _ (if p=q then some y else (τ j).to p)
   by_cases e2:p=q
   .subst e2;rw[aQ om,aS rfl,aS rfl];exact PV.fx o f
   .rw[aQ om,aQ om,aQ e2];exact this
  .rw[aQ om,aQ om,dZ _ _ e];exact this
 .have:=(R.iv j p a h2).fx f
  unfold F1
  by_cases e:j=i
  .subst e
   rw[Cz]
   show Slot _ _ _ ((if p=q then some y else (τ j).to p).map bY)
   by_cases e2:p=q
   .subst e2;rw[aS rfl,aS rfl];exact PV.fx t f
   .rw[aQ om,aQ om,aQ e2];exact this
  .rw[aQ om,aQ om,dZ _ _ e];exact this
 .rw[(b j).1]
  have:=R.tr j p a h2
  unfold F1;rw[aQ om,aQ om];exact this
end
end Go.Proofs.YtoighkablmjfeaaGreat
namespace Go.Proofs.YtoighkablmjfeaaGreat
open Go Go.Ay Go.Pm
theorem CU {l:List Nat}(nd:l.Nodup){k:Nat}(a:k<l.length):l.getD k 0∉l.take k:=by
 intro h;obtain⟨m,b,e⟩:=Bj.1 h;have c:m<k:=by simp at b;omega
 rw[List.getElem_take,cM a] at e;have e1:=nd.idxOf_getElem m om;have e2:=nd.idxOf_getElem k a;rw[e] at e1;omega
theorem aiJ {n i:Nat}{O b:oL}{y s u z:List Nat}{q k:Nat}(c:CI n i O)(G:i+1<n)(B:(O i).to q=some y)(J:(O i).tr q=k)(l:(O i).gens[k]? =some s)(A:(O i).to ((aZ y s).getD i 0)=some u)
  (F:z=aZ (aZ y s) (bY u)) (a:Vx n (i+1) z (tG O i ((O i).tick q)) b):CI n i b/\b i=(O i).tick q/\ ∀j,j<i->b j=O j:=by
 have e0:b i=(O i).tick q:=(a.low i om).trans (Cz ..)
 have f: ∀j,j<i->b j=O j:=λj t=>(a.low j om).trans (dZ _ _ om)
 have K:Vx n (i+1) z O (tG b i (O i)):=by
  have x: ∀j,i<j->tG O i ((O i).tick q) j=O j:=λj t=>dZ _ _ om
  have d: ∀j,i<j->tG b i (O i) j=b j:=λj t=>dZ _ _ om
  refine⟨λj t=>?_,a.tw.congr λj N _=>(d j om).symm,λs l=>?_,λs l=>?_,?_⟩
  .by_cases e:j=i
   .subst e;exact Cz ..
   .rw[dZ _ _ e];exact f j om
  .rw[d _ om];exact a.old s (by rw[x _ om];exact l)
  .rw[d _ om] at l
   have:=a.new s l;rwa [x _ om] at this
  .rw[d _ om];exact a.has
 have m:s∈(O i).gens:=HP l
 obtain⟨_,_,r⟩:=c.Jk om B m A
 obtain⟨L,v⟩:=c.added G K (by rw[F];exact r)
 have o:tG b i (O i) i=O i:=Cz ..
 have w:=L.tick (q:=q) (k:=k) (y:=y) (s:=s) (u:=u) (by rw[o];exact B) (by rw[o];exact J) (by rw[o];exact l) (by rw[o];exact A) (by rw[<-F];exact v)
 have e:tG (tG b i (O i)) i ((tG b i (O i) i).tick q)=b:=by
  funext j
  by_cases h:j=i
  .subst h;rw[Cz,Cz,e0]
  .rw[dZ _ _ h,dZ _ _ h]
 rw[e] at w
 exact⟨w,e0,f⟩
theorem dF.lens {h:H}{v:V}{ws:List V}{b n:Nat}(o:dF h v 1 ws b)(a:ws.length=n):dD v=some (aC n):=by
 unfold dD;rw[o.sv.len (n:=n) om om];rfl
theorem EX {F:Nat->V}{k c:Nat}{v:V}(h:c≠k):F1 F k v c=F c:=aQ h
theorem Gu {N k:Nat}{F:Nat->V}(b:k<N)(a:H)(L:Nat)(v:V):dY (some (.cells false (rc N F))) a L k [v]=some (a.set L (some (.cells false (rc N (F1 F k v))))):=by
 rw[bE (by rw[dE];exact b),iQ];rfl
def adV (h:H)(n tid L:Nat)(F:Nat->V)(τ:oL)(i:Nat)(x:List Nat):V->H->Prop:=λ_ h'=> ∃F' τ',qB h' n tid L F' τ'/\Vx n i x τ τ'/\Fx (WT n L F) h h'/\ ∀id,id<h.next->WT n L F' id->WT n L F id
def LC (h:H)(n tid L:Nat)(F:Nat->V)(τ:oL)(i:Nat):V->H->Prop:=λ_ h'=> ∃F' τ',qB h' n tid L F' τ'/\oH n i τ'/\(∀j,j<i->τ' j=τ j)/\(τ' i).gens=(τ i).gens/\Fx (WT n L F) h h'/\ ∀id,id<h.next->WT n L F' id->WT n L F id
def aeF (n i:Nat):Prop:= ∀(h:H) (tid L:Nat) (F:Nat->V) (a:oL) (vx:V) (x:List Nat),qB h n tid L F a->PV (WT n L F) h vx x->bJ n x->Fix i x->oH n i a->Ev T 221 [.ptr tid 0,vx,aC i] h (adV h n tid L F a i x)
def Tr (n i:Nat):Prop:= ∀(h:H) (tid L:Nat) (F:Nat->V) (a:oL),qB h n tid L F a->CI n i a->Ev T 251 [.ptr tid 0,aC i] h (LC h n tid L F a i)
structure ClS (h:H)(n tid L:Nat)(F:Nat->V)(τ:oL)(i:Nat)(h':H)(F':Nat->V)(τ':oL)(k:Nat):Prop where
 R:qB h' n tid L F' τ'
 c:CI n i τ'
 hk:k<=(τ' i).orb.length
 done: ∀r∈(τ' i).orb.take k,(τ' i).tr r=(τ' i).gens.length
 low: ∀j,j<i->τ' j=τ j
 gens:(τ' i).gens=(τ i).gens
 fx:Fx (WT n L F) h h'
 wt: ∀id,id<h.next->WT n L F' id->WT n L F id
theorem ZE {n j:Nat}{l:Lv}(V:VG n j l)(a:j<n):l.orb.length<=n:=by
 have:=List.Nodup.length_le_of_subset V.nd (l₂:=List.range n) λx b=>mS.2 (V.lt a b)
 simpa using this
theorem Um (n i:Nat)(hn:n<=20)(hi:i<n)(A:i+1<n->aeF n (i+1)):Tr n i:=by
 intro h a1 L F τ R c;have cl:h.cell a1 1=some (.sl L 0 n (.kn n)):=by rw[H.cell_of R.t];rfl
 refine pM cl ?_;refine aP (λm N hh=> ∃(k:Nat) (F':Nat->V) (a3:oL),(∃g:Nat->V,N= [.ptr a1 0,aC i,.ptr L (i*194),aC k,g 4,g 5,g 6,g 7,g 8,g 9,g 10,g 11])/\ClS h n a1 L F τ i hh F' a3 k/\m=n-k) n
  ⟨0,F,τ,aD rfl,⟨R,c,fY _,λr d=>by simp at d,λ_ _=>rfl,rfl,Fx.refl _ h,λ_ _ h=>h⟩,rfl⟩ ?_
 rintro m N J ⟨k,b0,o,⟨g,rfl⟩,S,rfl⟩;have co:J.cell L (i*194+1)=some (b0 (i*194+1)):=S.R.cell hi om;have oo:=S.R.orb i hi;have lo:=dF.lens oo (by rw[aE,bD]);have c4:=ZE S.c.nY hi;refine eZ co lo ?_
 by_cases Q:(k:Int)<((o i).orb.length:Int)
 case neg=>
  rw[bZ Q];refine aT ?_;refine⟨b0,o,S.R,S.c.full λq hq=>S.done q ?_,S.low,S.gens,S.fx,S.wt⟩;rw[Nb om];exact hq
 rw[cV Q];have b:k<(o i).orb.length:=om
 obtain⟨id,e5,sh,d4,hc⟩:=(show SI J (b0 (i*194+1)) (zi (o i).orb) from oo.sv).open;rw[bD] at sh d4 hc;obtain⟨q,hq⟩:=exI ((o i).orb.getD k 0);have ck:J.cell id (e5+k)=some (aC q):=by rw[hc k b];congr 2;simp [zi,b,<-hq]
 refine iG co @sh.ixa ck ?_;have b1:q∈(o i).orb:=by rw[<-hq,cM b];exact Hn b
 have g0:q<n:=S.c.nY.lt hi b1;clear sh d4 hc ck co lo oo c4 b1
 refine aP (λm N hh=> ∃(F':Nat->V) (a3:oL),(∃g:Nat->V,N= [.ptr a1 0,aC i,.ptr L (i*194),aC k,aC q,g 5,g 6,g 7,g 8,g 9,g 10,g 11])/\ClS h n a1 L F τ i hh F' a3 k/\
   k<(a3 i).orb.length/\(a3 i).orb.getD k 0=q/\m=(a3 i).gens.length-(a3 i).tr q) ((o i).gens.length-(o i).tr q)
  ⟨b0,o,aD rfl,S,b,hq,rfl⟩ ?_
 clear Q b hq S o b0;rintro m N K ⟨F2,a,⟨g2,rfl⟩,S,b,hq,rfl⟩;have R2:=S.R;have nY:=S.c.nY;have b1:q∈(a i).orb:=by rw[<-hq,cM b];exact Hn b
 obtain⟨y,hy⟩:=nY.to b1;have Y:=nY.cF _ _ hy;have b2:K.cell L (i*194+130+q)=some (aC ((a i).tr q:Nat)):=by rw[R2.Qc hi om,R2.tr i q hi om]
 have cg:K.cell L (i*194)=some (F2 (i*194)):=by
  have:=R2.cell (c:=0) hi om;rwa [Nat.add_zero] at this
 obtain⟨vs,og,a7⟩:=R2.gens i hi;have lg:=dF.lens og (bH.length a7);have c4:=ZE nY hi;refine iG b2 cg lg ?_
 by_cases Q:(((a i).tr q:Nat):Int)<((a i).gens.length:Int)
 case neg=>
  rw[bZ Q];refine aT ?_;rw[fJ k];have fb:Fr K (H.mk K.tr (K.next+12)):=(Fr.refl K).cU om;have f8:=nY.le q;refine⟨n-(k+1),om,k+1,F2,a,aD rfl,⟨R2.mono fb,S.c,b,λr d=>?_,S.low,S.gens,⟨kQ S.fx.next fb.next,S.fx.get⟩,S.wt⟩,rfl⟩;rw[List.take_add_one,dJ b,<-cM b,hq] at d;rcases Es.1 d with d|d
  .exact S.done r d
  .simp at d;subst d;omega
 rw[cV Q];obtain⟨t,ht⟩:=exI ((a i).tr q);rw[ht] at Q b2;have f2:(a i).gens.length<=1000000:=kQ (nY.many hn) deC;obtain⟨f1,d6,d1,c8,c5⟩:=og.sv.shape (a i).gens.length (by have:=bH.length a7;omega) om;obtain⟨vS,d5,pS⟩:=a7.at (i:=t) om;obtain⟨s,hs⟩:=exI ((a i).gens.getD t []);rw[hs] at pS
 have a4:(a i).gens[t]? =some s:=by
  rw[<-hs,List.getD,dJ om];rfl
 have Sp:=nY.gP s (HP a4);have cS:K.cell f1 (d6+t)=some vS:=by rw[c5 t (by have:=bH.length a7;omega)];exact d5
 have pT:PV (WT n L F2) K (F2 (i*194+2+q)) y:=by
  have:=R2.to i q hi om;rw[hy] at this;exact this
 have hN:i*194+194<=n*194:=om
 refine Ux b2 cg lg @d1.ixa cS @R2.l @Gu @yA @EX ?_;have fb:Fr K (H.mk K.tr (K.next+12+13+11)):=(Fr.refl K).cU om
 obtain⟨h3,c1⟩: ∃h3,h3=(H.mk K.tr (K.next+12+13+11)).set L (some (.cells false (rc (n*194) (F1 F2 (i*194+130+q) (aC ((t:Int)+1)))))):=⟨_,rfl⟩
 rw[<-c1];obtain⟨R3,f3,w3⟩:=(R2.mono fb).tick hi (q:=q) om (z:=(t:Int)+1) (by rw[ht]) c1;have c3:=(Fx.of (W:=WT n L F2) fb).trans f3 (λ_ _ h=>h);have c0:=PV.go pT c3 (λid _ h=>(w3 id).1 h);have c7:=PV.go pS c3 (λid _ h=>(w3 id).1 h);generalize F2 (i*194+2+q)=vt at pT c0;clear c1 pT pS b2 cg lg d1 c8 c5 cS d5 a7 og
 obtain⟨G,e7⟩: ∃G,G=F1 F2 (i*194+130+q) (aC ((t:Int)+1)):=⟨_,rfl⟩
 rw[<-e7] at R3 w3 c0 c7
 obtain⟨x,w⟩: ∃x,x=tG a i ((a i).tick q):=⟨_,rfl⟩
 rw[<-w] at R3;have e3:x i=(a i).tick q:=by rw[w];exact Cz ..
 refine (zD mM.ok vt vS y s h3 (by rw[Y.len];omega) c0.si c7.si (λj hj=>by rw[Sp.len];exact Y.eJ (by rw[<-Y.len];exact hj))).mono ?_;rintro v O nw;have P:=Y.mul Sp;obtain⟨p,hp⟩:=exI ((aZ y s).getD i 0);have g1:p<n:=by rw[<-hp];exact P.eJ hi
 have R4:=R3.mono nw.fr;have pv:=nw.pv (W:=WT n L G) (λB=>by have:=R3.AN B;omega)
 have cp:O.cell h3.next i=some (aC p):=by
  rw[H.cell_of nw.get,Ax (by rw[P.len];exact hi),hp]
 have e9:O.cell L (i*194+2+p)=some (G (i*194+2+p)):=R4.Qc hi om;have f:=R4.to i p hi om;have ev:=nw.val;rw[P.len] at ev;have f4:Fx (WT n L F2) K O:=c3.trans (Fx.of (W:=WT n L F2) nw.fr) (λ_ _ h=>h);refine iG ev cp e9 ?_;rw[<-ev];have a0: ∀r∈(a i).orb.take k,r≠q:=λr d e=>CU nY.nd b (by rw[hq,<-e];exact d)
 cases hpo:(a i).to p with
 |none=>
  have a9:G (i*194+2+p)= .aH:=by
   rw[e3] at f;have f:Slot _ _ _ ((a i).to p):=f;rw[hpo] at f;exact f
  refine bM a9 ?_;refine (IM yI.ok v n (aZ y s) (H.mk O.tr (O.next+15)) om P (pv.mono ((Fr.refl O).cU om)).si).mono ?_;rintro vu h5 nu;have f5:Fr O h5:=((Fr.refl O).cU om:Fr O (H.mk O.tr (O.next+15))).trans nu.fr;have R5:=R4.mono f5;have c2:=pv.mono f5;have b9:=nu.pv (W:=WT n L G) (λB=>by have:=R4.AN B;simp at this;omega);refine wE @R5.l (eH c2.fX.1 c2.fX.2) (eH b9.fX.1 b9.fX.2) @Gu @yA @EX ?_
  obtain⟨F6,d3⟩: ∃F6,F6=F1 (F1 G (i*194+2+p) v) (i*194+66+p) vu:=⟨_,rfl⟩
  obtain⟨h6,b7⟩: ∃h6,h6=(h5.set L (some (Ob.cells false (rc (n*194) (F1 G (i*194+2+p) v))))).set L (some (Ob.cells false (rc (n*194) (F1 (F1 G (i*194+2+p) v) (i*194+66+p) vu)))):=⟨_,rfl⟩
  rw[<-b7];obtain⟨R6,f6,w6⟩:=R5.way hi (q:=p) om c2 b9 (h3:=h6) (by rw[b7];exact dN _) (λid J _=>by rw[b7,H.Cj _ J,H.Cj _ J]) (by rw[b7,H.aJ]);have eO:G (i*194+1)=F6 (i*194+1):=by rw[d3,EX om,EX om]
  rw[<-d3] at R6 w6
  obtain⟨a2,a5⟩: ∃a2,a2=tG x i {x i with to:=λr=>if r=p then some (aZ y s) else (x i).to r}:=⟨_,rfl⟩
  rw[<-a5] at R6;have e6:a2 i={x i with to:=λr=>if r=p then some (aZ y s) else (x i).to r}:=by rw[a5];exact Cz ..
  have b5:(a2 i).orb=(a i).orb:=by rw[e6,e3];rfl
  refine eZ (dL h6 (z:= aC 0) (v:= aC p) rfl rfl) eO ?_
  obtain⟨h7,b6⟩: ∃h7,h7=h6.new (.cells false [aC p]):=⟨_,rfl⟩
  have f7:Fr h6 h7:=by rw[b6];exact (Fr.refl h6).new _
  have n7:h7.next=h6.next+1:=by rw[b6];exact H.aM ..
  have g7:h7.get h6.next=some (.cells false [aC p]):=by rw[b6];exact H.aI ..
  rw[<-b6];have R7:=R6.mono f7;have o7:=R7.orb i hi;rw[b5] at o7;obtain⟨h8,a8,p8⟩:=o7.push (bytes:=8) (SV.one om g7 (.kn 1)) (n:=(a i).orb.length) (m:=1) (by rw[aE,bD,jP]) rfl om om om
  have gL:h8.get L=some (.cells false (rc (n*194) F6)):=by
   rw[p8.old L (by have:=R7.ln;omega) (by have:=R7.ap (2*i+1) om;rw[Ho] at this;exact this)];exact R7.l
  refine iG a8 gL @Gu ?_
  obtain⟨h9,d0⟩: ∃h9,h9=h8.set L (some (.cells false (rc (n*194) (F1 F6 (i*194+1) (.sl h7.next 0 ((a i).orb.length+1) (.un 1)))))):=⟨_,rfl⟩
  rw[<-d0];obtain⟨R9,f9,w9⟩:=R7.VV hi (q:=p) (by rw[b5];exact p8) (.inl rfl) (by rw[b5]) d0;rw[b5] at R9
  have eT:tG a2 i {a2 i with orb:=(a i).orb++ [p]}=tG a i (((a i).tick q).reach p (aZ y s)):=by
   funext j
   by_cases e:j=i
   .subst e
    rw[Cz,Cz,e6,e3];rfl
   .rw[dZ _ _ e,dZ _ _ e,a5,dZ _ _ e,w,dZ _ _ e]
  rw[eT] at R9;have c9:=S.c.found hi hy ht a4 hp hpo;have ei:tG a i (((a i).tick q).reach p (aZ y s)) i=((a i).tick q).reach p (aZ y s):=Cz ..
  have W9: ∀id,id<K.next->WT n L (F1 F6 (i*194+1) (.sl h7.next 0 ((a i).orb.length+1) (.un 1))) id->WT n L F2 id:=λid J B=>
   (w3 id).1 ((w6 id).1 (w9 id (by have:=f4.next;have:=f5.next;have:=f6.next;have:=f7.next;omega) B))
  have b4:WT n L G=WT n L F2:=funext λid=>propext (w3 id)
  have d9:WT n L F6=WT n L F2:=(funext λid=>propext (w6 id)).trans b4;rw[b4] at f6;rw[d9] at f9;have d7:Fx (WT n L F2) K h9:=f4.trans ((Fx.of f5).trans (f6.trans ((Fx.of f7).trans f9 (λ_ _ h=>h)) (λ_ _ h=>h)) (λ_ _ h=>h)) (λ_ _ h=>h);refine⟨(a i).gens.length-(t+1),om,_,_,aD rfl,⟨R9,c9,?_,?_,λj hj=>(dZ _ _ om).trans (S.low j hj),?_,S.fx.trans d7 λid J B=>S.wt id J B,λid J B=>S.wt id J (W9 id (by have:=S.fx.next;omega) B)⟩,?_,?_,?_⟩
  all_goals rw[ei]
  .show k<=((a i).orb++ [p]).length
   rw[eE];omega
  .intro r d
   have d:r∈((a i).orb++ [p]).take k:=d;rw[List.take_append_of_le_length om] at d;show (if r=q then (a i).tr q+1 else (a i).tr r)=(a i).gens.length;rw[aQ (a0 r d)];exact S.done r d
  .exact S.gens
  .show k<((a i).orb++ [p]).length
   rw[eE];omega
  .show ((a i).orb++ [p]).getD k 0=q
   rw[<-hq,List.getD,List.getD,Aw b]
  .show _=(a i).gens.length-(if q=q then (a i).tr q+1 else (a i).tr q)
   rw[aS rfl,ht]
 |some u=>
  have U:=nY.cF _ _ hpo
  have a9:PV (WT n L G) O (G (i*194+2+p)) u:=by
   rw[e3] at f;have f:Slot _ _ _ ((a i).to p):=f;rw[hpo] at f;exact f
  have sn:=Sx a9 (bJ.ne om U) false;have ct:O.cell a1 0=some (aC n):=by rw[H.cell_of R4.t];rfl
  have e8:O.cell L (i*194+66+p)=some (G (i*194+66+p)):=R4.Qc hi om
  have e4:PV (WT n L G) O (G (i*194+66+p)) (bY u):=by
   have:=R4.iv i p hi om;rw[e3] at this;have this:Slot _ _ _ (((a i).to p).map bY):=this;rw[hpo] at this;exact this
  refine eZ sn ct ?_
  by_cases b8:(i:Int)+1<(n:Int)
  .rw[cV b8]
   refine bM e8 ?_;refine (zD mM.ok v _ (aZ y s) (bY u) O (by rw[P.len];omega) pv.si e4.si (λj hj=>by rw[iX,U.len];exact P.eJ (by rw[<-P.len];exact hj))).mono ?_;rintro v2 h5 nu;have R5:=R4.mono nu.fr;have Z:=P.mul U.inv;have pz:=nu.pv (W:=WT n L G) (λB=>by have:=R4.AN B;omega);obtain⟨_,b3,_⟩:=S.c.Jk hi hy (HP a4) (by rw[hp];exact hpo);refine aT ?_;rw[fJ i];refine (A om h5 a1 L G x v2 _ R5 pz Z b3 ?_).mono ?_
   .rw[w];exact S.c.up.ahU om
   rintro vv h6 ⟨F6,a2,R6,a6,f6,w6⟩;rw[w] at a6;obtain⟨c6,e6,l6⟩:=aiJ S.c om hy ht a4 (by rw[hp];exact hpo) rfl a6;have b4:WT n L G=WT n L F2:=funext λid=>propext (w3 id)
   rw[b4] at f6 w6;have d8:Fx (WT n L F2) K h6:=f4.trans ((Fx.of nu.fr).trans f6 (λ_ _ h=>h)) (λ_ _ h=>h);refine aT ?_;refine⟨(a i).gens.length-(t+1),om,_,_,aD rfl,⟨R6,c6,?_,?_,λj hj=>(l6 j hj).trans (S.low j hj),?_,S.fx.trans d8 λid J B=>S.wt id J B,λid J B=>S.wt id J (w6 id (by have:=S.fx.next;have:=f4.next;have:=nu.fr.next;omega) B)⟩,?_,?_,?_⟩
   all_goals rw[e6]
   .exact Nat.le_of_lt b
   .intro r d
    have d:r∈(a i).orb.take k:=d;show (if r=q then (a i).tr q+1 else (a i).tr r)=(a i).gens.length;rw[aQ (a0 r d)];exact S.done r d
   .exact S.gens
   .exact b
   .exact hq
   .show _=(a i).gens.length-(if q=q then (a i).tr q+1 else (a i).tr q)
    rw[aS rfl,ht]
  .rw[bZ b8]
   obtain⟨f0,b3,_⟩:=S.c.Jk hi hy (HP a4) (by rw[hp];exact hpo);have en:i+1=n:=om
   have c6:=S.c.tick hy ht a4 (by rw[hp];exact hpo) (by
    rw[en];rw[en] at b3
    exact sH.2 (b3.all f0))
   refine aT ?_;rw[w] at R4;have e6:tG a i ((a i).tick q) i=(a i).tick q:=Cz ..;refine⟨(a i).gens.length-(t+1),om,_,_,aD rfl,⟨R4,c6,?_,?_,λj hj=>(dZ _ _ om).trans (S.low j hj),?_,S.fx.trans f4 λid J B=>S.wt id J B,λid J B=>S.wt id J ((w3 id).1 B)⟩,?_,?_,?_⟩
   all_goals rw[e6]
   .exact Nat.le_of_lt b
   .intro r d
    have d:r∈(a i).orb.take k:=d;show (if r=q then (a i).tr q+1 else (a i).tr r)=(a i).gens.length;rw[aQ (a0 r d)];exact S.done r d
   .exact S.gens
   .exact b
   .exact hq
   .show _=(a i).gens.length-(if q=q then (a i).tr q+1 else (a i).tr q)
    rw[aS rfl,ht]
end Go.Proofs.YtoighkablmjfeaaGreat
namespace Go.Proofs.YtoighkablmjfeaaGreat
open Go Go.Ay Go.Pm
def vV (a:oL)(i m:Nat)(r:List Nat):oL:=λj=>if i<=j/\j<m then (a j).more r else a j
theorem DY (a:oL)(i:Nat)(r:List Nat):vV a i i r=a:=by
 funext j;unfold vV;rw[aQ om]
theorem BF (b:oL){i m:Nat}(r:List Nat)(h:i<=m):tG (vV b i m r) m ((vV b i m r m).more r)=vV b i (m+1) r:=by
 funext j
 by_cases e:j=m
 .subst e
  rw[Cz];unfold vV;rw[aQ om,aS om]
 .rw[dZ _ _ e]
  unfold vV
  by_cases a:i<=j/\j<m
  .rw[aS a,aS om]
  .rw[aQ a,aQ om]
theorem BE (a:oL)(i k:Nat)(r:List Nat):vV a i (k+1) r=push a i k r:=by
 funext j;unfold vV push
 by_cases h:i<=j/\j<=k
 .rw[aS h,aS om]
 .rw[aQ h,aQ om]
theorem Md (a b c:Nat)(d:qD):dS (.sl a b c d) (.sl a b c d)=true:=by simp [dS]
theorem Rm (n b:Nat)(hn:n<=20)(hi:b<n)(C: ∀j,b<=j->j<n->Tr n j):aeF n b:=by
 intro h a L F τ vx x R hx X Fi t;refine lG ?_;refine (abU h n a L F τ vx x b om om R hx X om t).mono ?_;have G:=QY (n-b) b x om t X Fi;obtain⟨k,hk⟩:=exI ((Wg n τ (n-b) b x).1);obtain⟨r,hr⟩:=exI ((Wg n τ (n-b) b x).2);rw[hk,hr] at G |-;rintro _ v ⟨vr,rfl,pr,Rr,f1⟩;have R1:=R.mono f1;have ct:v.cell a 0=some (aC n):=by rw[H.cell_of R1.t];rfl
 refine bM ct ?_
 by_cases Q:(k:Int)=(n:Int)
 .rw[cV Q]
  have e:k=n:=om
  subst e;refine aT ?_;exact⟨F,τ,R1,Vx.none t hi (G.in t hi),Fx.of f1,λ_ _ h=>h⟩
 rw[bZ Q];have o:k<n:=by have:=G.le;omega
 have b0:=G.ge;refine aT ?_
 refine aP (λz d P=> ∃(m:Nat) (O:Nat->V),(∃g:Nat->V,d= [.ptr a 0,g 1,aC b,aC k,vr,aC m,g 6,g 7,g 8,g 9])/\b<=m/\m<=k+1/\qB P n a L O (vV τ b m r)/\PV (WT n L O) P vr r/\
   Fx (WT n L F) h P/\(∀id,id<h.next->WT n L O id->WT n L F id)/\z=k+1-m) (k+1-b)
  ⟨b,F,aD rfl,dN _,om,by rw[DY];exact R1,pr,Fx.of f1,λ_ _ h=>h,rfl⟩ ?_
 clear R1 ct pr f1;rintro z d i ⟨m,F2,⟨g,rfl⟩,w,a1,A,pr,f2,w2,rfl⟩;refine aT ?_
 by_cases f:(m:Int)<=(k:Int)
 .rw[cV f]
  have y:m<n:=om
  have cl:i.cell a 1=some (.sl L 0 n (.kn n)):=by rw[H.cell_of A.t];rfl
  have cg:i.cell L (m*194)=some (F2 (m*194)):=by
   have:=A.cell (c:=0) y om;rwa [Nat.add_zero] at this
  have B:vV τ b m r m=τ m:=by unfold vV;rw[aQ om]
  have ln:=A.ln;have tn:=A.tn;simp(disch:=omega)only[go_sem,cl,cg,dL _ pr.fX.1 pr.fX.2]
  obtain⟨q,s⟩: ∃q:H,q=H.mk ((H.mk i.tr (i.next+14)).new (Ob.cells false [vr])).tr (i.next+19):=⟨_,rfl⟩
  rw[<-s];have g3:q.get (i.next+14)=cE [vr]:=by rw[s];exact H.aI (H.mk i.tr (i.next+14)) _
  have n3:q.next=i.next+19:=by rw[s]
  have N:Fr i q:=⟨om,λid a8=>by rw[s];exact H.bG (H.mk i.tr (i.next+14)) siO _⟩
  have u:=A.mono N;have a0:=pr.mono N;obtain⟨vs,o3,K⟩:=u.gens m y;rw[B] at K;have nY:=(t m w y).1;have a9:(τ m).gens.length<=1000000:=kQ (nY.many hn) deC;obtain⟨U,a4,p4⟩:=o3.push (bytes:=24) (SV.one om g3 (.kn 1)) (n:=(τ m).gens.length) (m:=1) (by have:=bH.length K;omega) rfl om om om;have gt:U.get a=q.get a:=p4.old a om (λid a6 nn c e e2=>u.tw (.inr ⟨2*m,om,a6,nn,c,by rw[Dq,e2];exact e⟩))
  have gL:U.get L=cE (rc (n*194) F2):=by
   rw[p4.old L om (by have:=u.ap (2*m) om;rw[Dq] at this;exact this)];exact u.l
  have a5:U.cell a 1=some (.sl L 0 n (.kn n)):=by unfold H.cell;rw[gt,u.t];rfl
  have hN:m*194+194<=n*194:=om
  refine nW a4 a5 @Md gL @Gu ?_
  obtain⟨h5,Y⟩: ∃h5,h5=U.set L (cE (rc (n*194) (F1 F2 (m*194) (.sl q.next 0 ((τ m).gens.length+1) (.un 1))))):=⟨_,rfl⟩
  rw[<-Y];obtain⟨R5,f5,w5⟩:=u.more y (by rw[B];exact K) a0 (by rw[B];exact p4) (by rw[B]) Y;rw[BF τ r w] at R5;rw[fJ m];refine⟨k+1-(m+1),om,m+1,_,aD rfl,om,om,R5,PV.go a0 f5 w5,f2.trans ((Fx.of (W:=WT n L F2) N).trans f5 (λ_ _ h=>h)) (λid v J=>w2 id v J),λid v J=>w2 id v (w5 id (by have:=f2.next;omega) J),rfl⟩
 rw[bZ f];have B:m=k+1:=om
 subst B;rw[BE] at A;refine aT ?_;have a3:=Ko.start G t o
 refine aP (λz d P=> ∃(m:Nat) (O:Nat->V) (Z:oL),(∃g:Nat->V,d= [.ptr a 0,g 1,aC b,g 3,g 4,g 5,aC ((m:Int)- 1),g 7,g 8,g 9])/\b<=m/\m<=k+1/\qB P n a L O Z/\Ko n b k r τ Z m/\
   Fx (WT n L F) h P/\(∀id,id<h.next->WT n L O id->WT n L F id)/\z=m) (k+1)
  ⟨k+1,F2,_,aD (by rw[show ((k+1:Nat):Int)- 1=(k:Int) from om];rfl),om,om,A,a3,f2,w2,rfl⟩ ?_
 clear A a3 f2 w2 pr f w a1;rintro z d q ⟨m,F3,a2,⟨g3,rfl⟩,w,a1,u,AI,N,w3,hm⟩;subst hm;refine aT ?_
 by_cases f:(b:Int)<=(z:Int)- 1
 .rw[cV f]
  obtain⟨j,rfl⟩: ∃j,z=j+1:=⟨z- 1,om⟩
  have ci:=AI.ci G t o om om;refine aT ?_;rw[show ((j+1:Nat):Int)- 1=(j:Int) from om];refine (C j om om q a L F3 a2 u ci).mono ?_;rintro _ U ⟨F4,a7,R4,t4,l4,g4,f4,w4⟩;refine aT ?_;refine⟨j,om,j,F4,a7,aD rfl,om,om,R4,AI.next om om l4 g4 t4,N.trans f4 (λid v J=>w3 id v J),λid v J=>w3 id v (w4 id (by have:=N.next;omega) J),rfl⟩
 rw[bZ f];have B:z=b:=om
 rw[B] at AI;refine aT ?_;exact⟨F3,a2,u,AI.done G t X o,N,w3⟩
theorem Ue (n:Nat)(b:n<=20): ∀d i,i+d=n->(i<n->aeF n i)/\(i<n->Tr n i)
 |0,i,h=>⟨λa=>om,λa=>om⟩
 |d+1,i,h=>by
  have k:=Ue n b d (i+1) om
  have c: ∀j,i<=j->j<n->Tr n j:=λj l a=>by
   by_cases e:j=i
   .subst e;exact Um n j b a λf=>k.1 f
   .exact (Ue n b (n-j) j om).2 a
  exact⟨λa=>Rm n i b a c,λa=>c i (dN _) a⟩
termination_by d=>d
theorem Ex (n:Nat)(b:n<=20)(a:0<n):aeF n 0:=(Ue n b n 0 om).1 a
end Go.Proofs.YtoighkablmjfeaaGreat
namespace Go.Pm
section
variable {x y:List Nat} {R:VK}
def Lt (x y:List Nat):Prop:= ∃k,k<x.length/\(∀j,j<k->x.getD j 0=y.getD j 0)/\x.getD k 0<y.getD k 0
def Le (x y:List Nat):Prop:=x=y\/Lt x y
theorem Lt.asymm (a:Lt x y)(b:Lt y x):False:=by
 have⟨k,_,c,f⟩:=a;have⟨m,_,d,i⟩:=b;rcases Nat.lt_trichotomy k m with h|h|h
 .have:=d k h;omega
 .subst h;omega
 .have:=c m h;omega
theorem Le.antisymm (a:Le x y)(b:Le y x):x=y:=by
 rcases a with a|a
 .exact a
 .rcases b with b|b
  .exact b.symm
  .exact (a.asymm b).elim
def uN (x:List Nat):Nat->List Nat->Nat
 |b, []=>b
 |b,q::l=>uN x (if x.getD q 0<x.getD b 0 then q else b) l
theorem HX (x:List Nat):(l:List Nat)->(b:Nat)->uN x b l∈b::l/\ ∀q∈b::l,x.getD (uN x b l) 0<=x.getD q 0
 | [],b=>⟨by simp [uN],λq d=>by simp at d;subst d;exact Nat.le_refl _⟩
 |q::l,b=>by
  have c:=HX x l (if x.getD q 0<x.getD b 0 then q else b);unfold uN;refine⟨?_,λr a=>?_⟩
  .rcases List.mem_cons.1 c.1 with h|h
   .rw[h];split<;>simp
   .exact List.mem_cons_of_mem _ (List.mem_cons_of_mem _ h)
  .have f:=c.2 _ (List.mem_cons_self ..)
   rcases List.mem_cons.1 a with rfl|a
   .split at f<;>(split<;>omega)
   .rcases List.mem_cons.1 a with rfl|a
    .split at f<;>(split<;>omega)
    .exact c.2 r (List.mem_cons_of_mem _ a)
def Qd (τ:oL):Nat->Nat->List Nat->List Nat
 |0,_,x=>x
 |d+1,k,x=>Qd τ d (k+1) (if uN x k (τ k).orb=k then x else aZ (((τ k).to (uN x k (τ k).orb)).getD []) x)
section
variable {n:Nat} {τ:oL} {G:List Nat->Prop}
theorem UR:(d k:Nat)->(x:List Nat)->k+d=n->oH n k τ->bJ n x-> ∃h,S n τ k h/\Qd τ d k x=aZ h x/\ ∀g,S n τ k g->Le (Qd τ d k x) (aZ g x)
 |0,k,x,h,_,X=>by
  obtain rfl:k=n:=oq
  refine⟨bI k,sH.2 rfl,(dK X).symm,λg f=> .inl ?_⟩;rw[sH] at f;subst f;exact (dK X).symm
 |d+1,k,x,h,t,X=>by
  have a:k<n:=oq
  have L:=(t k (Nat.le_refl _) a).1;have i:=t.mono (Nat.le_succ k);obtain⟨F,K⟩:=HX x (τ k).orb k
  have A:uN x k (τ k).orb∈(τ k).orb:=by
   rcases List.mem_cons.1 F with h|h
   .rw[h];exact L.base
   .exact h
  obtain⟨y,b⟩:=L.to A;have Y:=L.cF _ y b
  have m:(if uN x k (τ k).orb=k then x else aZ (((τ k).to (uN x k (τ k).orb)).getD []) x)=aZ y x:=by
   split
   .rename_i e
    rw[e,L.one] at b;cases b;exact (dK X).symm
   .rw[b];rfl
  unfold Qd;rw[m];obtain⟨g,f,e,z⟩:=UR d (k+1) (aZ y x) oq i (Y.mul X);have Gp:=i.cF a f;have s:S n τ k (aZ g y):=(oN a).2 ⟨_,y,g,b,f,rfl⟩;refine⟨aZ g y,s,by rw[e,aX Gp Y X],λu w=>?_⟩;have U:=t.cF oq w;obtain⟨v,l,r⟩:=t.sift a w;have c:=L.mem l;have V:=L.cF _ v l;have J:(aZ u x).getD k 0=x.getD (u.getD k 0) 0:=dA (by rw[U.len];exact a)
  have N:(aZ g (aZ y x)).getD k 0=x.getD (uN x k (τ k).orb) 0:=by
   rw[dA (by rw[Gp.len];exact a),i.fix a f k oq,dA (by rw[Y.len];exact a),L.maps _ y b]
  have O:=K _ (List.mem_cons_of_mem _ c)
  by_cases o:x.getD (uN x k (τ k).orb) 0<x.getD (u.getD k 0) 0
  .rw[e]
   refine .inr ⟨k,by rw[eY,Gp.len];exact a,λj B=>?_,by rw[J,N];exact o⟩;rw[dA (by rw[Gp.len];omega),i.fix a f j oq,dA (by rw[Y.len];omega),L.fix _ y b j B,dA (by rw[U.len];omega),t.fix oq w j B]
  .have q:uN x k (τ k).orb=u.getD k 0:=X.inj (L.lt a A) (L.lt a c) oq
   rw[<-q,b] at l;cases l;have:=z _ r;rwa [aX U Y.inv (Y.mul X),<-aX Y.inv Y X,dX Y,dK X] at this
structure Hr (n:Nat)(G:List Nat->Prop)(i p:Nat)(x:List Nat):Prop where
 mem:G x
 fix:Fix i x
 maps:x.getD i 0=p
 least: ∀y,G y->Fix i y->y.getD i 0=p->Le x y
theorem Hr.uniq {i p:Nat}(a:Hr n G i p x)(b:Hr n G i p y):x=y:=
 (a.least y b.mem b.fix b.maps).antisymm (b.least x a.mem a.fix a.maps)
structure eD (n:Nat)(G:List Nat->Prop)(O:wG)(R:VK):Prop where
 lo:O.length=n
 lr:R.length=n
 asc: ∀i,i<n->(O.getD i []).Pairwise (· < ·)
 mem: ∀i,i<n-> ∀p,p∈O.getD i []↔ ∃x,G x/\Fix i x/\x.getD i 0=p
 rl: ∀i,i<n->(R.getD i []).length=(O.getD i []).length
 rep: ∀i,i<n-> ∀k,k<(O.getD i []).length->Hr n G i ((O.getD i []).getD k 0) ((R.getD i []).getD k [])
theorem Zr:{a b:List Nat}->a.Pairwise (· < ·)->b.Pairwise (· < ·)->(∀p,p∈a↔p∈b)->a=b
 | [], [],_,_,_=>rfl
 | [],y::b,_,_,h=>by have:=(h y).2 (by simp);simp at this
 |x::a, [],_,_,h=>by have:=(h x).1 (by simp);simp at this
 |x::a,y::b,ha,hb,h=>by
  obtain⟨k,l⟩:=List.pairwise_cons.1 ha;obtain⟨j,m⟩:=List.pairwise_cons.1 hb
  have e:x=y:=by
   have f:=(h x).1 (by simp);have d:=(h y).2 (by simp);rcases List.mem_cons.1 f with f|f
   .exact f
   .rcases List.mem_cons.1 d with d|d
    .exact d.symm
    .have:=j x f;have:=k y d;omega
  subst e;congr 1
  refine Zr l m λp=>⟨λc=>?_,λc=>?_⟩
  .rcases List.mem_cons.1 ((h p).1 (List.mem_cons_of_mem _ c)) with e|i
   .subst e;have:=k p c;omega
   .exact i
  .rcases List.mem_cons.1 ((h p).2 (List.mem_cons_of_mem _ c)) with e|i
   .subst e;have:=j p c;omega
   .exact i
theorem Cq {α:Type}{d:α}{a b:List α}(f:a.length=b.length)(h: ∀i,i<a.length->a.getD i d=b.getD i d):a=b:=by
 refine List.ext_getElem f λi c j=>?_
 have:=h i c;simpa [List.getD,c,j] using this
theorem eD.uniq {O f:wG}{h:VK}(a:eD n G O R)(b:eD n G f h):O=f/\R=h:=by
 have e:O=f:=Cq (d:= []) (by rw[a.lo,b.lo]) λi hi=>by
  rw[a.lo] at hi;exact Zr (a.asc i hi) (b.asc i hi) λp=>(a.mem i hi p).trans (b.mem i hi p).symm
 subst e;refine⟨rfl,Cq (d:= []) (by rw[a.lr,b.lr]) λi hi=>?_⟩;rw[a.lr] at hi;refine Cq (d:= []) (by rw[a.rl i hi,b.rl i hi]) λk c=>?_
 rw[a.rl i hi] at c;exact (a.rep i hi k c).uniq (b.rep i hi k c)
theorem eD.congr {H:List Nat->Prop}{O:wG}(a:eD n G O R)(h: ∀x,G x↔H x):eD n H O R:=by
 have:G=H:=funext λx=>propext (h x)
 exact this▸a
theorem oH.chain (t:oH n 0 τ){O:wG}(F:O.length=n)(lr:R.length=n)
  (s: ∀i,i<n->(O.getD i []).Pairwise (· < ·)) (mem: ∀i,i<n-> ∀p,p∈O.getD i []↔p∈(τ i).orb) (rl: ∀i,i<n->(R.getD i []).length=(O.getD i []).length)
  (rep: ∀i,i<n-> ∀k,k<(O.getD i []).length-> ∀y,(τ i).to ((O.getD i []).getD k 0)=some y->(R.getD i []).getD k []=Qd τ (n-(i+1)) (i+1) y):eD n (S n τ 0) O R:=by
 refine⟨F,lr,s,λi hi p=>?_,rl,λi hi k r=>?_⟩
 .have L:=(t i (Nat.zero_le _) hi).1
  have c:=t.mono (Nat.zero_le i)
  rw[mem i hi p]
  constructor
  .intro j
   obtain⟨y,a⟩:=L.to j
   have B:S n τ i y:=(c.gen hi).2 (L.gen p y a)
   have:=(t.Xi (Nat.zero_le i) oq).1 B
   exact⟨y,this.1,this.2,L.maps p y a⟩
  .rintro⟨x,d,m,rfl⟩
   obtain⟨y,a,_⟩:=c.sift hi ((t.Xi (Nat.zero_le i) oq).2 ⟨d,m⟩)
   exact L.mem a
 .have L:=(t i (Nat.zero_le _) hi).1
  have c:=t.mono (Nat.zero_le i)
  have l:=t.mono (Nat.zero_le (i+1))
  have j:(O.getD i []).getD k 0∈O.getD i []:=by
   rw[cM r];exact List.getElem_mem r
  obtain⟨y,a⟩:=L.to ((mem i hi _).1 j)
  rw[rep i hi k r y a]
  generalize (O.getD i []).getD k 0=p at a
  have Y:=L.cF p y a
  obtain⟨h,o,e,b⟩:=UR (n-(i+1)) (i+1) y oq l Y
  have H:=l.cF hi o
  have f:S n τ i (aZ h y):=(oN hi).2 ⟨p,y,h,a,o,rfl⟩
  have u:=(t.Xi (Nat.zero_le i) oq).1 f
  rw[e] at b |-
  refine⟨u.1,u.2,?_,λz d m A=>?_⟩
  .rw[dA (by rw[H.len];exact hi),l.fix hi o i oq,L.maps p y a]
  .obtain⟨v,w,q⟩:=c.sift hi ((t.Xi (Nat.zero_le i) oq).2 ⟨d,m⟩)
   rw[A,a] at w
   cases w
   have Z:=t.cF (Nat.zero_le _) d
   have:=b _ q
   rwa [aX Z Y.inv Y,dX Y,cH Z] at this
theorem Vx.group {i:Nat}{c:oL}(a:Vx n i x τ c)(t:oH n i τ)(hi:i<n)(X:bJ n x)(z:List Nat):Go.Pm.S n c i z↔fG n (λg=>Go.Pm.S n τ i g\/g=x) z:=by
 have L:=(t i (Nat.le_refl _) hi).1
 have f: ∀g,(Go.Pm.S n τ i g\/g=x)->bJ n g:=λg b=>by
  rcases b with b|rfl
  .exact t.cF oq b
  .exact X
 rw[a.tw.gen hi];constructor
 .intro h
  refine h.le (fG.kT f) λg b=>(a.new g b).mono λu d=>?_
  rcases d with d|d
  .exact .inl ((t.gen hi).2 (fG.of L.gP d))
  .exact .inr d
 .intro h
  refine h.le (fG.kT (a.tw i (Nat.le_refl _) hi).1.gP) λg b=>?_
  rcases b with b|rfl
  .exact ((t.gen hi).1 b).mono a.old
  .exact a.has
end
end
end Go.Pm
namespace Go.Pm
abbrev Bm:=Nat->Nat->Option (List Nat)
def ins (t:Bm):Nat->Nat->List Nat->Option (Nat×List Nat)
 |0,_,_=>none
 |d+1,i,x=>if x.getD i 0=i then ins t d (i+1) x else
  match t i (x.getD i 0) with
  |none=>some (i,x)
  |some y=>ins t d (i+1) (aZ x (bY y))
def dd:wG->wG
 | []=> []
 |a::l=>if a∈dd l then dd l else a::dd l
def iV (n:Nat)(t:Bm)(j:Nat):wG:=(List.range n).flatMap λi=>if j<=i then (List.range n).filterMap λp=>t i p else []
theorem gJ {n:Nat}{t:Bm}{j:Nat}{y:List Nat}:y∈iV n t j↔ ∃i p,j<=i/\i<n/\p<n/\t i p=some y:=by
 simp only[iV,List.mem_flatMap,List.mem_range];constructor
 .rintro⟨i,hi,h⟩
  split at h
  .rename_i b
   obtain⟨p,a,e⟩:=List.mem_filterMap.1 h;exact⟨i,p,b,hi,List.mem_range.1 a,e⟩
  .simp at h
 .rintro⟨i,p,b,hi,a,e⟩
  refine⟨i,hi,?_⟩;rw[if_pos b];exact List.mem_filterMap.2 ⟨p,List.mem_range.2 a,e⟩
structure tN (n:Nat)(t:Bm):Prop where
 lt: ∀i p y,t i p=some y->i<n/\p<n/\p≠i
 cF: ∀i p y,t i p=some y->bJ n y
 fix: ∀i p y,t i p=some y->Fix i y
 maps: ∀i p y,t i p=some y->y.getD i 0=p
section
variable {n:Nat} {t:Bm}
def put (t:Bm)(i p:Nat)(x:List Nat):Bm:=λj q=>if j=i/\q=p then some x else t j q
def pW (t:Bm)(n:Nat)(x:List Nat):Bm:=match ins t n 0 x with
 |none=>t
 |some (i,r)=>put t i (r.getD i 0) r
theorem xG (T:tN n t):(d j:Nat)->(x:List Nat)->(i:Nat)->(r:List Nat)->j+d=n->bJ n x->Fix j x->ins t d j x=some (i,r)->
  j<=i/\i<n/\bJ n r/\Fix i r/\r.getD i 0≠i/\t i (r.getD i 0)=none/\ ∃w,fG n (· ∈iV n t 0) w/\x=aZ r w
 |0,_,_,_,_,_,_,_,h=>by cases h
 |d+1,j,x,i,r,h,X,F,hi=>by
  unfold ins at hi;split at hi
  .rename_i e
   obtain⟨u,b⟩:=xG T d (j+1) x i r oq X (F.succ e) hi;exact⟨oq,b⟩
  .rename_i e
   split at hi
   .rename_i o
    cases hi;exact⟨Nat.le_refl _,oq,X,F,e,o,bI n,.one,(cH X).symm⟩
   .rename_i y a
    have Y:=T.cF _ _ _ a
    have l: ∀g,g∈iV n t 0->bJ n g:=λg m=>by
     obtain⟨_,_,_,_,_,e⟩:=gJ.1 m;exact T.cF _ _ _ e
    obtain⟨u,b,k,s,v,q,w,f,z⟩:=xG T d (j+1) _ i r oq (X.mul Y.inv) ((Fix.mul X oq F (Fix.inv Y oq (T.fix _ _ _ a))).succ (by
     rw[dA (by rw[X.len];omega)];have:=rO Y (show j<n by omega)
     rwa [T.maps _ _ _ a] at this)) hi
    have c:y∈iV n t 0:=gJ.2 ⟨j,_,Nat.zero_le _,oq,(T.lt _ _ _ a).2.1,a⟩;refine⟨oq,b,k,s,v,q,aZ w y,f.mul c,?_⟩;rw[<-aX k (f.cF l) Y,<-z,aX X Y.inv Y,dX Y,cH X]
def Sub (t t':Bm):Prop:= ∀i p y,t i p=some y->t' i p=some y
theorem Uf {a:Bm}(s:Sub t a):(d j:Nat)->(x:List Nat)->ins t d j x=none->ins a d j x=none
 |0,_,_,_=>rfl
 |d+1,j,x,h=>by
  unfold ins at h |-;split at h
  .rename_i e;rw[if_pos e];exact Uf s d _ _ h
  .rename_i e
   rw[if_neg e];split at h
   .cases h
   .rename_i y b
    rw[s _ _ _ b];exact Uf s d _ _ h
theorem FR {i p:Nat}{x:List Nat}(h:t i p=none):Sub t (put t i p x):=λj q y a=>by
 unfold put;rw[if_neg (λe=>by rw[e.1,e.2,h] at a;cases a)];exact a
theorem Us (T:tN n t):(d j:Nat)->(x:List Nat)->(i:Nat)->(r:List Nat)->j+d=n->bJ n x->Fix j x->ins t d j x=some (i,r)->ins (put t i (r.getD i 0) r) d j x=none
 |0,_,_,_,_,_,_,_,h=>by cases h
 |d+1,j,x,i,r,h,X,F,hi=>by
  obtain⟨l,m,o,f,q,c,_⟩:=xG T (d+1) j x i r h X F hi;have sub:=FR (t:=t) (x:=r) c;unfold ins at hi |-;split at hi
  .rename_i e;rw[if_pos e];exact Us T d (j+1) x i r oq X (F.succ e) hi
  .rename_i e
   rw[if_neg e];split at hi
   .cases hi
    have:put t j (x.getD j 0) x j (x.getD j 0)=some x:=by unfold put;rw[if_pos ⟨rfl,rfl⟩]
    rw[this];simp only;rw[fH X]
    have:(d j:Nat)->j+d=n-> ∀b:Bm,ins b d j (bI n)=none:=by
     intro d
     induction d with
     |zero=>intro _ _ _;rfl
     |succ d ih=>intro j k b;unfold ins;rw[if_pos (eG oq)];exact ih (j+1) oq b
    exact this d (j+1) oq _
   .rename_i y a
    have Y:=T.cF _ _ _ a;rw[sub _ _ _ a]
    exact Us T d (j+1) _ i r oq (X.mul Y.inv) ((Fix.mul X oq F (Fix.inv Y oq (T.fix _ _ _ a))).succ (by
     rw[dA (by rw[X.len];omega)];have:=rO Y (show j<n by omega)
     rwa [T.maps _ _ _ a] at this)) hi
end
end Go.Pm
namespace Go.Pm
section
variable {x:List Nat}
section
variable {n:Nat} {t:Bm}
theorem tN.YG (T:tN n t){j:Nat}: ∀g,g∈iV n t j->bJ n g:=λg a=>by
 obtain⟨_,_,_,_,_,e⟩:=gJ.1 a;exact T.cF _ _ _ e
theorem Sub.refl (t:Bm):Sub t t:=λ_ _ _ h=>h
theorem Sub.trans {a b c:Bm}(x:Sub a b)(y:Sub b c):Sub a c:=λi p z h=>y i p z (x i p z h)
theorem tN.empty (n:Nat):tN n (λ_ _=>none):=⟨λ_ _ _ h=>(by cases h),λ_ _ _ h=>(by cases h),λ_ _ _ h=>(by cases h),λ_ _ _ h=>(by cases h)⟩
theorem aaV (T:tN n t)(X:bJ n x):tN n (pW t n x)/\Sub t (pW t n x)/\ins (pW t n x) n 0 x=none/\ ∀g,g∈iV n (pW t n x) 0->fG n (λu=>u∈iV n t 0\/u=x) g:=by
 unfold pW
 cases h:ins t n 0 x with
 |none=>exact⟨T,Sub.refl t,h,λg l=>fG.of (λu c=>by rcases c with c|rfl;exact T.YG u c;exact X) (.inl l)⟩
 |some q=>
  have⟨i,r⟩:=q;have m:Fix 0 x:=λk L=>oq
  obtain⟨N,s,d,G,F,K,w,o,B⟩:=xG T n 0 x i r oq X m h
  have a: ∀j q y,put t i (r.getD i 0) r j q=some y->(j=i/\q=r.getD i 0/\y=r)\/t j q=some y:=λj q y b=>by
   unfold put at b;split at b
   .rename_i e;cases b;exact .inl ⟨e.1,e.2,rfl⟩
   .exact .inr b
  refine⟨⟨λj q y b=>?_,λj q y b=>?_,λj q y b=>?_,λj q y b=>?_⟩,FR K,Us T n 0 x i r oq X m h,λg l=>?_⟩
  .rcases a j q y b with ⟨rfl,rfl,rfl⟩|h
   .exact⟨s,d.eJ s,F⟩
   .exact T.lt _ _ _ h
  .rcases a j q y b with ⟨rfl,rfl,rfl⟩|h
   .exact d
   .exact T.cF _ _ _ h
  .rcases a j q y b with ⟨rfl,rfl,rfl⟩|h
   .exact G
   .exact T.fix _ _ _ h
  .rcases a j q y b with ⟨rfl,rfl,rfl⟩|h
   .rfl
   .exact T.maps _ _ _ h
  .have f: ∀u,(u∈iV n t 0\/u=x)->bJ n u:=λu c=>by
    rcases c with c|rfl
    .exact T.YG u c
    .exact X
   obtain⟨j,q,A,v,J,e⟩:=gJ.1 l;rcases a j q g e with ⟨_,_,rfl⟩|h
   .have W:=o.cF T.YG
    have z:g=aZ x (bY w):=by rw[B,aX d W W.inv,fH W,cH d]
    rw[z];exact (fG.of f (.inr rfl)).app f ((o.mono λu c=>Or.inl c).inv f)
   .exact fG.of f (.inl (gJ.2 ⟨j,q,A,v,J,h⟩))
structure BI (n:Nat)(L:List Nat->Prop)(t:Bm):Prop where
 tab:tN n t
 gen: ∀g,g∈iV n t 0->fG n L g
variable {L:List Nat->Prop}
theorem BI.ins (a:BI n L t)(c: ∀g,L g->bJ n g)(d:fG n L x):BI n L (pW t n x)/\Sub t (pW t n x)/\Go.Pm.ins (pW t n x) n 0 x=none:=by
 obtain⟨i,f,j,h⟩:=aaV a.tab (d.cF c);refine⟨⟨i,λg k=>(h g k).le (fG.kT c) λu b=>?_⟩,f,j⟩;rcases b with b|rfl
 .exact a.gen u b
 .exact d
structure UG (n:Nat)(L:List Nat->Prop)(τ:oL):Prop where
 tw:oH n 0 τ
 group: ∀x,S n τ 0 x↔fG n L x
theorem UG.start (a:0<n):UG n (λ_=>False) (VY n):=by
 refine⟨WG n,λx=>?_⟩;rw[(WG n).gen a];have:(λg=>g∈(VY n 0).gens)=λ_=>False:=funext λg=>propext ⟨λh=>(by cases h),λh=>h.elim⟩
 rw[this]
theorem UG.add {l d:oL}(a:UG n L l)(k:0<n)(i: ∀g,L g->bJ n g)(X:bJ n x)(b:Vx n 0 x l d):UG n (λg=>L g\/g=x) d:=by
 refine⟨b.tw,λz=>?_⟩
 have f: ∀g,(L g\/g=x)->bJ n g:=λg c=>by
  rcases c with c|rfl
  .exact i g c
  .exact X
 rw[b.group a.tw k X z];constructor
 .intro h
  refine h.le (fG.kT f) λg c=>?_
  rcases c with c|rfl
  .exact ((a.group g).1 c).mono λu j=> .inl j
  .exact fG.of f (.inr rfl)
 .intro h
  refine h.mono λg c=>?_
  rcases c with c|rfl
  .exact .inl ((a.group g).2 (fG.of i c))
  .exact .inr rfl
theorem UG.congr {M:List Nat->Prop}{b:oL}(a:UG n L b)(h: ∀g,L g↔M g):UG n M b:=by
 have:L=M:=funext λg=>propext (h g)
 exact this▸a
end
def EB (n:Nat)(R:VK):List Nat->Prop:=fG n λg=>g∈R.flatten
def Valid (n:Nat)(O:wG)(R:VK):Prop:=(∀g∈R.flatten,bJ n g)/\eD n (EB n R) O R
theorem Valid.iff {n:Nat}{O a:wG}{R b:VK}(d: ∀g∈R.flatten,bJ n g)(c:eD n (EB n R) a b):Valid n O R↔O=a/\R=b:=by
 constructor
 .rintro⟨_,h⟩;exact h.uniq c
 .rintro⟨rfl,rfl⟩;exact⟨d,c⟩
theorem Valid.kT {n:Nat}{O:wG}{R:VK}(v:Valid n O R):oK n (EB n R):=fG.kT v.1
end
end Go.Pm
namespace Go.Proofs.YtoighkablmjfeaaGreat
open Go Go.Ay Go.Pm
def Ia (c:Nat):V:=if c<130 then .aH else aC 0
def lv0:Lv:=⟨[], [],λ_=>none,λ_=>0⟩
theorem aaW: [V.aH,V.aH,V.aH,V.aH,V.aH,V.aH,V.aH,V.aH,V.aH,V.aH,V.aH,V.aH,V.aH,V.aH,V.aH,V.aH,V.aH,V.aH,V.aH,V.aH,V.aH,V.aH,V.aH,V.aH,V.aH,V.aH,V.aH,V.aH,V.aH,V.aH,V.aH,V.aH,V.aH,V.aH,V.aH,V.aH,V.aH,V.aH,V.aH,V.aH,V.aH,V.aH,V.aH,V.aH,V.aH,V.aH,V.aH,V.aH,V.aH,V.aH,V.aH,V.aH,V.aH,V.aH,V.aH,V.aH,V.aH,V.aH,V.aH,V.aH,V.aH,V.aH,V.aH,V.aH,V.aH,V.aH,V.aH,V.aH,V.aH,V.aH,V.aH,V.aH,V.aH,V.aH,V.aH,V.aH,V.aH,V.aH,V.aH,V.aH,V.aH,V.aH,V.aH,V.aH,V.aH,V.aH,V.aH,V.aH,V.aH,V.aH,V.aH,V.aH,V.aH,V.aH,V.aH,V.aH,V.aH,V.aH,V.aH,V.aH,V.aH,V.aH,V.aH,V.aH,V.aH,V.aH,V.aH,V.aH,V.aH,V.aH,V.aH,V.aH,V.aH,V.aH,V.aH,V.aH,V.aH,V.aH,V.aH,V.aH,V.aH,V.aH,V.aH,V.aH,V.aH,V.aH,V.aH,V.aH,V.aH,V.aH,(aC 0),(aC 0),(aC 0),(aC 0),(aC 0),(aC 0),(aC 0),(aC 0),(aC 0),(aC 0),(aC 0),(aC 0),(aC 0),(aC 0),(aC 0),(aC 0),(aC 0),(aC 0),(aC 0),(aC 0),(aC 0),(aC 0),(aC 0),(aC 0),(aC 0),(aC 0),(aC 0),(aC 0),(aC 0),(aC 0),(aC 0),(aC 0),(aC 0),(aC 0),(aC 0),(aC 0),(aC 0),(aC 0),(aC 0),(aC 0),(aC 0),(aC 0),(aC 0),(aC 0),(aC 0),(aC 0),(aC 0),(aC 0),(aC 0),(aC 0),(aC 0),(aC 0),(aC 0),(aC 0),(aC 0),(aC 0),(aC 0),(aC 0),(aC 0),(aC 0),(aC 0),(aC 0),(aC 0),(aC 0)]=rc 194 Ia:=rfl
theorem NF (n:Nat):cJ (rc 194 Ia) (n*194)=rc (n*194) λc=>Ia (c%194):=by
 refine List.ext_getElem (by simp [cJ,dE]) λi a b=>?_
 simp [cJ,rc];rw[List.getElem?_range (Nat.mod_lt _ om)];rfl
def XJ (n i:Nat):oL:=λj=>if j<i then VY n j else lv0
theorem qB.congr {h:H}{n f L:Nat}{F:Nat->V}{i b:oL}(R:qB h n f L F i)(e: ∀j,j<n->i j=b j):qB h n f L F b:=
 ⟨R.t,R.l,R.tn,R.ln,R.tw,λj p a d=>by rw[<-e j a];exact R.to j p a d,λj p a d=>by rw[<-e j a];exact R.iv j p a d,λj p a d=>by rw[<-e j a];exact R.tr j p a d,
  λj c=>by rw[<-e j c];exact R.gens j c,λj c=>by rw[<-e j c];exact R.orb j c,R.uY,R.ap⟩
theorem Wb (n:Nat)(h:H)(h0:0<n)(hn:n<=20):
  Ev T 220 [aC n] h (λv h'=> ∃tid L F,v= .ptr tid 0/\qB h' n tid L F (VY n)/\Fr h h'/\ ∀id,WT n L F id->h.next<=id):=by
 refine mV ?_
 have hm:sD h 194 3632 (rc 194 Ia) (aC n) (aC n)=some (.sl h.next 0 n (.kn n),h.new (.cells false (rc (n*194) λc=>Ia (c%194)))):=by
  rw[iH om (Int.le_refl _) om om,Mc,NF]
 obtain⟨w,K⟩: ∃w:Nat->V,w=λc=>Ia (c%194):=⟨_,rfl⟩
 obtain⟨L,P⟩:=exI h.next
 rw[P,<-K] at hm
 simp(disch:=omega)only[go_sem,aV,aaW,hm,Wx (z1:= aC 0) (z2:= .aH) (v:= aC n) (u:= .sl L 0 n (.kn n)) rfl rfl rfl rfl,oS _ (v:= aC n) (u:= .sl L 0 n (.kn n)) rfl rfl,P]
 obtain⟨d,m⟩: ∃d,d=(h.new (.cells false (rc (n*194) w))).new (.cells false [aC n,.sl L 0 n (.kn n)]):=⟨_,rfl⟩
 rw[<-m]
 have g1:d.get L=some (.cells false (rc (n*194) w)):=by rw[m,H.bG _ (by rw[H.aM];omega),<-P,H.aI]
 have g2:d.get (L+1)=some (.cells false [aC n,.sl L 0 n (.kn n)]):=by
  rw[m];have:=H.aI (h.new (.cells false (rc (n*194) w))) (.cells false [aC n,.sl L 0 n (.kn n)]);rwa [H.aM,P] at this
 have n2:d.next=L+2:=by rw[m,H.aM,H.aM,P]
 have f2:Fr h d:=by rw[m];exact ((Fr.refl h).new _).new _
 clear m hm
 have s0: ∀s,s<2*n->tC w s= .aH:=λs _=>by
  unfold tC Ia at*;rw[K];simp only;rw[aS om]
 have w0: ∀id,WT n L w id->id=L:=λid y=>by
  rcases y with e|⟨s,hs,a4,len,c,e⟩
  .exact e
  .rw[s0 s hs] at e;cases e
 have z0: ∀j c,c<194->w (j*194+c)=Ia c:=λj c hc=>by
  rw[K];simp only;rw[Nat.mul_comm,Nat.mul_add_mod,Nat.mod_eq_of_lt hc]
 have z1: ∀j b c,b+c<194->w (j*194+b+c)=Ia (b+c):=λj b c hc=>by rw[Nat.add_assoc];exact z0 j (b+c) hc
 have R:qB d n (L+1) L w (XJ n 0):=by
  refine⟨g2,g1,om,om,λy=>by have:=w0 _ y;omega,λj p a d=>?_,λj p a d=>?_,λj p a d=>?_,λj hj=>⟨[],?_,trivial⟩,λj hj=>?_,λs s' a d _=>?_,λs a=>?_⟩
  .rw[z1 j 2 p om];unfold Ia;rw[aS om];rfl
  .rw[z1 j 66 p om];unfold Ia;rw[aS om];rfl
  .rw[z1 j 130 p om];unfold Ia;rw[aQ om];rfl
  .have:=z0 j 0 om
   rw[Nat.add_zero] at this;rw[this];exact dF.aH ..
  .rw[z0 j 1 om];exact dF.aH ..
  .rw[s0 s a];intro i o n c e;cases e
  .rw[s0 s a];exact cW.aH _
 have a3:d.cell (L+1) 1=some (.sl L 0 n (.kn n)):=by rw[H.cell_of g2];rfl
 refine bM a3 ?_
 refine aP (λk' J hh=> ∃(i:Nat) (F:Nat->V),(∃g:Nat->V,J= [aC n,g 1,.ptr (L+1) 0,g 3,g 4,aC n,aC i,g 7])/\i<=n/\qB hh n (L+1) L F (XJ n i)/\Fr h hh/\(∀id,WT n L F id->h.next<=id)/\k'=n-i) n
  ⟨0,w,aD rfl,fY _,R,f2,λid y=>by rw[w0 id y];omega,rfl⟩ ?_
 clear R g1 g2 n2 f2 s0 w0 z0 z1
 rintro k' J h3 ⟨i,F,⟨g,rfl⟩,hi,R,f,y,rfl⟩
 refine aT ?_
 by_cases U:(i:Int)<(n:Int)
 .rw[cV U]
  have O:i<n:=om
  have cl:h3.cell (L+1) 1=some (.sl L 0 n (.kn n)):=by rw[H.cell_of R.t];rfl
  have ln:=R.ln
  have hN:i*194+194<=n*194:=om
  have e0:XJ n i i=lv0:=by unfold XJ;rw[aQ om]
  refine jX cl (dL h3 (z:= aC 0) (v:= aC i) rfl rfl) @R.l @Gu ?_
  obtain⟨x,A⟩: ∃x,x=(h3.new (.cells false [aC i])).set L (some (.cells false (rc (n*194) (F1 F (i*194+1) (.sl h3.next 0 1 (.kn 1)))))):=⟨_,rfl⟩
  rw[<-A]
  have p4:xQ h3 (F (i*194+1)) 0 1 1 [] [aC i] (h3.new (.cells false [aC i])):=⟨H.aI ..,H.aM ..,λk hk _=>H.bG h3 hk _⟩
  obtain⟨Y,f4,w4⟩:=R.VV O (q:=i) (v:= .sl h3.next 0 1 (.kn 1)) (by rw[e0];exact p4) (.inr rfl) (by rw[e0];rfl) A
  obtain⟨G,a0⟩: ∃G,G=F1 F (i*194+1) (.sl h3.next 0 1 (.kn 1)):=⟨_,rfl⟩
  rw[<-a0] at Y w4
  have n4:x.next=h3.next+1:=by rw[A,H.bT,H.aM]
  have N: ∀id,WT n L G id->h.next<=id:=λid a=>by
   by_cases d:id<h3.next
   .exact y id (w4 id d a)
   .have:=f.next;omega
  have a2:Fr h x:=⟨kQ f.next f4.next,λid a=>(f4.get id (iD a f.next) λd=>by have:=y id d;omega).trans (f.get id a)⟩
  clear A
  generalize Q:tG (XJ n i) i {XJ n i i with orb:=(XJ n i i).orb++ [i]}=B at Y
  have e4:B i={lv0 with orb:= [i]}:=by rw[<-Q,Cz,e0];rfl
  refine (Sj sG.ok n (H.mk x.tr (h3.next+1+16)) om).mono ?_
  rintro va h5 na
  refine aT ?_
  refine (Sj sG.ok n h5 om).mono ?_
  rintro vb h6 Z
  have f5:Fr x h5:=((Fr.refl x).cU om:Fr x (H.mk x.tr (h3.next+1+16))).trans na.fr
  have R6:=Y.mono (f5.trans Z.fr)
  have pa:=(na.pv (W:=WT n L G) (λa=>by have:=Y.AN a;simp at this;omega)).mono Z.fr
  have pb:=Z.pv (W:=WT n L G) (λa=>by have:=Y.AN a;have:=f5.next;omega)
  have a1:PV (WT n L G) h6 vb (bY (bI n)):=by rw[xT];exact pb
  refine jX @R6.l (eH pa.fX.1 pa.fX.2) (eH pb.fX.1 pb.fX.2) @Gu ?_
  obtain⟨R7,f7,w7⟩:=R6.way O (q:=i) om pa a1 (h3:=(h6.set L (some (Ob.cells false (rc (n*194) (F1 G (i*194+2+i) va))))).set L (some (Ob.cells false (rc (n*194) (F1 (F1 G (i*194+2+i) va) (i*194+66+i) vb))))) (dN _) (λid a _=>by rw[H.Cj _ a,H.Cj _ a]) (by rw[H.aJ])
  have eT:tG B i {B i with to:=λr=>if r=i then some (bI n) else (B i).to r}=XJ n (i+1):=by
   funext j
   by_cases e:j=i
   .subst e
    rw[Cz,e4];unfold XJ;rw[aS om]
    rfl
   .rw[dZ _ _ e,<-Q,dZ _ _ e]
    unfold XJ
    by_cases e2:j<i
    .rw[aS e2,aS om]
    .rw[aQ e2,aQ om]
  rw[eT] at R7
  have f6:=a2.trans (f5.trans Z.fr)
  rw[fJ i]
  refine⟨n-(i+1),om,i+1,_,aD rfl,om,R7,⟨kQ f6.next f7.next,λid a=>(f7.get id (iD a f6.next) λd=>by have:=N id d;omega).trans (f6.get id a)⟩,λid a=>N id ((w7 id).1 a),rfl⟩
 rw[bZ U]
 obtain rfl:i=n:=om
 refine aT ?_
 have eT:qB h3 i (L+1) L F (VY i):=R.congr λj hj=>by unfold XJ;rw[aS hj]
 exact⟨L+1,L,F,rfl,eT,f,λid a=>by have:=y id a;omega⟩
abbrev SP (h:H)(v:V)(l:LN):Prop:=SR h v (l.map zi)
theorem Oi {h:H}{ws:List V}{l:LN}(a:bH (SI h) ws (l.map zi)){i:Nat}(hi:i<l.length):SI h (ws.getD i .undef) (zi (l.getD i [])):=by
 have:=Mz a (i:=i) (by simpa using hi);rwa [show (l.map zi).getD i []=zi (l.getD i []) by simp [List.getD,hi]] at this
theorem acZ {W:Nat->Prop}{h:H}{b:Nat}{v:V}{l:List Int}(s:SI h v l)(d:h.next<=b)(a: ∀id,W id->b<=id):vI W v:=by
 cases v with
 |sl id off len cap=>exact λc=>by have:=s.in _ _ _ _ rfl;have:=a id c;omega
 |_=>trivial
theorem OJ {l:LN}{i:Nat}(hi:i<l.length)(g:List Nat):g∈l.take (i+1)↔g∈l.take i\/g=l.getD i []:=by
 rw[List.take_add_one,dJ hi,Es];simp [List.getD,hi]
theorem PO (n:Nat)(s:V)(l:LN)(h:H)(r:0<n)(K:n<=20)(hl:l.length<1000000)(N:SP h s l)(O: ∀g∈l,bJ n g):
  Ev T 162 [aC n,s] h (λv h'=> ∃tid L F τ,v= .ptr tid 0/\qB h' n tid L F τ/\UG n (· ∈l) τ/\Fr h h'/\ ∀id,WT n L F id->h.next<=id):=by
 refine lG ?_
 refine (Wb n h r K).mono ?_
 rintro _ j ⟨tid,L,F,rfl,R,f,c⟩
 have Q:=N.lens
 rw[dO] at Q
 obtain⟨id,x,B,z,o,u,U,m⟩:=N.open
 rw[dO] at z o u U
 refine bM Q ?_
 refine aP (λG b J=> ∃(i:Nat) (F:Nat->V) (τ:oL),(∃g:Nat->V,b= [aC n,s,g 2,.ptr tid 0,g 4,s,aC (l.length:Int),aC i,g 8])/\i<=l.length/\qB J n tid L F τ/\UG n (· ∈l.take i) τ/\Fr h J/\(∀id,WT n L F id->h.next<=id)/\G=l.length-i) l.length
  ⟨0,F,VY n,aD rfl,fY _,R,(UG.start r).congr siM,f,c,rfl⟩ ?_
 clear R f c F
 rintro G b q ⟨i,F,τ,⟨g,rfl⟩,hi,R,t,f,c,rfl⟩
 refine aT ?_
 by_cases d:(i:Int)<(l.length:Int)
 .rw[cV d]
  have a:i<l.length:=om
  have ci:q.cell id (x+i)=some (B.getD i .undef):=by rw[f.cell (o om),U i a]
  have A:=Oi m a
  have pv:PV (WT n L F) q (B.getD i .undef) (l.getD i []):=⟨A.mono f,acZ A (dN _) c⟩
  have X:bJ n (l.getD i []):=O _ (by simp [List.getD,a])
  refine eZ @z.ixa ci ?_
  refine (Ex n K r q tid L F τ _ _ R pv X (λk hk=>om) t.tw).mono ?_
  rintro vv h3 ⟨F3,y,Y,a3,P,Z⟩
  have W:=(t.add r (λg hg=>O g (List.mem_of_mem_take hg)) X a3).congr λg=>(OJ a g).symm
  refine aT ?_
  rw[fJ i]
  refine⟨l.length-(i+1),om,i+1,F3,y,aD rfl,om,Y,W,⟨kQ f.next P.next,λid j=>(P.get id (iD j f.next) λw=>by have:=c id w;omega).trans (f.get id j)⟩,λid j=>?_,rfl⟩
  by_cases w:id<q.next
  .exact c id (Z id w j)
  .have:=f.next;omega
 rw[bZ d]
 obtain rfl:i=l.length:=om
 refine aT ?_
 exact⟨tid,L,F,τ,rfl,R,t.congr λg=>by rw[List.take_length],f,c⟩
end Go.Proofs.YtoighkablmjfeaaGreat
namespace Go.Proofs.YtoighkablmjfeaaGreat
open Go Go.Ay Go.Pm
theorem NA (x:List Nat)(l:List Nat){i:Nat}(hi:i<l.length)(b:Nat):uN x b (l.drop i)=uN x (if x.getD (l.getD i 0) 0<x.getD b 0 then l.getD i 0 else b) (l.drop (i+1)):=by
 rw[EF hi,cM hi];rfl
theorem VH (h:H)(n i L:Nat)(F:Nat->V)(τ:oL)(vx:V)(x:List Nat)(l:Nat)(hn:n<=20)(R:qB h n i L F τ)(hx:PV (WT n L F) h vx x)(X:bJ n x)(b3:l<n)(t:oH n (l+1) τ):
  Ev T 224 [.ptr i 0,vx,aC l] h (λv h'=>PV (WT n L F) h' v (Qd τ (n-(l+1)) (l+1) x)/\bJ n (Qd τ (n-(l+1)) (l+1) x)/\Fr h h'):=by
 refine lG ?_
 rw[fJ l]
 refine aP (λk' d hh=> ∃(k:Nat) (y:List Nat) (Q:V),(∃g:Nat->V,d= [.ptr i 0,Q,g 2,g 3,aC k,g 5,g 6,g 7,g 8,g 9,g 10,g 11,g 12,g 13])/\l<k/\k<=n/\Qd τ (n-k) k y=Qd τ (n-(l+1)) (l+1) x/\
   PV (WT n L F) hh Q y/\bJ n y/\Fr h hh/\k'=n-k) (n-(l+1))
  ⟨l+1,x,vx,aD rfl,om,om,rfl,hx,X,Fr.refl h,rfl⟩ ?_
 rintro k' d J ⟨k,y,Q,⟨g,rfl⟩,b4,b2,s,hy,Y,f,rfl⟩
 have W:=R.mono f
 have ct:J.cell i 0=some (aC n):=by rw[H.cell_of W.t];rfl
 have cl:J.cell i 1=some (.sl L 0 n (.kn n)):=by rw[H.cell_of W.t];rfl
 refine eZ ct cl ?_
 by_cases a1:(k:Int)<(n:Int)
 case neg=>
  rw[bZ a1];obtain rfl:k=n:=om
  rw[Nat.sub_self] at s;refine aT ?_;rw[<-s];exact⟨hy,Y,f⟩
 have c:k<n:=om
 rw[cV a1]
 have co:J.cell L (k*194+1)=some (F (k*194+1)):=W.cell c om
 have oo:=W.orb k c
 have lo:=dF.lens oo (by rw[aE,bD])
 have nY:=(t k om c).1
 have b1:=ZE nY c
 refine iG cl co lo ?_
 obtain⟨id,a9,sh,a0,hc⟩:=(show SI J (F (k*194+1)) (zi (τ k).orb) from oo.sv).open
 rw[bD] at sh a0 hc
 obtain⟨Z,A,a5,o,N⟩:=hy.si.open
 rw[bD,Y.len] at a5 o N
 refine aP (λm' d hh=> ∃(m b:Nat),(∃g:Nat->V,d= [.ptr i 0,Q,g 2,g 3,aC k,aC b,g 6,g 7,F (k*194+1),aC ((τ k).orb.length:Int),aC m,g 11,g 12,g 13])/\m<=(τ k).orb.length/\b<n/\b∈k::(τ k).orb/\
   uN y b ((τ k).orb.drop m)=uN y k (τ k).orb/\Fr J hh/\m'=(τ k).orb.length-m) (τ k).orb.length
  ⟨0,k,aD rfl,fY _,c,wI ..,rfl,Fr.refl J,rfl⟩ ?_
 rintro m' d w ⟨m,b,⟨g3,rfl⟩,hm,hb,a2,a,G,rfl⟩
 refine aT ?_
 by_cases B:(m:Int)<((τ k).orb.length:Int)
 .rw[cV B]
  have r:m<(τ k).orb.length:=om
  rw[NA _ _ r] at a
  have cq:w.cell id (a9+m)=some (aC ((τ k).orb.getD m 0:Nat)):=by rw[G.cell (a0 om),hc m r];congr 2;simp [zi,r]
  have K:(τ k).orb.getD m 0∈(τ k).orb:=by rw[cM r];exact Hn r
  have z:=nY.lt c K
  generalize (τ k).orb.getD m 0=q at cq K z a
  have c1:w.cell Z (A+q)=some (aC (y.getD q 0:Nat)):=by rw[G.cell (o om),N q z];congr 2;simp [zi,Y.len,z]
  have c2:w.cell Z (A+b)=some (aC (y.getD b 0:Nat)):=by rw[G.cell (o om),N b hb];congr 2;simp [zi,Y.len,hb]
  refine nW @sh.ixa cq @a5.ixa c1 c2 ?_
  have fb:Fr J (H.mk w.tr (w.next+9)):=G.cU om
  by_cases a4:((y.getD q 0:Nat):Int)<((y.getD b 0:Nat):Int)
  .rw[cV a4]
   rw[aS om] at a
   refine aT ?_
   rw[fJ m]
   exact⟨(τ k).orb.length-(m+1),om,m+1,q,aD rfl,om,z,wH _ K,a,fb,rfl⟩
  .rw[bZ a4]
   rw[aQ om] at a
   refine aT ?_
   rw[fJ m]
   exact⟨(τ k).orb.length-(m+1),om,m+1,b,aD rfl,om,hb,a2,a,fb,rfl⟩
 rw[bZ B]
 have em:m=(τ k).orb.length:=om
 rw[em,List.drop_length] at a
 have a:b=uN y k (τ k).orb:=a
 have O:n-k=(n-(k+1))+1:=om
 rw[O] at s
 have s:Qd τ (n-(k+1)) (k+1) (if uN y k (τ k).orb=k then y else aZ (((τ k).to (uN y k (τ k).orb)).getD []) y)=Qd τ (n-(l+1)) (l+1) x:=s
 rw[<-a] at s
 have R3:=W.mono G
 have a3:=hy.mono G
 refine aT ?_
 by_cases P:b=k
 .rw[aS P] at s
  have e0:decide ((b:Int)≠(k:Int))=false:=bZ om
  refine bM e0 ?_
  rw[fJ k]
  exact⟨n-(k+1),om,k+1,y,Q,aD rfl,om,om,s,a3,Y,f.trans G,rfl⟩
 rw[aQ P] at s
 have e0:decide ((b:Int)≠(k:Int))=true:=cV om
 have b0:w.cell i 1=some (.sl L 0 n (.kn n)):=by rw[H.cell_of R3.t];rfl
 have a8:b∈(τ k).orb:=by
  rcases Hu.1 a2 with e|e
  .exact absurd e P
  .exact e
 obtain⟨u,hu⟩:=nY.to a8
 have U:=nY.cF _ _ hu
 have a7:w.cell L (k*194+2+b)=some (F (k*194+2+b)):=R3.Qc c om
 have a6:PV (WT n L F) w (F (k*194+2+b)) u:=by
  have:=R3.to k b c om;rw[hu] at this;exact this
 rw[hu] at s
 refine iG e0 b0 a7 ?_
 refine (zD mM.ok _ Q u y w (by rw[U.len];omega) a6.si a3.si (λj hj=>by rw[Y.len];exact U.eJ (by rw[<-U.len];exact hj))).mono ?_
 rintro v h4 nw
 refine aT ?_
 rw[fJ k]
 exact⟨n-(k+1),om,k+1,_,v,aD rfl,om,om,s,nw.pv (λhw=>by have:=R3.AN hw;omega),U.mul Y,(f.trans G).trans nw.fr,rfl⟩
end Go.Proofs.YtoighkablmjfeaaGreat
namespace Go.Proofs.YtoighkablmjfeaaGreat
open Go Go.Ay Go.Sort
section
variable {h:H} {S N i j a:Nat} {d:Array Int} {lt:Int->Int->Bool}
structure Bh (h:H)(S N:Nat)(d:Array Int):Prop where
 get:h.get S=cE (ints d.toList)
 size:d.size=N
 lt:S<h.next
theorem Bh.rd (A:Bh h S N d)(hi:i<N):h.cell S i=some (aC d[i]!):=by
 have b:i<d.size:=by rw[A.size];exact hi
 rw[H.cell_of A.get];simp [ints,b]
theorem Bh.fr {h':H}(A:Bh h S N d)(f:Fr h h'):Bh h' S N d:=⟨by rw[f.get _ A.lt];exact A.get,A.size,iD A.lt f.next⟩
theorem xA (hi:i<d.size)(b:H)(S:Nat)(x:Int):dY (cE (ints d.toList)) b S i [aC x]=some (b.set S (cE (ints (d.setIfInBounds i x).toList))):=by
 rw[Fl (by simpa using hi),Array.toList_setIfInBounds]
theorem Gq {y:Int}(hi:i<d.size)(b:H)(S:Nat)(x:Int):dY (cE (ints (d.setIfInBounds j y).toList)) b S i [aC x]=some (b.set S (cE (ints ((d.setIfInBounds j y).setIfInBounds i x).toList))):=
 xA (by simpa using hi) b S x
theorem Bh.swap {h2:H}(A:Bh h S N d){nx:Nat}(b:h.next<=nx)(e:h2=((H.mk h.tr nx).set S (cE (ints (d.setIfInBounds i d[j]!).toList))).set S (cE (ints ((d.setIfInBounds i d[j]!).setIfInBounds j d[i]!).toList))):Bh h2 S N (swp d i j)/\Fx (· =S) h h2:=by
 subst e;refine⟨⟨?_,?_,iD A.lt b⟩,⟨b,λid _ c=>?_⟩⟩
 .rw[H.aJ];rfl
 .have:=A.size;simp [swp,this]
 .rw[H.Cj _ c,H.Cj _ c];rfl
theorem yN (a:Int)(h:H):Ev T 96 [aC a] h (λv h'=>v= .bool false/\h'=h):=by
 refine mV ?_;have e:decide (a≠a)=false:=bZ om;exact adI @aV e
theorem UZ (a b:Int)(h:H):Ev T 174 [aC a,aC b] h (λv h'=>v= .bool (ltInt a b)/\Fr h h'):=by
 refine lG ?_;refine (yN a h).mono ?_;rintro _ c ⟨rfl,rfl⟩;refine aT ?_;exact⟨rfl,Fr.refl _⟩
theorem Ps {a b c:H}(x:Fx (· =S) a b)(y:Fx (· =S) b c):Fx (· =S) a c:=x.trans y λ_ _ h=>h
theorem DZ (b:a<j+1)(h2:lt d[j+1]! d[j]! =true):insInner lt a (j+1) d=insInner lt a j (swp d (j+1) j):=by
 rw[insInner,aS (by simp [b,h2])]
theorem DK (h2:lt d[j+1]! d[j]! =false):insInner lt a (j+1) d=d:=by
 rw[insInner,aQ (by simp [h2])]
theorem CY (h:j<=a):insInner lt a j d=d:=by
 cases j with
 |zero=>rfl
 |succ j=>rw[insInner,aQ siO]
theorem Ee (h:H)(S N a b:Nat)(d:Array Int)(w:qD)(hN:N<1000000)(A:Bh h S N d)(R:b<=N)(G:a<=b):
  Ev T 168 [.sl S 0 N w,aC a,aC b] h (λ_ h'=>Bh h' S N (insertionSort ltInt d a b)/\Fx (· =S) h h'):=by
 refine lG ?_
 rw[fJ a]
 refine aP (λr c s=> ∃(i:Nat) (e:Array Int),(∃g:Nat->V,c= [.sl S 0 N w,aC a,aC b,aC i,g 4,g 5,g 6])/\a<i/\i<=b+1/\Bh s S N e/\insOuter ltInt a b i e=insertionSort ltInt d a b/\Fx (· =S) h s/\r=b+1-i) (b+1-(a+1))
  ⟨a+1,d,aD rfl,om,om,A,rfl,Fx.refl _ h,rfl⟩ ?_
 clear A
 rintro r c Z ⟨i,e,⟨g,rfl⟩,z,J,A,l,F,rfl⟩
 refine aT ?_
 by_cases q:(i:Int)<(b:Int)
 case neg=>
  rw[bZ q];refine aT ?_;rw[insOuter,aQ om] at l;rw[<-l];exact⟨A,F⟩
 rw[cV q]
 rw[insOuter,aS om] at l
 refine aT ?_
 refine aP (λr c s=> ∃(j:Nat) (f:Array Int),(∃g:Nat->V,c= [.sl S 0 N w,aC a,aC b,aC i,aC j,g 5,g 6])/\a<=j/\j<=i/\Bh s S N f/\insInner ltInt a j f=insInner ltInt a i e/\Fx (· =S) h s/\r=j) i
  ⟨i,e,aD rfl,om,om,A,rfl,F,rfl⟩ ?_
 clear A F
 rintro r c n ⟨j,f,⟨U,rfl⟩,B,Q,A,o,F,Y⟩
 have sz:=A.size
 by_cases t:(a:Int)<(j:Int)
 .obtain⟨m,rfl⟩: ∃m,j=m+1:=⟨j- 1,om⟩
  have K:=A.rd (i:=m+1) om
  have L:=A.rd (i:=m) om
  have e1:=cV t
  have e2:((m+1:Nat):Int)- 1=(m:Int):=om
  refine jX e1 e2 K L ?_
  refine (UZ _ _ _).mono ?_
  rintro _ x ⟨rfl,v⟩
  have k:Fr n x:=Fr.trans ((Fr.refl n).cU om) v
  have u:=A.fr k
  have O:=u.rd (i:=m+1) om
  have P:=u.rd (i:=m) om
  cases hl:ltInt f[m+1]! f[m]! with
  |false=>
   rw[DK hl] at o;refine bM hl ?_;rw[fJ i];rw[<-o] at l;exact⟨b+1-(i+1),om,i+1,f,aD rfl,om,om,u,l,Ps F (Fx.of k),rfl⟩
  |true=>
   rw[DZ om hl] at o;refine Ie hl e2 O P @u.get @xA @Gq ?_;have W:=u.swap (i:=m+1) (j:=m) (nx:=x.next+18) om rfl;exact⟨m,om,m,_,aD rfl,om,om,W.1,o,Ps (Ps F (Fx.of k)) W.2,rfl⟩
 .have e1:=bZ t
  rw[CY om] at o
  refine bM e1 ?_
  rw[fJ i]
  rw[<-o] at l
  have y:Fr n (H.mk n.tr (n.next+15)):=(Fr.refl n).cU om
  exact⟨b+1-(i+1),om,i+1,f,aD rfl,om,om,A.fr y,l,Ps F (Fx.of y),rfl⟩
end
end Go.Proofs.YtoighkablmjfeaaGreat
namespace Go.Proofs.YtoighkablmjfeaaGreat
open Go Go.Ay Go.Sort
def abY (op:BinOp)(k:IntKind)(x y:V):Option V:=match x,y with
 | .int j a,.int _ b=>if j=k then Vg op k a b else none
 |_,_=>none
theorem Tf (ρ:X->V)(h:H)(op:BinOp)(k:IntKind)(x y:X):dI ρ h (.Hx op k x y)=(abY op k (ρ x) (ρ y)).map (·,h):=by
 simp only[dI,abY];cases ρ x<;>cases ρ y<;>try rfl
 simp only;split<;>rfl
theorem Jh (op:BinOp)(k j:IntKind)(a b:Int):abY op k (.int k a) (.int j b)=Vg op k a b:=by simp [abY]
theorem wrap_u64 (n:Int):0<=IntKind.u64.wrap n/\IntKind.u64.wrap n<18446744073709551616:=by
 unfold IntKind.wrap;simp only[IntKind.bits,IntKind.signed];have:=Int.emod_nonneg n (show (18446744073709551616:Int)≠0 by omega);have:=Int.emod_lt_of_pos n (show (0:Int)<18446744073709551616 by omega);simp;omega
theorem Hi {n:Int}(a:0<=n)(h2:n<18446744073709551616):IntKind.u64.wrap n=n:=by
 unfold IntKind.wrap;simp only[IntKind.bits,IntKind.signed];have:n%18446744073709551616=n:=Int.emod_eq_of_lt a h2;simp;exact this
theorem rV {n:Int}(a:0<=n)(h2:n<256):IntKind.u8.wrap n=n:=by
 unfold IntKind.wrap;simp only[IntKind.bits,IntKind.signed];have:n%256=n:=Int.emod_eq_of_lt a h2;simp;exact this
theorem ZS (a b:Int)(c:0<=b): ∃y,Vg .shl .u64 a b=some (.int .u64 y)/\0<=y/\y<18446744073709551616:=by
 unfold Vg;rw[aQ om];exact⟨_,rfl,wrap_u64 _⟩
theorem akJ (a b:Int)(c:0<=b): ∃y,Vg .shr .u64 a b=some (.int .u64 y):=by
 unfold Vg;rw[aQ om];exact⟨_,rfl⟩
theorem IX {x:Nat}:Vg .shr .u64 (x:Int) 8=some (.int .u64 ((x/256:Nat):Int)):=by
 unfold Vg;rw[aQ om];simp only;congr 2;show Int.fdiv (x:Int) 256=_;rw[Int.fdiv_eq_ediv_of_nonneg _ om];rfl
theorem MD (a b:Int): ∃y,arith .xor .u64 a b=some (.int .u64 y)/\0<=y/\y<18446744073709551616:=⟨_,rfl,wrap_u64 _⟩
theorem akP (a:Int)(b:Nat)(c:b<18446744073709551616): ∃y:Nat,arith .and .u64 a (b:Int)=some (.int .u64 (y:Int))/\y<=b:=by
 refine⟨(BitVec.ofInt 64 a&&&BitVec.ofInt 64 (b:Int)).toNat,?_,?_⟩
 .rw[MK]
  congr 2;show IntKind.u64.wrap (((BitVec.ofInt 64 a&&&BitVec.ofInt 64 (b:Int)).toNat:Nat):Int)=_;have:=(BitVec.ofInt 64 a&&&BitVec.ofInt 64 (b:Int)).isLt;generalize (BitVec.ofInt 64 a&&&BitVec.ofInt 64 (b:Int)).toNat=w at*;exact Hi om om
 .rw[BitVec.toNat_and]
  have:(BitVec.ofInt 64 (b:Int)).toNat=b:=by
   simp [BitVec.toNat_ofInt];omega
  rw[this];exact Nat.and_le_right
theorem UN: ∀z,z<256->([0,1,2,2,3,3,3,3,4,4,4,4,4,4,4,4,5,5,5,5,5,5,5,5,5,5,5,5,5,5,5,5,6,6,6,6,6,6,6,6,6,6,6,6,6,6,6,6,6,6,6,6,6,6,6,6,6,6,6,6,6,6,6,6,7,7,7,7,7,7,7,7,7,7,7,7,7,7,7,7,7,7,7,7,7,7,7,7,7,7,7,7,7,7,7,7,7,7,7,7,7,7,7,7,7,7,7,7,7,7,7,7,7,7,7,7,7,7,7,7,7,7,7,7,7,7,7,7,8,8,8,8,8,8,8,8,8,8,8,8,8,8,8,8,8,8,8,8,8,8,8,8,8,8,8,8,8,8,8,8,8,8,8,8,8,8,8,8,8,8,8,8,8,8,8,8,8,8,8,8,8,8,8,8,8,8,8,8,8,8,8,8,8,8,8,8,8,8,8,8,8,8,8,8,8,8,8,8,8,8,8,8,8,8,8,8,8,8,8,8,8,8,8,8,8,8,8,8,8,8,8,8,8,8,8,8,8,8,8,8,8,8,8,8,8,8,8,8,8,8,8,8,8,8,8,8][z]? :Option Nat)=some (bitsLen z):=by decide+kernel
theorem FV {z:Nat}(b:z<256):ZF (.str [0,1,2,2,3,3,3,3,4,4,4,4,4,4,4,4,5,5,5,5,5,5,5,5,5,5,5,5,5,5,5,5,6,6,6,6,6,6,6,6,6,6,6,6,6,6,6,6,6,6,6,6,6,6,6,6,6,6,6,6,6,6,6,6,7,7,7,7,7,7,7,7,7,7,7,7,7,7,7,7,7,7,7,7,7,7,7,7,7,7,7,7,7,7,7,7,7,7,7,7,7,7,7,7,7,7,7,7,7,7,7,7,7,7,7,7,7,7,7,7,7,7,7,7,7,7,7,7,8,8,8,8,8,8,8,8,8,8,8,8,8,8,8,8,8,8,8,8,8,8,8,8,8,8,8,8,8,8,8,8,8,8,8,8,8,8,8,8,8,8,8,8,8,8,8,8,8,8,8,8,8,8,8,8,8,8,8,8,8,8,8,8,8,8,8,8,8,8,8,8,8,8,8,8,8,8,8,8,8,8,8,8,8,8,8,8,8,8,8,8,8,8,8,8,8,8,8,8,8,8,8,8,8,8,8,8,8,8,8,8,8,8,8,8,8,8,8,8,8,8,8,8,8,8,8,8]) (.int .u8 (z:Int))=some (.int .u8 ((bitsLen z:Nat):Int)):=by
 have c:bitsLen z<=8:=(bitsLen_le_iff z 8).2 om;have a:=UN z b;generalize ([0,1,2,2,3,3,3,3,4,4,4,4,4,4,4,4,5,5,5,5,5,5,5,5,5,5,5,5,5,5,5,5,6,6,6,6,6,6,6,6,6,6,6,6,6,6,6,6,6,6,6,6,6,6,6,6,6,6,6,6,6,6,6,6,7,7,7,7,7,7,7,7,7,7,7,7,7,7,7,7,7,7,7,7,7,7,7,7,7,7,7,7,7,7,7,7,7,7,7,7,7,7,7,7,7,7,7,7,7,7,7,7,7,7,7,7,7,7,7,7,7,7,7,7,7,7,7,7,8,8,8,8,8,8,8,8,8,8,8,8,8,8,8,8,8,8,8,8,8,8,8,8,8,8,8,8,8,8,8,8,8,8,8,8,8,8,8,8,8,8,8,8,8,8,8,8,8,8,8,8,8,8,8,8,8,8,8,8,8,8,8,8,8,8,8,8,8,8,8,8,8,8,8,8,8,8,8,8,8,8,8,8,8,8,8,8,8,8,8,8,8,8,8,8,8,8,8,8,8,8,8,8,8,8,8,8,8,8,8,8,8,8,8,8,8,8,8,8,8,8,8,8,8,8,8,8]:List Nat)=l at*;unfold ZF;simp only;rw[aS om,Mc,a];simp only[Option.map_some];rw[Nat.mod_eq_of_lt om]
theorem TZ {x:Nat}(h:256<=x):bitsLen x=8+bitsLen (x/256):=by
 apply Nat.le_antisymm
 .rw[bitsLen_le_iff,Nat.pow_add]
  have:=lt_two_pow_bitsLen (x/256);omega
 .have a:=lt_two_pow_bitsLen x
  have d: ¬bitsLen x<=8:=λc=>by rw[bitsLen_le_iff] at c;omega
  obtain⟨k,b⟩: ∃k,bitsLen x=8+k:=⟨bitsLen x- 8,om⟩
  rw[b,Nat.pow_add] at a;have:bitsLen (x/256)<=k:=(bitsLen_le_iff _ _).2 om;omega
theorem SY (x:Nat)(h:H)(f:x<65536):Ev T 142 [.int .u64 (x:Int)] h (λv h'=>v= aC (bitsLen x:Nat)/\h'=h):=by
 refine mV ?_;have e1:decide ((4294967296:Int)<=(x:Int))=false:=bZ om;have e2:decide ((65536:Int)<=(x:Int))=false:=bZ om
 by_cases b:256<=x
 .have a:decide ((256:Int)<=(x:Int))=true:=cV om
  have d:=TZ b;have c:bitsLen (x/256)<=8:=(bitsLen_le_iff _ 8).2 om;simp(disch:=omega)only[go_sem,aV,e1,e2,a,Tf,Jh,IX,HI,FV,rV];exact⟨by congr 1;omega,trivial⟩
 .have a:decide ((256:Int)<=(x:Int))=false:=bZ om
  have c:bitsLen x<=8:=(bitsLen_le_iff _ 8).2 om;refine Ie @aV e1 e2 a @HI @FV @rV ?_;exact⟨by congr 1;omega,trivial⟩
theorem SH (x:Nat)(h:H)(a:x<65536):Ev T 95 [.int .u64 (x:Int)] h (λv h'=>v= aC (bitsLen x:Nat)/\h'=h):=by
 refine lG ?_;refine (SY x h a).mono ?_;rintro _ _ ⟨rfl,rfl⟩;exact alU
theorem aiR (n:Nat)(h:H)(f:n<65536):Ev T 198 [aC n] h (λv h'=>v= .int .u64 ((2^bitsLen n:Nat):Int)/\h'=h):=by
 refine mV ?_;have c:bitsLen n<=16:=(bitsLen_le_iff _ 16).2 om;have b:2^bitsLen n<=2^16:=Nat.pow_le_pow_right om c;obtain⟨m,a⟩:=exI (2^bitsLen n);rw[a] at b |-
 have d:Vg .shl .u64 1 ((bitsLen n:Nat):Int)=some (.int .u64 (m:Int)):=by
  unfold Vg;rw[aQ om];simp only[Mc,IntKind.bits];rw[Nat.min_eq_left om];have e:(1:Int)*2^bitsLen n=(m:Int):=by rw[Int.one_mul,<-a];push_cast;rfl
  rw[e,Hi om om]
 simp(disch:=omega)only[go_sem,aV,Hi (n:=(n:Int)) om om];refine (SH n h f).mono ?_;rintro _ _ ⟨rfl,rfl⟩;exact agS @Tf @Jh d
theorem alC (R:Nat)(x:Int)(h:H)(m:h.get R=some (.cells false [.int .u64 x]))(A:R<h.next):
  Ev T 199 [.ptr R 0] h (λv h'=> ∃y,v= .int .u64 y/\h'.get R=some (.cells false [.int .u64 y])/\Fx (· =R) h h'):=by
 refine mV ?_
 have t:h.cell R 0=some (.int .u64 x):=by rw[H.cell_of m];rfl
 obtain⟨r,b,_⟩:=ZS x 13 om
 obtain⟨n,k,_⟩:=MD x r
 obtain⟨s,j⟩:=akJ n 7 om
 obtain⟨l,d,_⟩:=MD n s
 obtain⟨z,f,_⟩:=ZS l 17 om
 obtain⟨o,c,_⟩:=MD l z
 have q:(u w:Int)->(a:H)->dY (some (.cells false [.int .u64 u])) a R 0 [.int .u64 w]=some (a.set R (some (.cells false [.int .u64 w]))):=λu w a=>bE siM a R _
 simp(disch:=omega)only[go_sem,aV,t,Tf,Jh,b,k,j,d,f,c,m,q]
 exact⟨o,rfl,rfl,⟨by simp only[H.bT];omega,λid _ i=>by
  rw[H.Cj _ i,H.kL,H.Cj _ i,H.kL,H.Cj _ i,H.kL]⟩⟩
end Go.Proofs.YtoighkablmjfeaaGreat
namespace Go.Proofs.YtoighkablmjfeaaGreat
open Go Go.Ay Go.Sort
theorem afQ:T 76=some ⟨0, [], [],.fail,true⟩:=rfl
theorem Tx (h:H)(S:Nat)(l:List Int)(q:qD)(t:l.length<60000)(i:h.get S=cE (ints l))(r:S<h.next):
  Ev T 76 [.sl S 0 l.length q] h (λ_ h'=> ∃l',h'.get S=cE (ints l')/\l'.Perm l/\l'.Pairwise (· <= ·)/\Fx (· =S) h h'):=by
 have j: ∀l:List Int,(ints l).map unI=l:=λl=>by
  rw[ints,List.map_map];exact List.map_id l
 have n:(ints l).all isI=true:=by
  rw[ints,List.all_map];exact uR.2 λ_ _=>rfl
 by_cases d:l.length=0
 .refine⟨1,.tup [],h,λm o=>?_,l,i,List.Perm.refl l,by rw[Zs d];exact .nil,Fx.of (Fr.refl h)⟩
  obtain⟨k,rfl⟩: ∃k,m=k+1:=⟨m- 1,om⟩
  simp only[nY,Pc,afQ,if_true,Pu,d]
 .refine⟨1,.tup [],_,λm o=>?_,l.mergeSort λx y=>decide (x<=y),H.aJ ..,List.mergeSort_perm ..,?_,⟨Nat.le_of_eq (H.bT ..).symm,λid _ f=>H.Cj _ f _⟩⟩
  .obtain⟨k,rfl⟩: ∃k,m=k+1:=⟨m- 1,om⟩
   simp only[nY,Pc,afQ,if_true,Pu,aQ d,i]
   rw[aS ⟨aE l,n,om⟩,j]
   rfl
  .have:=List.pairwise_mergeSort (le:=λx y:Int=>decide (x<=y)) (λa b c s f=>by simp at*;omega) (λa b=>by simp;omega) l
   exact this.imp λh=>of_decide_eq_true h
theorem Ws {a b:List Int}(h:a.Perm b)(f:a.Pairwise (· <= ·))(d:b.Pairwise (· <= ·)):a=b:=
 h.eq_of_pairwise (λ_ _ _ _ c i=>Int.le_antisymm c i) f d
end Go.Proofs.YtoighkablmjfeaaGreat
namespace Go.Proofs.YtoighkablmjfeaaGreat
open Go Go.Ay Go.Pm
theorem EK (id b:Nat)(d:V)(l:List Int)(h:H)(G:l.length<1000000)(J:Nat->H->Prop)(D:H->Prop)(m:J 0 h)
  (n: ∀i hh,J i hh->hh.get b=cE [d]/\SI hh d l)
  (s: ∀i hh,i<l.length->J i hh->Ey T id [aC (l.getD i 0)] hh (λv h'=>v= .bool true/\J (i+1) h'\/v= .bool false/\D h')):
  Ev T 253 [.yl id,.ptr b 0] h (λ_ h'=>J l.length h'\/D h'):=by
 obtain⟨w,y⟩:=n 0 h m
 have q:h.cell b 0=some d:=by rw[H.cell_of w];rfl
 have x:=y.lens
 refine Hv q x ?_
 refine aP (λo a hh=> ∃(i:Nat),(∃g:Nat->V,a= [.yl id,.ptr b 0,g 2,d,aC (l.length:Int),aC i,g 6,g 7])/\i<=l.length/\J i hh/\o=l.length-i) l.length
  ⟨0,aD rfl,fY _,m,rfl⟩ ?_
 rintro o a k ⟨i,⟨g,rfl⟩,hi,f,rfl⟩
 by_cases c:(i:Int)<(l.length:Int)
 .have e1:=cV c
  obtain⟨K,u⟩:=n i k f
  obtain⟨B,r,t,z,A⟩:=u.open
  have ci:=A i om
  refine iG e1 @t.ixa ci ?_
  refine (s i k om f).mono ?_
  rintro v F (⟨rfl,j⟩|⟨rfl,j⟩)
  .refine aT ?_
   rw[fJ i]
   exact⟨l.length-(i+1),om,i+1,aD rfl,om,j,rfl⟩
  .refine aT ?_
   exact .inr j
 have e1:=bZ c
 obtain rfl:i=l.length:=om
 refine bM e1 ?_
 exact .inl f
theorem BJ (b:Nat)(O:V)(l:List Int)(h:H)(hn:l.length<100000)(hb:h.get b=cE [O])(a0:b<h.next)(R:SI h O l):
  Ev T 252 [.fn 253 [] [.ptr b 0]] h (λv h'=>dF h' v 1 (ints l) h.next/\(v= .aH\/ ∃id cap,v= .sl id 0 l.length cap/\h.next<=id/\id<h'.next/\h'.get id=cE (ints l))/\Fr h h'):=by
 refine lG ?_
 refine Ev.mono (Q:=λv h'=>dF h' v 1 (ints l) h.next/\(v= .aH\/ ∃id cap,v= .sl id 0 l.length cap/\h.next<=id/\id<h'.next/\h'.get id=cE (ints l))/\Fr h h') ?_ (λv h' R=>by simp(disch:=omega)only[go_sem];exact R)
 refine pM (mF (x:= .aH) rfl rfl) ?_
 obtain⟨B,hB⟩:=exI h.next
 obtain⟨y,s⟩: ∃y,y=h.new (.cells false [.aH]):=⟨_,rfl⟩
 have g1:y.get B=cE [.aH]:=by rw[s,<-hB,H.aI]
 have n1:y.next=B+1:=by rw[s,H.aM,hB]
 have f1:Fr h y:=by rw[s];exact (Fr.refl h).new _
 rw[<-s,hB]
 refine⟨rfl,?_⟩
 refine sJ λr t=>?_
 refine (EK (B+1) b O l _ om (λi d=>d.get (B+1)=some (.loop r)/\B+1<d.next/\Fr h d/\ ∃o,d.get B=cE [o]/\dF d o 1 (ints (l.take i)) (B+2)/\(o= .aH\/ ∃id cap,o= .sl id 0 i cap/\B+2<=id/\id<d.next/\d.get id=cE (ints (l.take i)))) (λ_=>False) ?_ ?_ ?_).mono ?_
 .have e:=H.aI y (.loop r)
  rw[n1] at e
  refine⟨e,by rw[H.aM];omega,f1.new _,.aH,by rw[H.bG y om];exact g1,dF.aH _ _ _,.inl rfl⟩
 .rintro i d ⟨_,_,f,_⟩
  exact⟨by rw[f.get b a0];exact hb,R.mono f⟩
 .rintro i d hi ⟨P,nr,f,o,K,J,Y⟩
  have iS:r.st= .ready:=by rw[t]
  have Z:r.pend=none:=by rw[t]
  refine pP P (by rw[t];rfl) iS λu g2 n2 o2=>?_
  rw[congrArg dP.assign t,congrArg dP.vars t,congrArg dP.pars t]
  simp(disch:=omega)only[go_sem,List.zip_cons_cons,List.zip_nil_left]
  rw[congrArg dP.body t]
  have W:u.cell B 0=some o:=by unfold H.cell;rw[o2 B om,K];rfl
  refine iG W (dL u (z:= aC 0) (v:= aC (l.getD i 0)) rfl rfl) n2 ?_
  obtain⟨a,q⟩: ∃a,a=u.new (.cells false [aC (l.getD i 0)]):=⟨_,rfl⟩
  have g3:a.get d.next=cE [aC (l.getD i 0)]:=by rw[q,<-n2,H.aI]
  have n3:a.next=d.next+1:=by rw[q,H.aM,n2]
  have N: ∀k,k<d.next->k≠B+1->a.get k=d.get k:=λk j A=>by rw[q,H.bG u om,o2 k A]
  have r3:a.get (B+1)=some (.loop (pF r)):=by rw[q,H.bG u om,g2]
  rw[<-q]
  have L:dF a o 1 (ints (l.take i)) (B+2):=J.mono om λid G n c e j A=>N id A om
  have U:(l.take i).length=i:=by rw[jG];omega
  obtain⟨j,a4,F⟩:=L.push (bytes:=8) (SV.one om g3 (.kn 1)) (n:=i) (m:=1) (by rw[aE,U,jP]) rfl om om om
  have ap: ∀k,k<B+2->cW o k:=λk hk id G n c e e2=>by
   have:=(J.in _ _ _ _ e).2.1;omega
  have g4:j.get B=cE [o]:=by rw[F.old B om (ap B om),N B om om];exact K
  have r4:j.get (B+1)=some (.loop (pF r)):=by rw[F.old (B+1) om (ap (B+1) om)];exact r3
  have pt:dY (cE [o]) j B 0 [.sl a.next 0 (i+1) (.un 1)]=some (j.set B (cE [.sl a.next 0 (i+1) (.un 1)])):=bE siM j B _
  refine iG a4 g4 pt ?_
  refine pQ iS Z (by rw[H.Cj j om];exact r4) (.inl ⟨rfl,?_⟩)
  have et:ints (l.take (i+1))=ints (l.take i)++ [aC (l.getD i 0)]:=by
   rw[<-List.take_append_getElem hi,fQ];simp [ints,List.getD,hi]
  have n4:=F.next
  have g5:((j.set B (cE [.sl a.next 0 (i+1) (.un 1)])).set (B+1) (some (.loop r))).get a.next=cE (ints (l.take (i+1))):=by
   rw[H.Cj _ om,H.Cj _ om,F.get,et]
  refine⟨by rw[H.aJ],by simp only[H.bT];omega,⟨by simp only[H.bT];have:=f.next;omega,λid w=>?_⟩,_,by rw[H.Cj _ om,H.aJ],?_,.inr ⟨a.next,_,rfl,om,by simp only[H.bT];omega,g5⟩⟩
  .rw[H.Cj _ om,H.Cj _ om,F.old id (by have:=f.next;omega) (ap id om),N id (by have:=f.next;omega) om]
   exact f.get id w
  .exact .inr ⟨a.next,i+1,_, [],rfl,by rw[aE,jG];omega,.inl rfl,om,by simp only[H.bT];omega,by rw[qH];exact g5⟩
 .rintro _ u (⟨P,nr,f,o,K,J,Y⟩|h)
  case inr=>exact h.elim
  refine⟨r,P,by rw[t];simp,?_⟩
  have W:(u.set (B+1) (some (.loop {r with st:= .out}))).cell B 0=some o:=by unfold H.cell;rw[H.Cj _ om,K];rfl
  have en:r.pend.getD .norm= .norm:=by rw[t];rfl
  rw[en]
  refine bM W ?_
  rw[List.take_length] at J Y
  refine⟨?_,?_,⟨by simp only[H.bT];have:=f.next;omega,λid w=>by rw[H.Cj _ om];exact f.get id w⟩⟩
  .refine (J.mono (by simp only[H.bT];omega) λid G n c e j A=>H.Cj _ om _).le om
  .rcases Y with rfl|⟨id,cap,rfl,a,j,A⟩
   .exact .inl rfl
   .exact .inr ⟨id,cap,rfl,om,j,by rw[H.Cj _ om];exact A⟩
theorem LO (b:Nat)(c:V)(l:List Int)(h:H)(y:0<l.length)(z:l.length<50000)(o:h.get b=cE [c])(f:b<h.next)(t:SI h c l):
  Ev T 222 [.fn 253 [] [.ptr b 0]] h (λv h'=> ∃id cap l',v= .sl id 0 l.length cap/\h.next<=id/\id<h'.next/\h'.get id=cE (ints l')/\l'.Perm l/\l'.Pairwise (· <= ·)/\Fr h h'):=by
 refine lG ?_
 refine (BJ b c l h om o f t).mono ?_
 rintro v w ⟨q,r,d⟩
 rcases r with rfl|⟨id,cap,rfl,n,i,u⟩
 .exfalso
  rcases q with ⟨_,e⟩|⟨_,_,_,_,e,_⟩
  .have:=congrArg List.length e
   rw[aE,List.length_nil] at this
   omega
  .cases e
 refine aT ?_
 refine (Tx w id l cap om u i).mono ?_
 rintro _ A ⟨l',s,m,x,a⟩
 refine aT ?_
 exact⟨id,cap,l',rfl,n,iD i a.next,s,m,x,kQ d.next a.next,λk j=>(a.get k (iD j d.next) (λe=>by have:k=id:=e;omega)).trans (d.get k j)⟩
end Go.Proofs.YtoighkablmjfeaaGreat
namespace Go.Proofs.YtoighkablmjfeaaGreat
open Go Go.Ay Go.Pm
section
variable {v vO vR:V} {b C D n:Nat} {r O:LN} {wsO wsR:List V}
structure zN (h h':H)(v:V)(l:List Int):Prop where
 ex: ∃id cap,v= .sl id 0 l.length cap/\h.next<=id/\id<h'.next/\h'.get id=cE (ints l)/\(cap= .un 1\/cap= .kn l.length)
 fr:Fr h h'
theorem zN.pv {h h':H}{l:List Nat}(f:zN h h' v (zi l)){W:Nat->Prop}(a: ∀id,W id->id<h.next):PV W h' v l:=by
 obtain⟨id,d,rfl,k,c,i,_⟩:=f.ex;exact⟨SV.all (by rw[aE,jP]) c i _,λj=>by have:=a id j;omega⟩
theorem zN.si {h h':H}{l:List Int}(f:zN h h' v l):SI h' v l:=by
 obtain⟨id,a,rfl,i,d,c,_⟩:=f.ex;exact SV.all (by rw[aE,jP]) d c _
theorem zN.own {h h':H}{l:List Int}(f:zN h h' v l):dF h' v 1 (ints l) h.next:=by
 obtain⟨id,a,rfl,i,c,j,d⟩:=f.ex;exact .inr ⟨id,l.length,a, [],rfl,by rw[aE,jP],by rcases d with e|e;exact .inl e;exact .inr ⟨e,rfl⟩,i,c,by rw[qH];exact j⟩
theorem rW (u:V)(l:List Int)(h:H)(t:0<l.length)(F:l.length<1000000)(i:SI h u l):
  Ev T 113 [u] h (λv h'=>zN h h' v l):=by
 have s:Jv false u=some (.bool false):=by
  rcases i with ⟨_,e⟩|⟨id,a,len,x,B,G,rfl,_⟩
  .have:=congrArg List.length e
   rw[aE,List.length_nil] at this;omega
  .rfl
 refine pM s ?_
 have k:Fr h (h.new (.cells false [])):=(Fr.refl h).new _
 have z:dF (h.new (.cells false [])) (.sl h.next 0 0 (.kn 0)) 1 [] 0:=dF.new h 1 0 0 [] rfl (fY _)
 obtain⟨A,o,d⟩:=z.push (bytes:=8) (i.mono k) (n:=0) (m:=l.length) rfl (by rw[aE,jP]) om t om
 have q:(h.new (.cells false [])).next=h.next+1:=H.aM ..
 rw[q] at o
 have y:=d.next
 have j:=d.get
 rw[q] at y j
 refine bM o ?_
 refine⟨⟨h.next+1,_,rfl,om,om,j,.inl rfl⟩,om,λid f=>?_⟩
 rw[d.old id om (λw a n c e e2=>by cases e;omega)]
 exact k.get id f
def IB (v:V):Prop:= ∀id off len cap,v= .sl id off len cap->cap= .un 1\/ ∃c,cap= .kn c/\len<=c
theorem dF.RO {h:H}{ws:List V}(o:dF h v 1 ws b):IB v:=by
 rintro id a len d rfl;rcases o with ⟨e,_⟩|⟨_,_,_,_,e,_,c,_⟩
 .cases e
 .cases e
  rcases c with e|⟨e,_⟩
  .exact .inl e
  .exact .inr ⟨_,e,dN _⟩
def SRR (h:H)(v:V)(R:List (List (List Int))):Prop:= ∃ws,SV h v 1 ws/\bH (SR h) ws R/\ ∀w∈ws,IB w
theorem SRR.mono {h h':H}{R:List (List (List Int))}(s:SRR h v R)(f:Fr h h'):SRR h' v R:=by
 have⟨c,s,a,k⟩:=s;exact⟨c,s.mono f,a.mono λ_ _ x=>x.mono f,k⟩
def ChI (h:H)(v:V)(d:Int)(O:List (List Int))(R:List (List (List Int))):Prop:= ∃vO vR,v= .agg [aC d,vO,vR]/\SR h vO O/\SRR h vR R
theorem ChI.mono {h h':H}{d:Int}{O:List (List Int)}{R:List (List (List Int))}(s:ChI h v d O R)(f:Fr h h'):ChI h' v d O R:=by
 have⟨vO,vR,e,a,c⟩:=s;exact⟨vO,vR,e,a.mono f,c.mono f⟩
def PL (W:Nat->Prop)(h:H)(v:V)(r:LN):Prop:= ∃ws,SV h v 1 ws/\vI W v/\jI W h ws r/\IB v
section
variable {W W':Nat->Prop} {h h' hh:H}
theorem PL.go (p:PL W h v r)(f:Fx W h h')(c: ∀id,id<h.next->W' id->W id):PL W' h' v r:=by
 have⟨d,s,o,a,k⟩:=p;exact⟨d,s.fx o f,o.mE s c,jI.go a f c,k⟩
theorem PL.sp (p:PL W h v r):SP h v r:=by
 have⟨d,s,o,a,_⟩:=p;refine⟨d,s,?_⟩;have c:=bH.length a
 exact bH.jF (by simpa using c) λi hi f=>by
  have:=(bH.get a i hi om).si;simpa using this
def Mh (W:Nat->Prop)(v:V):Prop:= ∀id off n c,v= .sl id off n c->W id
structure xL (h hh:H)(C D:Nat)(W:Nat->Prop)(n:Nat)(O:LN)(R:nZ)(vO vR:V)(wsO wsR:List V):Prop where
 get:hh.get C=cE [aC n,vO,vR]
 oO:dF hh vO 1 wsO h.next
 oR:dF hh vR 1 wsR h.next
 aO:jI W hh wsO O
 aR:bH (PL W hh) wsR R
 bO:Mh W vO
 bR:Mh W vR
 pO:cW vO C
 pR:cW vR C
 qO:cW vO D
 qR:cW vR D
 d:W D
 cd:C≠D
 uY:NI vO vR
 wb: ∀id,W id->id<hh.next
 low: ∀id,id<h.next->W id
 hC:h.next<=C
 hD:h.next<=D
 c:W C
 fr:Fr h hh
theorem xL.start (i:h.next<=C)(a:C<hh.next)(k:h.next<=D)(c:D<hh.next)(d:C≠D)(f:Fr h hh)(j:hh.get C=cE [aC n,.aH,.aH]):xL h hh C D (λid=>id=C\/id=D\/id<h.next) n [] [] .aH .aH [] []:=
 ⟨j,dF.aH _ _ _,dF.aH _ _ _,trivial,trivial,λ_ _ _ _ e=>(by cases e),λ_ _ _ _ e=>(by cases e),cW.aH _,cW.aH _,cW.aH _,cW.aH _,.inr (.inl rfl),d,λ_ _ _ _ e=>(by cases e),λid e=>by rcases e with rfl|rfl|e;exact a;exact c;exact iD e f.next,λid e=> .inr (.inr e),i,k,.inl rfl,f⟩
theorem xL.mono {R:nZ}(A:xL h hh C D W n O R vO vR wsO wsR){h2:H}(f:Fr hh h2):xL h h2 C D W n O R vO vR wsO wsR:=
 ⟨by rw[f.get C (A.wb C A.c)];exact A.get,A.oO.fr f,A.oR.fr f,jI.go A.aO (Fx.of f) (λ_ _ h=>h),A.aR.mono λ_ _ x=>x.go (Fx.of f) (λ_ _ h=>h),A.bO,A.bR,A.pO,A.pR,A.qO,A.qR,A.d,A.cd,A.uY,λid h=>iD (A.wb id h) f.next,A.low,A.hC,A.hD,A.c,A.fr.trans f⟩
theorem xL.step {R:nZ}(A:xL h hh C D W n O R vO vR wsO wsR){v4 v5:V}{o:List Nat}(K:PV W hh v4 o)(L:PL W hh v5 r)
  {h6:H} {a k1 k2:Nat} (ha:hh.next<=a) (Z:hh.next<=b) (u:a≠b) (w:a<h6.next) (y:b<h6.next) (P:wsO.length+1=k1) (J:wsR.length+1=k2)
  (G:h6.get C=cE [aC n,.sl a 0 k1 (.un 1),.sl b 0 k2 (.un 1)]) (B:h6.get a=cE (wsO++ [v4])) (F:h6.get b=cE (wsR++ [v5]))
  (q: ∀k,k<hh.next->k≠C->cW vO k->cW vR k->h6.get k=hh.get k):
  xL h h6 C D (λid=>W id\/id=a\/id=b) n (O++ [o]) (R++ [r]) (.sl a 0 k1 (.un 1)) (.sl b 0 k2 (.un 1)) (wsO++ [v4]) (wsR++ [v5]):=by
 have t:Fx W hh h6:=⟨om,λid j l=>q id j (λe=>l (e▸A.c)) (λm f n c e e2=>l (e2▸A.bO _ _ _ _ e)) (λm f n c e e2=>l (e2▸A.bR _ _ _ _ e))⟩
 have s: ∀id,id<hh.next->(W id\/id=a\/id=b)->W id:=λid j l=>by
  rcases l with l|l|l
  .exact l
  .omega
  .omega
 have cn:=A.wb C A.c
 have dn:=A.wb D A.d
 have fn:=A.fr.next
 refine⟨G,.inr ⟨a,k1,_, [],rfl,by rw[eE];simp;omega,.inl rfl,om,w,by rw[qH];exact B⟩,.inr ⟨b,k2,_, [],rfl,by rw[eE];simp;omega,.inl rfl,om,y,by rw[qH];exact F⟩,
  (jI.go A.aO t s).append (jI.one (PV.go K t s)),(A.aR.mono λ_ _ x=>x.go t s).append ⟨L.go t s,trivial⟩,λid f n c e=>by cases e;exact .inr (.inl rfl),λid f n c e=>by cases e;exact .inr (.inr rfl),
  cW.sl om,cW.sl om,cW.sl om,cW.sl om,.inl A.d,A.cd,λi o n c e i' o' Q Y N=>by cases e;cases N;exact u,λid j=>?_,λid j=> .inl (A.low id j),A.hC,A.hD,.inl A.c,⟨om,λid z=>?_⟩⟩
 .rcases j with j|j|j
  .have:=A.wb id j;omega
  .omega
  .omega
 .have U:=A.hC
  rw[q id om om (λm f n c e e2=>by have:=(A.oO.in _ _ _ _ e).2.1;omega) (λm f n c e e2=>by have:=(A.oR.in _ _ _ _ e).2.1;omega)]
  exact A.fr.get id z
theorem xL.box {R:nZ}(A:xL h hh C D W n O R vO vR wsO wsR){h3:H}{o:Option Ob}(e:h3=hh.set D o):xL h h3 C D W n O R vO vR wsO wsR:=by
 subst e;have f:Fx W hh (hh.set D o):=Fx.set hh A.d o;have i:=A.wb D A.d
 refine⟨by rw[H.Cj hh A.cd];exact A.get,A.oO.mono (dN _) λid a m c e _ _=>H.Cj hh (λe2=>A.qO _ _ _ _ e e2.symm) o,A.oR.mono (dN _) λid a m c e _ _=>H.Cj hh (λe2=>A.qR _ _ _ _ e e2.symm) o,
  jI.go A.aO f (λ_ _ h=>h),A.aR.mono λ_ _ x=>x.go f (λ_ _ h=>h),A.bO,A.bR,A.pO,A.pR,A.qO,A.qR,A.d,A.cd,A.uY,A.wb,A.low,A.hC,A.hD,A.c,?_⟩
 exact A.fr.set A.hD o
end
def PD (W:Nat->Prop)(h:H)(v:V)(n:Nat)(O:LN)(R:nZ):Prop:= ∃vO vR wsO wsR,v= .agg [aC n,vO,vR]/\SV h vO 1 wsO/\vI W vO/\jI W h wsO O/\SV h vR 1 wsR/\vI W vR/\bH (PL W h) wsR R
section
variable {W W':Nat->Prop} {h h' hh:H}
theorem PD.go {R:nZ}(c:PD W h v n O R)(f:Fx W h h')(a: ∀id,id<h.next->W' id->W id):PD W' h' v n O R:=by
 have⟨vO,vR,wsO,wsR,e,j,k,l,d,i,m⟩:=c;exact⟨vO,vR,wsO,wsR,e,j.fx k f,k.mE j a,jI.go l f a,d.fx i f,i.mE d a,m.mono λ_ _ x=>x.go f a⟩
theorem PD.mono {R:nZ}(c:PD W h v n O R)(f:Fr h h'):PD W h' v n O R:=c.go (Fx.of f) λ_ _ h=>h
theorem PD.ch {R:nZ}(c:PD W h v n O R):ChI h v (n:Int) (O.map zi) (R.map (List.map zi)):=by
 have⟨vO,vR,wsO,wsR,e,l,s,f,m,q,d⟩:=c;refine⟨vO,vR,e,⟨wsO,l,?_⟩,⟨wsR,m,?_,λw j=>?_⟩⟩
 .have a:=bH.length f
  exact bH.jF (by simpa using a) λi hi o=>by
   have:=(bH.get f i hi om).si;simpa using this
 .have a:=bH.length d
  exact bH.jF (by simpa using a) λi hi o=>by
   have:=(bH.get d i hi om).sp;simpa using this
 .obtain⟨i,hi,rfl⟩:=Bj.1 j
  have a:=bH.length d;obtain⟨_,_,_,_,k⟩:=bH.get d i hi om;exact k
theorem AL {sz:Nat}{ws:List V}(o:dF h v sz ws b):vI (λid=>id<b) v:=by
 cases v with
 |sl id off m c=>exact λe=>by have:=(o.in _ _ _ _ rfl).2.1;omega
 |_=>trivial
theorem xL.chw {R:nZ}(A:xL h hh C D W n O R vO vR wsO wsR):PD (λid=>id<h.next) hh (.agg [aC n,vO,vR]) n O R:=
 ⟨vO,vR,wsO,wsR,rfl,A.oO.sv,AL A.oO,jI.mE A.aO λid _ h=>A.low id h,A.oR.sv,AL A.oR,A.aR.mono λ_ _ x=>x.go (Fx.refl _ _) λid _ h=>A.low id h⟩
end
theorem NB {h:H}{O:List (List Int)}(s:SR h v O):v.one=true:=by
 have⟨_,t,_⟩:=s;exact t.cT.2.1
theorem KY {h:H}{O:List (List (List Int))}(s:SRR h v O):v.one=true:=by
 have⟨_,t,_⟩:=s;exact t.cT.2.1
end
end Go.Proofs.YtoighkablmjfeaaGreat
namespace Go.Proofs.YtoighkablmjfeaaGreat
open Go Go.Ay Go.Pm
def ChL (a:oL)(n j:Nat)(o:List Nat)(r:LN):Prop:=o.Pairwise (· < ·)/\(∀p,p∈o↔p∈(a j).orb)/\r.length=o.length/\ ∀k,k<o.length-> ∀y,(a j).to (o.getD k 0)=some y->r.getD k []=Qd a (n-(j+1)) (j+1) y
theorem abZ {l:List Int}{a:List Nat}(h:l.Perm (zi a)): ∃q,l=zi q/\q.Perm a:=by
 refine⟨l.map Int.toNat,?_,?_⟩
 .unfold zi
  rw[List.map_map];refine (List.map_id l).symm.trans (Nt λx b=>?_);have:=h.mem_iff.1 b;obtain⟨k,_,rfl⟩:=oG.1 this;simp
 .have:=h.map Int.toNat
  have e:(zi a).map Int.toNat=a:=by
   unfold zi;rw[List.map_map];exact (Nt λx _=>by simp).trans (List.map_id a)
  rwa [e] at this
theorem ajS {q:List Nat}(h:(zi q).Pairwise (· <= ·))(nd:q.Nodup):q.Pairwise (· < ·):=by
 unfold zi at h;rw[List.pairwise_map] at h;rw[Ow] at nd;exact (h.and nd).imp λ⟨a,h2⟩=>om
theorem OC (u:V)(a:u.cells= [u])(b:u.one=true)(h:H):Ev T 223 [u] h (λv h'=>v= .fn 253 [] [.ptr h.next 0]/\h'.get h.next=cE [u]/\h'.next=h.next+1/\Fr h h'):=by
 refine pM (mF a b) ?_;exact (Fr.refl h).new _
theorem lP {α:Type}{a:List α}{x:α}{j:Nat}{d:α}(h:j<a.length):(a++ [x]).getD j d=a.getD j d:=by
 rw[List.getD,List.getD,Aw h]
theorem jS {α:Type}{a:List α}{x d:α}:(a++ [x]).getD a.length d=x:=by
 rw[List.getD,Hs (dN _),Nat.sub_self];rfl
theorem JI (h:H)(n s L:Nat)(F:Nat->V)(τ:oL)(hn:n<=20)(R:qB h n s L F τ)(t:oH n 0 τ):
  Ev T 163 [.ptr s 0] h (λv h'=> ∃O R',PD (λid=>id<h.next) h' v n O R'/\eD n (S n τ 0) O R'/\Fr h h'):=by
 obtain⟨B,hB⟩:=exI h.next
 have tn:=R.tn
 have ln:=R.ln
 have ct:h.cell s 0=some (aC n):=by rw[H.cell_of R.t];rfl
 have bl:mP [aC 0,.aH,.aH] [(0,1,aC n)]=some (.agg [aC n,.aH,.aH]):=by
  have e1:putAt [aC 0,.aH,.aH] 0 [aC n]=some [aC n,.aH,.aH]:=by simp [putAt]
  simp [mP,fP,e1,V.cells,V.one]
 obtain⟨Z,a3⟩: ∃Z,Z=(h.new (.cells false [aC 0,.aH,.aH])).new (.cells false [aC 0,.aH,.aH]):=⟨_,rfl⟩
 have n1:Z.next=B+2:=by rw[a3,H.aM,H.aM,hB]
 have g1:Z.get (B+1)=cE [aC 0,.aH,.aH]:=by
  rw[a3];have:=H.aI (h.new (.cells false [aC 0,.aH,.aH])) (.cells false [aC 0,.aH,.aH]);rwa [H.aM,hB] at this
 have g0:Z.get B=cE [aC 0,.aH,.aH]:=by rw[a3,H.bG _ (by rw[H.aM,hB];omega),<-hB,H.aI]
 have f1:Fr h Z:=by rw[a3];exact ((Fr.refl h).new _).new _
 have ct1:Z.cell s 0=some (aC n):=by rw[f1.cell tn];exact ct
 refine XL hB ct bl ?_
 rw[<-a3]
 refine iG (lY Z (B+1) 0 (v:= aC n) (u:= .aH) (w:= .aH) rfl rfl rfl) g1 @jE ?_
 obtain⟨l,a4⟩: ∃l,l=Z.set (B+1) (cE [aC n,.aH,.aH]):=⟨_,rfl⟩
 have n2:l.next=B+2:=by rw[a4];exact n1
 have f2:Fr h l:=by rw[a4];exact f1.set om _
 have g2:l.get (B+1)=cE [aC n,.aH,.aH]:=by rw[a4,H.aJ]
 have c7:l.get B=cE [aC 0,.aH,.aH]:=by rw[a4,H.Cj _ om];exact g0
 have d9:Z.cell s 1=some (.sl L 0 n (.kn n)):=by rw[H.cell_of (R.mono f1).t];rfl
 rw[<-a4]
 refine bM d9 ?_
 clear a3 a4 f1 g0 g1 ct1 d9 n1 Z
 refine aP (λk' a1 J=> ∃(i:Nat) (W:Nat->Prop) (O:LN) (R':nZ) (vO N:V) (c4 b7:List V),(∃g:Nat->V,a1= [.ptr s 0,.ptr B 0,.ptr (B+1) 0,g 3,g 4,g 5,g 6,aC n,aC i,g 9,g 10,g 11,g 12,g 13])/\i<=n/\xL h J (B+1) B W n O R' vO N c4 b7/\
   J.get B=cE [aC 0,.aH,.aH]/\O.length=i/\R'.length=i/\(∀j,j<i->ChL τ n j (O.getD j []) (R'.getD j []))/\k'=n-i) n
  ⟨0,_, [], [],_,_,_,_,aD rfl,fY _,xL.start om om om om om f2 g2,c7,rfl,rfl,λj hj=>om,rfl⟩ ?_
 clear f2 g2 c7 n2 l
 rintro k' a1 l ⟨i,W,O,R',vO,N,c4,b7,⟨g,rfl⟩,hi,A,gB,lO,lR,hC,rfl⟩
 by_cases c6:(i:Int)<(n:Int)
 case neg=>
  have e1:=bZ c6;obtain rfl:i=n:=om
  have hr:=bU A.get;have nB:=A.fr.next;refine nW e1 hr (lY l B 0 (v:= aC i) (u:=vO) (w:=N) rfl (SV.cT A.oO.sv).2.1 (SV.cT A.oR.sv).2.1) gB @jE ?_;have e6:=bU (h:=l.set B (cE [aC i,vO,N])) (H.aJ ..);have fB:Fx (· =B) l (l.set B (cE [aC i,vO,N])):=Fx.set l (W:=(· =B)) rfl _;refine bM e6 ?_
  obtain⟨h3,c5⟩: ∃h3,h3=l.set B (cE [aC i,vO,N]):=⟨_,rfl⟩
  rw[<-c5] at fB |-;have A3:=A.box c5;refine⟨O,R',by rw[<-hB];exact A3.chw,?_,A3.fr⟩;have X:=t.chain (O:=O) (R:=R') lO lR (λj hj=>(hC j hj).1) (λj hj=>(hC j hj).2.1) (λj hj=>(hC j hj).2.2.1) (λj hj=>(hC j hj).2.2.2);exact X
 have e1:=cV c6
 have a0:i<n:=om
 have R2:=R.mono A.fr
 have cl:l.cell s 1=some (.sl L 0 n (.kn n)):=by rw[H.cell_of R2.t];rfl
 have co:l.cell L (i*194+1)=some (F (i*194+1)):=R2.cell a0 om
 have oo:=R2.orb i a0
 obtain⟨nY,_⟩:=t i (fY _) a0
 have i9:=ZE nY a0
 have c8:0<(τ i).orb.length:=PC nY.base
 refine iG e1 cl co ?_
 refine (OC (F (i*194+1)) (SV.cT oo.sv).1 (SV.cT oo.sv).2.1 l).mono ?_
 rintro _ h3 ⟨rfl,g3,n3,f3⟩
 refine aT ?_
 have d0:SI h3 (F (i*194+1)) (zi (τ i).orb):=(show SI l _ _ from oo.sv).mono f3
 refine (LO l.next _ (zi (τ i).orb) h3 (by rw[bD];exact c8) (by rw[bD];omega) g3 om d0).mono ?_
 rintro _ h4 ⟨P,cp,l',rfl,j4,e3,gP,pm,d6,f4⟩
 obtain⟨q,rfl,b8⟩:=abZ pm
 have d5:=ajS d6 (b8.nodup_iff.2 nY.nd)
 have lq:q.length=(τ i).orb.length:=b8.length_eq
 have b4: ∀p,p∈q↔p∈(τ i).orb:=λp=>b8.mem_iff
 rw[bD,<-lq]
 have A4:=A.mono (f3.trans f4)
 have pq:PV W h4 (.sl P 0 q.length cp) q:=⟨SV.all (by rw[aE,bD,jP]) e3 gP _,λhw=>by have:=A.wb P hw;omega⟩
 have i1:h4.get B=cE [aC 0,.aH,.aH]:=by rw[(f3.trans f4).get B (A.wb B A.d)];exact gB
 clear A gB g3 d0 oo co cl R2 pm d6
 refine aT ?_
 refine dG (λvs J=> ∃(U:V) (r:LN),(∃g:Nat->V,vs= [.ptr s 0,.ptr B 0,.ptr (B+1) 0,aC i,.sl P 0 q.length cp,U,g 6,aC n,aC i,g 9,g 10,g 11,g 12,g 13])/\PL W J U r/\ChL τ n i q r/\Fr h4 J) ?_ ?_
 .refine aP (λk' vs J=> ∃(k:Nat) (U:V) (ws:List V) (r:LN) (W':Nat->Prop),(∃g:Nat->V,vs= [.ptr s 0,.ptr B 0,.ptr (B+1) 0,aC i,.sl P 0 q.length cp,U,g 6,aC n,aC i,g 9,.sl P 0 q.length cp,aC (q.length:Int),aC k,g 13])/\k<=q.length/\dF J U 1 ws h4.next/\jI W' J ws r/\Mh W' U/\(∀id,W id->W' id)/\(∀id,W' id->id<J.next/\(W id\/h4.next<=id))/\r.length=k/\
    (∀j,j<k-> ∀y,(τ i).to (q.getD j 0)=some y->r.getD j []=Qd τ (n-(i+1)) (i+1) y)/\Fr h4 J/\k'=q.length-k) q.length
   ⟨0,.aH, [], [],W,aD rfl,fY _,dF.aH _ _ _,trivial,λ_ _ _ _ e=>(by cases e),λ_ h=>h,λid h=>⟨A4.wb id h,.inl h⟩,rfl,λj hj=>om,Fr.refl _,rfl⟩ ?_
  rintro k' a1 f ⟨k,U,ws,r,W',⟨g,rfl⟩,hk,ow,c0,h0,d3,d1,lr,hr,f5,rfl⟩
  by_cases b5:(k:Int)<(q.length:Int)
  case neg=>
   have e2:=bZ b5;obtain rfl:k=q.length:=om
   refine bM e2 ?_;refine⟨U,r,aD rfl,⟨ws,ow.sv,?_,c0.mE (λid _ h=>d3 id h),dF.RO ow⟩,⟨d5,b4,lr,hr⟩,f5⟩
   cases U with
   |sl id b0 m c=>exact λh=>by have:=(ow.in _ _ _ _ rfl).2.1;have:=A4.wb id h;omega
   |_=>trivial
  have e2:=cV b5
  have b6:k<q.length:=om
  obtain⟨p,hp⟩:=exI (q.getD k 0)
  have d7:=pq.mono f5
  have ck:f.cell P k=some (aC p):=by
   rw[H.cell_of (by rw[f5.get P e3];exact gP),Ax b6,hp]
  have c3:p∈(τ i).orb:=(b4 p).1 (by rw[<-hp,cM b6];exact Hn b6)
  have j6:=nY.lt a0 c3
  obtain⟨y,hy⟩:=nY.to c3
  have Y:=nY.cF _ _ hy
  have R5:=R.mono (A4.fr.trans f5)
  have cl:f.cell s 1=some (.sl L 0 n (.kn n)):=by rw[H.cell_of R5.t];rfl
  have i4:f.cell L (i*194+2+p)=some (F (i*194+2+p)):=R5.Qc a0 om
  have e5:PV (WT n L F) f (F (i*194+2+p)) y:=by
   have:=R5.to i p a0 om;rw[hy] at this;exact this
  refine jX e2 ck cl i4 ?_
  refine (VH f n s L F τ _ y i hn R5 e5 Y a0 (t.mono om)).mono ?_
  rintro v6 h6 ⟨p6,Q6,f6⟩
  refine aT ?_
  refine (rW v6 _ h6 (by rw[bD,Q6.len];omega) (by rw[bD,Q6.len];omega) p6.si).mono ?_
  rintro v7 h7 c9
  have f7:=c9.fr
  have p7:PV W' h7 v7 (Qd τ (n-(i+1)) (i+1) y):=c9.pv λid h=>iD (d1 id h).1 f6.next
  refine bM (dL h7 (z:= .aH) p7.fX.1 p7.fX.2) ?_
  obtain⟨Q,K⟩: ∃Q,Q=h7.new (.cells false [v7]):=⟨_,rfl⟩
  have g8:Q.get h7.next=cE [v7]:=by rw[K,H.aI]
  have n8:Q.next=h7.next+1:=by rw[K,H.aM]
  have f8:Fr h7 Q:=by rw[K];exact (Fr.refl h7).new _
  rw[<-K]
  have b1:=(f6.trans f7).trans f8
  have i2:=ow.fr b1
  have j2:=bH.length c0
  obtain⟨h9,a9,p9⟩:=i2.push (bytes:=24) (SV.one om g8 (.kn 1)) (n:=k) (m:=1) om rfl om om om
  refine bM a9 ?_
  rw[fJ k]
  have n9:=p9.next
  have f9:Fx W' Q h9:=p9.fx h0
  have g9:=b1.next
  have c2: ∀id,id<Q.next->(W' id\/id=Q.next)->W' id:=λid Z l=>by
   rcases l with l|l
   .exact l
   .omega
  refine⟨q.length-(k+1),om,k+1,_,_,r++ [Qd τ (n-(i+1)) (i+1) y],λid=>W' id\/id=Q.next,aD rfl,om,p9.own om rfl (by have:=f5.next;omega),?_,λid b0 m c e=>by cases e;exact .inr rfl,λid h=> .inl (d3 id h),λid h=>?_,by rw[eE,lr];rfl,λj hj z hz=>?_,?_,rfl⟩
  .exact (jI.go (jI.go c0 (Fx.of b1) (λ_ _ h=>h)) f9 c2).append (jI.one (PV.go (p7.mono f8) f9 c2))
  .rcases h with h|h
   .have:=d1 id h;exact⟨om,this.2⟩
   .have:=f5.next;exact⟨om,.inr om⟩
  .by_cases e:j=k
   .subst e
    rw[hp,hy] at hz
    cases hz
    rw[<-lr,jS]
   .rw[lP om]
    exact hr j om z hz
  .refine⟨by have:=f5.next;omega,λid b2=>?_⟩
   rw[p9.old id (by have:=f5.next;omega) (λg5 b0 m c e e2=>by have:=(ow.in _ _ _ _ e).2.1;omega),b1.get id (by have:=f5.next;omega)]
   exact f5.get id b2
 rintro a1 f ⟨U,r,⟨g,rfl⟩,pl,i6,f5⟩
 have G:=A4.mono f5
 have d7:=pq.mono f5
 have e9:f.get B=cE [aC 0,.aH,.aH]:=by rw[f5.get B (A4.wb B A4.d)];exact i1
 have cO:f.cell (B+1) 1=some vO:=by rw[H.cell_of G.get];rfl
 have cR:f.cell (B+1) 2=some N:=by rw[H.cell_of G.get];rfl
 obtain⟨ws,c1,e4,i5,f0⟩:=pl
 have pl:PL W f U r:=⟨ws,c1,e4,i5,f0⟩
 have j0:=G.fr.next
 have d8:=G.wb _ G.c
 simp(disch:=omega)only[go_sem,cO,cR,dL _ (z:= .aH) (v:= .sl P 0 q.length cp) rfl rfl]
 obtain⟨h6,b3⟩: ∃h6:H,h6=H.mk ((H.mk f.tr (f.next+3)).new (Ob.cells false [.sl P 0 q.length cp])).tr (f.next+14):=⟨_,rfl⟩
 rw[<-b3]
 have g6:h6.get (f.next+3)=cE [.sl P 0 q.length cp]:=by rw[b3];exact H.aI (H.mk f.tr (f.next+3)) _
 have n6:h6.next=f.next+14:=by rw[b3]
 have o6: ∀k,k≠f.next+3->h6.get k=f.get k:=λk hk=>by rw[b3];exact H.bG (H.mk f.tr (f.next+3)) (by simpa using hk) _
 have f6:Fr f h6:=⟨om,λid b2=>o6 id om⟩
 have j5:=bH.length G.aO
 have j1:=bH.length G.aR
 obtain⟨h7,a7,p7⟩:=(G.oO.fr f6).push (bytes:=24) (SV.one om g6 (.kn 1)) (n:=i) (m:=1) om rfl om om om
 have n7:=p7.next
 have a5: ∀k,k<f.next->cW vO k->h7.get k=f.get k:=λk Z l=>by rw[p7.old k om l,o6 k om]
 have e8:h7.cell (B+1) 2=some N:=by unfold H.cell;rw[a5 (B+1) d8 G.pO,G.get];rfl
 have eR:dS N N=true:=G.oR.sv.dS
 have d4:U.cells= [U]/\U.one=true:=⟨(SV.cT c1).1,(SV.cT c1).2.1⟩
 simp(disch:=omega)only[go_sem,a7,e8,eR,dL _ (z:= .aH) d4.1 d4.2]
 obtain⟨Q,K⟩: ∃Q:H,Q=H.mk ((H.mk h7.tr (f.next+8)).new (Ob.cells false [U])).tr h7.next:=⟨_,rfl⟩
 rw[<-K]
 have g8:Q.get (f.next+8)=cE [U]:=by rw[K];exact H.aI (H.mk h7.tr (f.next+8)) _
 have n8:Q.next=h7.next:=by rw[K]
 have o8: ∀k,k≠f.next+8->Q.get k=h7.get k:=λk hk=>by rw[K];exact H.bG (H.mk h7.tr (f.next+8)) (by simpa using hk) _
 have e7:dF Q N 1 b7 h.next:=G.oR.mono om λid b0 m c e _ b2=>by
  rw[o8 id om,a5 id b2 (λg5 i8 n' c' e' e2=>G.uY _ _ _ _ e' _ _ _ _ e e2.symm)]
 obtain⟨h9,a9,p9⟩:=e7.push (bytes:=24) (SV.one om g8 (.kn 1)) (n:=i) (m:=1) om rfl om om om
 have n9:=p9.next
 have i3: ∀k,f.next<=k->cW N k:=λk hk id b0 m c e e2=>by have:=(G.oR.in _ _ _ _ e).1;omega
 have a6: ∀k,k<f.next->cW vO k->cW N k->h9.get k=f.get k:=λk Z l h3=>by rw[p9.old k om h3,o8 k om,a5 k Z l]
 have g4:h9.get (B+1)=cE [aC n,vO,N]:=by rw[a6 _ d8 G.pO G.pR];exact G.get
 have i7:(J:H)->(x:V)->dY (cE [aC n,vO,N]) J (B+1) 1 [x]=some (J.set (B+1) (cE [aC n,x,N])):=λJ x=>bE siM J _ x
 have i0:(J:H)->(x y:V)->dY (cE [aC n,x,N]) J (B+1) 2 [y]=some (J.set (B+1) (cE [aC n,x,y])):=λJ x y=>bE siM J _ y
 refine jX a9 g4 i7 i0 ?_
 rw[fJ i]
 obtain⟨ha,hb⟩:h6.next=f.next+14/\Q.next=f.next+15:=⟨n6,om⟩
 rw[ha,hb]
 obtain⟨a8,a2⟩: ∃a8,a8=(h9.set (B+1) (cE [aC n,.sl (f.next+14) 0 (i+1) (.un 1),N])).set (B+1) (cE [aC n,.sl (f.next+14) 0 (i+1) (.un 1),.sl (f.next+15) 0 (i+1) (.un 1)]):=⟨_,rfl⟩
 rw[<-a2]
 have b9: ∀k,k≠B+1->a8.get k=h9.get k:=λk hk=>by rw[a2,H.Cj _ hk,H.Cj _ hk]
 have j3:a8.next=f.next+16:=by rw[a2];show h9.next=_;omega
 have g7:=G.step (v4:= .sl P 0 q.length cp) (v5:=U) (o:=q) (r:=r) (h6:=a8) (a:=f.next+14) (b:=f.next+15) (k1:=i+1) (k2:=i+1) d7 pl om om om om om om om (by rw[a2,H.aJ])
  (by rw[b9 _ om,p9.old _ om (i3 _ om),o8 _ om,<-ha];exact p7.get) (by rw[b9 _ om,<-hb];exact p9.get) (λk Z l h3 h4=>by rw[b9 k l];exact a6 k Z h3 h4)
 refine⟨n-(i+1),om,i+1,_,_,_,_,_,_,_,aD rfl,om,g7,?_,by rw[eE,lO];rfl,by rw[eE,lR];rfl,λj hj=>?_,rfl⟩
 .rw[a6 B (G.wb B G.d) G.qO G.qR];exact e9
 .by_cases e:j=i
  .subst e
   have e1:(O++ [q]).getD j []=q:=by rw[<-lO];exact jS
   have e2:(R'++ [r]).getD j []=r:=by rw[<-lR];exact jS
   rw[e1,e2]
   exact i6
  .rw[lP om,lP om]
   exact hC j om
end Go.Proofs.YtoighkablmjfeaaGreat
namespace Go.Ay
section
variable {n t:Nat} {f:Nat->Int}
def sm:Nat->(Nat->Int)->Int
 |0,_=>0
 |n+1,f=>sm n f+f n
theorem oZ (f:Nat->Int):sm 0 f=0:=rfl
theorem bQ (n:Nat)(f:Nat->Int):sm (n+1) f=sm n f+f n:=rfl
theorem aU {g:Nat->Int}(h: ∀k,k<n->f k=g k):sm n f=sm n g:=by
 induction n with
 |zero=>rfl
 |succ n ih=>rw[bQ,bQ,ih λk a=>h k (by omega),h n (by omega)]
theorem wZ (n:Nat):sm n (λ_=>0)=0:=by
 induction n with
 |zero=>rfl
 |succ n ih=>rw[bQ,ih];rfl
theorem fI (h: ∀k,k<n->f k=0):sm n f=0:=by
 rw[aU h,wZ]
theorem tH (n:Nat)(f g:Nat->Int):sm n (λk=>f k+g k)=sm n f+sm n g:=by
 induction n with
 |zero=>rfl
 |succ n ih=>rw[bQ,bQ,bQ,ih];omega
theorem xS (n:Nat)(f g:Nat->Int):sm n (λk=>f k-g k)=sm n f-sm n g:=by
 induction n with
 |zero=>rfl
 |succ n ih=>rw[bQ,bQ,bQ,ih];omega
theorem Ur (n:Nat)(f:Nat->Int):sm n (λk=> -f k)= -sm n f:=by
 induction n with
 |zero=>rfl
 |succ n ih=>rw[bQ,bQ,ih];omega
theorem fV (n:Nat)(a:Int)(f:Nat->Int):sm n (λk=>a*f k)=a*sm n f:=by
 induction n with
 |zero=>rw[oZ,oZ,Int.mul_zero]
 |succ n ih=>rw[bQ,bQ,ih,Int.mul_add]
theorem mY (n:Nat)(a:Int)(f:Nat->Int):sm n (λk=>f k*a)=sm n f*a:=by
 induction n with
 |zero=>rw[oZ,oZ,Int.zero_mul]
 |succ n ih=>rw[bQ,bQ,ih,Int.add_mul]
theorem mI (n m:Nat)(f:Nat->Nat->Int):sm n (λi=>sm m (λj=>f i j))=sm m (λj=>sm n (λi=>f i j)):=by
 induction n with
 |zero=>rw[oZ];exact (wZ m).symm
 |succ n ih=>
  rw[bQ,ih,<-tH];exact aU λj _=>by rw[bQ]
theorem yG (n m:Nat)(f:Nat->Int):sm (n+m) f=sm n f+sm m (λk=>f (n+k)):=by
 induction m with
 |zero=>rw[oZ,Int.add_zero];rfl
 |succ m ih=>rw[<-Nat.add_assoc,bQ,bQ,ih,Int.add_assoc]
theorem Dy (n:Nat)(f:Nat->Int):sm (n+1) f=f 0+sm n (λk=>f (k+1)):=by
 rw[show n+1=1+n by omega,yG,bQ,oZ,Int.zero_add];congr 1;exact aU λk _=>by rw[Nat.add_comm]
theorem iP (d:t<n)(h: ∀k,k<n->k≠t->f k=0):sm n f=f t:=by
 induction n with
 |zero=>omega
 |succ n ih=>
  rw[bQ]
  by_cases b:n=t
  .subst b
   rw[fI λk c=>h k (by omega) (by omega),Int.zero_add]
  .rw[ih (by omega) λk c a=>h k (by omega) a,h n (by omega) b,Int.add_zero]
theorem nE (b:t<n)(f:Nat->Int):sm n (λk=>if k=t then f k else 0)=f t:=by
 rw[iP b λk _ a=>aQ a,aS rfl]
theorem QR (b:t<n)(f:Nat->Int):sm n (λk=>if t=k then f k else 0)=f t:=by
 rw[iP b λk _ a=>aQ (Ne.symm a),aS rfl]
theorem GS {m:Nat}(h:n<=m)(a: ∀k,n<=k->k<m->f k=0):sm m f=sm n f:=by
 obtain⟨t,rfl⟩: ∃t,m=n+t:=⟨m-n,by omega⟩
 rw[yG,fI (n:=t) λk b=>a (n+k) (by omega) (by omega),Int.add_zero]
theorem SS {g:Nat->Int}(h: ∀k,k<n->f k<=g k):sm n f<=sm n g:=by
 induction n with
 |zero=>exact Int.le_refl _
 |succ n ih=>
  have:=ih λk a=>h k (by omega)
  have:=h n (by omega);rw[bQ,bQ];omega
theorem OB (h: ∀k,k<n->0<=f k):0<=sm n f:=by
 have:=SS (f:=λ_=>0) (g:=f) (n:=n) h;rw[wZ] at this;exact this
def ab (x:Int):Int:=if x<0 then -x else x
theorem Qr (x:Int):0<=ab x:=by unfold ab;split<;>omega
theorem amD {x b:Int}:ab x<=b↔ -b<=x/\x<=b:=by unfold ab;split<;>omega
end
end Go.Ay
namespace Go.Proofs.YtoighkablmjfeaaGreat
open Go Go.Ay
section
variable {h h' a:H} {l:List Int} {n:Int} {u:V} {b x:Nat}
def aiF (h:H)(l:List Int)(v:V)(h':H):Prop:=dF h' v 1 (ints l) h.next/\Fr h h'/\(0<l.length-> ∃id,v= .sl id 0 l.length (.un 1)/\h.next<=id/\id<h'.next/\h'.get id=cE (ints l))
theorem Vb {v:V}(j:SI h v l)(k:l.length<1000000): ∃v' h',tW (h.new (.cells false [])) 1 8 (.sl h.next 0 0 (.kn 0)) v=some (v',h')/\aiF h l v' h':=by
 obtain⟨v',h',e,a⟩:=(dF.new h 1 0 h.next [] rfl (dN _)).app (bytes:=8) (n:=0) (by rw[H.aM];omega) (SV.mono j ((Fr.refl h).new _)) (m:=l.length) rfl (by rw[aE,jP]) om om;refine⟨v',h',e,a.own,a.fr h ((Fr.refl h).new _) (dN _),λo=>?_⟩;rcases a.cT with ⟨c,_⟩|⟨id,c,d,i,f⟩
 .omega
 .exact⟨id,by rw[c,Nat.zero_add],d,i,f⟩
theorem ajA (v:V)(l:List Int)(h:H)(d:SI h v l)(f:l.length<1000000):Ev T 52 [v] h (aiF h l):=by
 refine EvZ zT rfl ?_;simp only[zT,aV,go_sem];obtain⟨i,h',e,c⟩:=Vb d f;simp only[e,go_sem];exact c
theorem Bv (n d:Nat):(n:Int).tmod (d:Int)=((n%d:Nat):Int):=rfl
theorem zC (a:Int)(c:0<n): -n<a.tmod n/\a.tmod n<n:=by
 have d:=Int.tmod_lt_of_pos a c;refine⟨?_,d⟩;rcases Int.le_total 0 a with h|h
 .have:=Int.tmod_nonneg n h;omega
 .have f:=Int.tmod_lt_of_pos (-a) c
  rw[Int.neg_tmod] at f;omega
theorem Dv (a:Int)(d:0<n):(if a.tmod n<0 then a.tmod n+n else a.tmod n)=a%n:=by
 have i:=zC a d;have f:a.tmod n=a-n*(a.tdiv n):=by have:=Int.mul_tdiv_add_tmod a n;omega
 have k:a%n=a-n*(a/n):=Int.emod_def a n;have j:=Int.emod_nonneg a (show n≠0 by omega);have m:=Int.emod_lt_of_pos a d
 have c:(a.tmod n)%n=a%n:=by
  rw[f,Int.sub_emod,Int.mul_emod_right,Int.sub_zero,Int.emod_emod]
 split
 .rw[<-c,<-Int.emod_eq_of_lt (a:=a.tmod n+n) (b:=n) om om,Int.add_emod_right]
 .rw[<-c,Int.emod_eq_of_lt om om]
theorem CH (a:Int)(d:0<n):(a.tmod n+n).tmod n=a%n:=by
 have f:=zC a d;have c:=Dv a d;rw[Int.tmod_eq_emod_of_nonneg om,Int.add_emod_right];split at c
 .rw[<-c,<-Int.emod_eq_of_lt (a:=a.tmod n+n) (b:=n) om om,Int.add_emod_right]
 .rw[<-c,Int.emod_eq_of_lt om om]
theorem vH {a b:List Int}(d:a.length=b.length)(h: ∀j,j<a.length->a.getD j 0=b.getD j 0):a=b:=by
 apply List.ext_getElem d;intro i c f;have:=h i c;rw[gV,dJ c,gV,dJ f] at this;exact this
theorem Ox {g:Nat}(t:T g=some jV.fn)(A y:V)(a b:List Int)(h:H)(F:SI h A a)(L:SI h y b)(Z:a.length<1000000)(a0:b.length<1000000):Ev T g [A,y] h (λv h'=>v= .bool (decide (a=b))/\Fr h h'):=by
 refine vZ t rfl ?_;obtain⟨id,Y,w,G,hc⟩:=F.open;obtain⟨W,O,r,o,B⟩:=L.open;simp (disch:=first|omega|(simp only[Qn];(try omega);done)|fail) only[go_sem,jV,aV,F.lens,L.lens];refine bV (λm=>?_) (λq=>?_)
 .simp (disch:=first|omega|(simp only[Qn];(try omega);done)|fail) only[go_sem]
  have:a≠b:=λe=>m (by rw[e])
  exact⟨by rw[bZ this],Fr.refl h⟩
 have q:a.length=b.length:=om
 simp (disch:=first|omega|(simp only[Qn];(try omega);done)|fail) only[go_sem,F.lens];refine aP (λk d J=> ∃(i:Nat) (K N Q:V),d= [A,y,.bool false,K,.bool (decide ((a.length:Int)≠(b.length:Int))),aC (a.length:Int),aC i,N,Q]/\i<=a.length/\(∀j,j<i->a.getD j 0=b.getD j 0)/\Fr h J/\k=a.length-i) a.length
  ⟨0,_,_,_,rfl,fY _,λj P=>om,Fr.refl h,rfl⟩ ?_
 rintro k d J ⟨i,K,N,Q,rfl,hi,f,c,rfl⟩;simp (disch:=first|omega|(simp only[Qn];(try omega);done)|fail) only[go_sem];refine bV (λU=>?_) (λR=>?_)
 .have z:=kV c G hc
  have s:=kV c o B;simp (disch:=first|omega|(simp only[Qn];(try omega);done)|fail) only[go_sem,w.ixa,r.ixa,z,s,Mc];refine bV (λm=>?_) (λhe=>?_)
  .simp (disch:=first|omega|(simp only[Qn];(try omega);done)|fail) only[go_sem]
   have:a≠b:=λe=>m (by rw[e])
   exact⟨by rw[bZ this],c.cU om⟩
  .simp (disch:=first|omega|(simp only[Qn];(try omega);done)|fail) only[go_sem]
   rw[fJ i];refine⟨a.length-(i+1),om,i+1,_,_,_,rfl,om,λj P=>?_,c.cU om,rfl⟩
   by_cases h3:j=i
   .rw[h3];exact Decidable.byContradiction he
   .exact f j om
 .simp (disch:=first|omega|(simp only[Qn];(try omega);done)|fail) only[go_sem]
  have:a=b:=vH q λj P=>f j om
  exact⟨by rw[cV this],c⟩
theorem WE (i d:V)(a b:List Int)(h:H)(k:SI h i a)(j:SI h d b)(c:a.length<1000000)(f:b.length<1000000):Ev T 214 [i,d] h (λv h'=>v= .bool (decide (a=b))/\Fr h h'):=Ox jV.ok i d a b h k j c f
theorem Ry (A y:V)(a b:List Int)(h:H)(t:SI h A a)(J:SI h y b)(U:a.length<1000000)(a0:b.length<1000000):Ev T 15 [A,y] h (λv h'=>v= .bool (decide (a=b))/\Fr h h'):=by
 refine mV ?_;obtain⟨id,R,w,F,hc⟩:=t.open;obtain⟨Q,K,r,o,B⟩:=J.open;simp (disch:=first|omega|(simp only[Qn];(try omega);done)|fail) only[go_sem,aV,t.lens,J.lens];refine bV (λm=>?_) (λq=>?_)
 .simp (disch:=first|omega|(simp only[Qn];(try omega);done)|fail) only[go_sem]
  have:a≠b:=λe=>m (by rw[e])
  exact⟨by rw[bZ this],Fr.refl h⟩
 have q:a.length=b.length:=om
 simp (disch:=first|omega|(simp only[Qn];(try omega);done)|fail) only[go_sem,t.lens];refine aP (λk d G=> ∃(i:Nat) (P Y x6:V),d= [A,y,.bool false,aC i,P,Y,x6]/\i<=a.length/\(∀j,j<i->a.getD j 0=b.getD j 0)/\Fr h G/\k=a.length-i) a.length
  ⟨0,_,_,_,rfl,fY _,λj L=>om,Fr.refl h,rfl⟩ ?_
 rintro k d G ⟨i,x3,x7,x8,rfl,hi,f,c,rfl⟩;simp (disch:=first|omega|(simp only[Qn];(try omega);done)|fail) only[go_sem,t.lens];refine bV (λO=>?_) (λN=>?_)
 .have z:=kV c F hc
  have s:=kV c o B;simp (disch:=first|omega|(simp only[Qn];(try omega);done)|fail) only[go_sem,w.ixa,r.ixa,z,s,Mc];refine bV (λm=>?_) (λZ=>?_)
  .simp (disch:=first|omega|(simp only[Qn];(try omega);done)|fail) only[go_sem]
   have:a≠b:=λe=>m (by rw[e])
   exact⟨by rw[bZ this],c.cU om⟩
  .simp (disch:=first|omega|(simp only[Qn];(try omega);done)|fail) only[go_sem]
   rw[fJ i];refine⟨a.length-(i+1),om,i+1,_,_,_,rfl,om,λj L=>?_,c.cU om,rfl⟩
   by_cases W:j=i
   .rw[W];exact Decidable.byContradiction Z
   .exact f j om
 .simp (disch:=first|omega|(simp only[Qn];(try omega);done)|fail) only[go_sem]
  have:a=b:=vH q λj L=>f j om
  exact⟨by rw[cV this],c⟩
def zQ (u:V)(b:Nat):Prop:= ∀id off n c,u= .sl id off n c->b<=id
theorem zQ.ne {id off n:Nat}{c:qD}(f:zQ u b)(h:id<b):u≠ .sl id off n c:=λe=>by have:=f _ _ _ _ e;omega
theorem zQ.le {i:Nat}(f:zQ u b)(h:i<=b):zQ u i:=λid d n c e=>kQ h (f id d n c e)
theorem zQ.own {v:V}{sz:Nat}{ws:List V}(o:dF h v sz ws b):zQ v b:=λid f n c e=>by
 rcases o with ⟨d,_⟩|⟨j,_,_,_,d,_,_,i,_⟩
 .rw[d] at e;cases e
 .rw[d] at e;cases e;exact i
structure zH (x:Nat)(h h':H):Prop where
 next:h.next<=h'.next
 get: ∀id,id<h.next->id≠x->h'.get id=h.get id
theorem zH.refl (x:Nat)(h:H):zH x h h:=⟨dN _,λ_ _ _=>rfl⟩
theorem zH.of (f:Fr h h'):zH x h h':=⟨f.next,λid c _=>f.get id c⟩
theorem zH.trans {b c:H}(f:zH x a b)(g:zH x b c):zH x a c:=⟨kQ f.next g.next,λid d i=>(g.get id (iD d f.next) i).trans (f.get id d i)⟩
theorem zH.set {b:H}(f:zH x a b)(o:Option Ob):zH x a (b.set x o):=⟨f.next,λid c d=>(H.Cj b d o).trans (f.get id c d)⟩
theorem zH.fr {b c:H}(f:Fr a b)(i:a.next<=x)(g:zH x b c):Fr a c:=⟨kQ f.next g.next,λid d=>(g.get id (iD d f.next) om).trans (f.get id d)⟩
theorem SI.fx {j:Nat}(s:SI h u l)(w:zQ u j)(y:x<j)(f:zH x h h'):SI h' u l:=by
 rcases s with s|⟨id,c,len,d,r,m,rfl,o,i,q,v,k⟩
 .exact .inl s
 .have t:=w _ _ _ _ rfl
  exact .inr ⟨id,c,len,d,r,m,rfl,o,iD i f.next,by rw[f.get id i om];exact q,v,k⟩
def Tk (h:H)(x:Nat)(l:List Int):Prop:= ∃vl,∃a:Nat,h.get x=cE [vl,aC a]/\SI h vl l/\(∀id off len c,vl= .sl id off len c->id<x)/\a<=l.length/\x<h.next
theorem Tk.mono (t:Tk h x l)(f:Fr h h'):Tk h' x l:=by
 have⟨i,a,d,k,j,m,c⟩:=t;exact⟨i,a,(f.get x c).trans d,k.mono f,j,m,iD c f.next⟩
theorem Tk.low (t:Tk h x l)(j:h.next<=h'.next)(i: ∀id,id<=x->h'.get id=h.get id):Tk h' x l:=by
 have⟨q,a,y,m,f,w,z⟩:=t;refine⟨q,a,(i x (dN _)).trans y,?_,f,w,iD z j⟩;rcases m with r|⟨id,c,len,d,o,s,e,B,A,k,F,v⟩
 .exact .inl r
 .have:=f _ _ _ _ e
  exact .inr ⟨id,c,len,d,o,s,e,B,iD A j,(i id om).trans k,F,v⟩
theorem Tk.set {y:Nat}(t:Tk h x l)(c:h.next<=y)(o:Option Ob):Tk (h.set y o) x l:=t.mono ((Fr.refl h).set c o)
theorem bX (a:Int)(c:0<n):0<=a%n/\a%n<n:=⟨Int.emod_nonneg a om,Int.emod_lt_of_pos a c⟩
def JX (n:Nat):Nat->Nat->Nat
 |0,_=>n
 |f+1,d=>if d*d<=n then (if n%d=0 then d else JX n f (d+1)) else n
def ajY (n:Nat):Nat:=JX n 1000 2
def cF (n:Int):Bool:=decide (1<n)&&(decide (n<1000000)&&decide (ajY n.toNat=n.toNat))
def fD (p:Int):Bool:=decide (p<10000)&&cF p
theorem jB {p:Int}(h:fD p=true):2<=p/\p<10000:=by
 simp only[fD,cF,oD,decide_eq_true_eq] at h;omega
end
end Go.Proofs.YtoighkablmjfeaaGreat
namespace Go.Proofs.YtoighkablmjfeaaGreat
open Go Go.Ay Go.Pm
theorem tA {g:Nat}(t:T g=some eQ.fn)(f:Nat)(q r:V)(a b:List V)(e:Nat->Bool)(h:H)(K:SV h q 1 a)(A:SV h r 1 b)(Q:a.length<1000000)(Y:b.length<1000000)
  (P:a.length=b.length-> ∀i,i<a.length-> ∀hh,Fr h hh->Ev T f [a.getD i .undef,b.getD i .undef] hh (λv h'=>v= .bool (e i)/\Fr hh h')):
  Ev T g [q,r,.fn f [] []] h (λv h'=>v= .bool (decide (a.length=b.length/\ ∀i,i<a.length->e i=true))/\Fr h h'):=by
 refine vZ t rfl ?_
 have J:dD q=some (aC (a.length:Int)):=by unfold dD;rw[K.len (n:=a.length) om om];rfl
 have U:dD r=some (aC (b.length:Int)):=by unfold dD;rw[A.len (n:=b.length) om om];rfl
 obtain⟨id,w,L,z,W⟩:=K.shape a.length om om
 obtain⟨u,o,y,m,x⟩:=A.shape b.length om om
 simp(disch:=omega)only[go_sem,eQ,aV,J,U]
 refine bV (λs=>?_) (λk=>?_)
 .refine aT ?_
  exact⟨by rw[bZ (λh=>s om)],Fr.refl h⟩
 have k:a.length=b.length:=om
 refine bM J ?_
 refine aP (λB d hh=> ∃(i:Nat),(∃g:Nat->V,d= [q,r,.fn f [] [],g 3,g 4,g 5,g 6,g 7,q,aC (a.length:Int),aC i,g 11,g 12])/\i<=a.length/\(∀j,j<i->e j=true)/\Fr h hh/\B=a.length-i) a.length
  ⟨0,aD rfl,fY _,λj R=>om,Fr.refl h,rfl⟩ ?_
 rintro B d hh ⟨i,⟨g,rfl⟩,hi,pre,F,rfl⟩
 by_cases l:(i:Int)<(a.length:Int)
 .have e1:=cV l
  have c:i<a.length:=om
  have N:hh.cell id (w+i)=some (a.getD i .undef):=by rw[F.cell (z om),W i c,List.getD,dJ c];rfl
  have O:hh.cell u (o+i)=some (b.getD i .undef):=by rw[F.cell (m om),x i om,List.getD,dJ om];rfl
  refine nW e1 @L.ixa @y.ixa N O ?_
  refine (P k i c hh F).mono ?_
  rintro _ Z ⟨rfl,G⟩
  cases he:e i with
  |true=>
   refine aT ?_;rw[fJ i];refine⟨a.length-(i+1),om,i+1,aD rfl,om,λj R=>?_,F.trans G,rfl⟩
   by_cases e2:j=i
   .rw[e2];exact he
   .exact pre j om
  |false=>
   refine aT ?_;exact⟨by rw[bZ (λh=>by have:=h.2 i c;rw[he] at this;cases this)],F.trans G⟩
 have e1:=bZ l
 obtain rfl:i=a.length:=om
 refine bM e1 ?_
 exact⟨by rw[cV ⟨k,pre⟩],F⟩
theorem gH {α β:Type}{R:α->β->Prop}{c:List α}{b:List β}(a:bH R c b){i:Nat}(hi:i<b.length)(d:α)(e:β):R (c.getD i d) (b.getD i e):=by
 have f:=a.length;rw[List.getD,dJ om,List.getD,dJ hi];exact a.get i om hi
theorem tJ {α:Type}[DecidableEq α]{a b:List α}(d:α):decide (a=b)=decide (a.length=b.length/\ ∀i,i<a.length->decide (a.getD i d=b.getD i d)=true):=by
 congr 1;rw[eq_iff_iff];constructor
 .rintro rfl;exact⟨rfl,λi _=>by simp⟩
 .rintro⟨h1,h2⟩
  exact Cq (d:=d) h1 λi hi=>by simpa using h2 i hi
def Ul (R:List (List (List Int))):Prop:=R.length<1000000/\ ∀i,i<R.length->(R.getD i []).length<1000000
def Je (R:List (List (List Int))):Prop:=R.length<1000000/\ ∀i,i<R.length->(R.getD i []).length<1000000/\ ∀k,k<(R.getD i []).length->((R.getD i []).getD k []).length<1000000
def Li (O:List (List Int)):Prop:=O.length<1000000/\ ∀i,i<O.length->(O.getD i []).length<1000000
theorem WH (va vb:V)(d o:Int)(O x:List (List Int))(R L:List (List (List Int)))(h:H)(ha:ChI h va d O R)(hb:ChI h vb o x L)(so:Li O)(F:Li x)(sr:Je R)(q:Je L):
  Ev T 161 [va,vb] h (λv h'=>v= .bool (decide (d=o/\O=x/\R=L))/\Fr h h'):=by
 obtain⟨t,y,rfl,sO,sR⟩:=ha
 obtain⟨c,j,rfl,a0,a3⟩:=hb
 have⟨wO,tO,aO⟩:=sO
 have⟨a1,K,J⟩:=a0
 have⟨wR,tR,aR,_⟩:=sR
 have⟨Y,z,G,_⟩:=a3
 have lO:=aO.length
 have A:=J.length
 have lR:=aR.length
 have r:=G.length
 refine pM (dH h (v:= aC d) (u:=t) (w:=y) rfl tO.cT.2.1 tR.cT.2.1) ?_
 obtain⟨b,m⟩: ∃b,b=h.new (.cells false [aC d,t,y]):=⟨_,rfl⟩
 have g1:b.get h.next=some (.cells false [aC d,t,y]):=by rw[m,H.aI]
 have n1:b.next=h.next+1:=by rw[m,H.aM]
 have f1:Fr h b:=by rw[m];exact (Fr.refl h).new _
 rw[<-m]
 refine bM (dH b (v:= aC o) (u:=c) (w:=j) rfl K.cT.2.1 z.cT.2.1) ?_
 obtain⟨a,n⟩: ∃a,a=b.new (.cells false [aC o,c,j]):=⟨_,rfl⟩
 have g2:a.get b.next=some (.cells false [aC o,c,j]):=by rw[n,H.aI]
 have n2:a.next=b.next+1:=by rw[n,H.aM]
 have f2:Fr b a:=by rw[n];exact (Fr.refl b).new _
 rw[<-n]
 have ga: ∀l,Fr a l-> ∀i,l.cell h.next i= [aC d,t,y][i]? :=λl f i=>by rw[H.cell_of (by rw[f.get _ om,f2.get _ om];exact g1)]
 have gb: ∀l,Fr a l-> ∀i,l.cell b.next i= [aC o,c,j][i]? :=λl f i=>by rw[H.cell_of (by rw[f.get _ om];exact g2)]
 have F2:=f1.trans f2
 by_cases Q:d=o
 case neg=>
  have e1:=bZ Q;simp(disch:=omega)only[go_sem,H.cell_of g1,ga a (Fr.refl _),gb a (Fr.refl _),e1];exact⟨by rw[bZ (λh=>Q h.1)],F2⟩
 have e1:=cV Q
 simp(disch:=omega)only[go_sem,H.cell_of g1,ga a (Fr.refl _),gb a (Fr.refl _),e1]
 refine (tA eQ.ok 214 t c wO a1 (λi=>decide (O.getD i []=x.getD i [])) a (tO.mono F2) (K.mono F2) (by rw[lO];exact so.1) (by rw[A];exact F.1) (λhl i hi l f=>?_)).mono ?_
 .exact WE _ _ _ _ l ((gH aO om _ _).mono (F2.trans f)) ((gH J om _ _).mono (F2.trans f)) (so.2 i om) (F.2 i om)
 rw[lO,A,<-tJ]
 rintro _ h3 ⟨rfl,U⟩
 by_cases N:O=x
 case neg=>
  rw[bZ N];refine aT ?_;exact⟨by rw[bZ (λh=>N h.2.1)],F2.trans U⟩
 rw[cV N]
 refine eZ (ga h3 U) (gb h3 U) ?_
 have B:=F2.trans U
 refine (tA iB.ok 216 y j wR Y (λi=>decide (R.getD i []=L.getD i [])) h3 (tR.mono B) (z.mono B) (by rw[lR];exact sr.1) (by rw[r];exact q.1) (λhl i hi l f=>?_)).mono ?_
 .refine mV ?_
  refine bM @aV ?_
  obtain⟨ws,s1,s2⟩:=(gH aR (i:=i) om .undef []).mono (B.trans f)
  obtain⟨a2,W,s⟩:=(gH G (i:=i) om .undef []).mono (B.trans f)
  have k1:=s2.length
  have k2:=s.length
  refine (tA fU.ok 218 _ _ ws a2 (λk=>decide ((R.getD i []).getD k []=(L.getD i []).getD k [])) l s1 W (by rw[k1];exact (sr.2 i om).1) (by rw[k2];exact (q.2 i om).1) (λa4 k hk h4 P=>?_)).mono ?_
  .refine mV ?_
   refine bM @aV ?_
   refine (Ox qF.ok _ _ _ _ h4 ((gH s2 om _ _).mono P) ((gH s om _ _).mono P) ((sr.2 i om).2 k om) ((q.2 i om).2 k om)).mono ?_
   rintro _ h5 ⟨rfl,Z⟩
   refine aT ?_
   exact Z
  rw[k1,k2,<-tJ]
  rintro _ h5 ⟨rfl,Z⟩
  refine aT ?_
  exact Z
 rw[lR,r,<-tJ]
 rintro _ h4 ⟨rfl,P⟩
 refine aT ?_
 refine⟨?_,B.trans P⟩
 congr 2
 rw[eq_iff_iff]
 exact⟨λh=>⟨Q,N,h⟩,λh=>h.2.2⟩
end Go.Proofs.YtoighkablmjfeaaGreat
namespace Go.Proofs.YtoighkablmjfeaaGreat
open Go Go.Ay Go.Pm
section
variable {i:Nat} {a:List Int}
def rH (a:List Int):Bool:=decide a.Nodup&&a.all λx=>decide (0<=x)&&decide (x<(a.length:Int))
def PU (a:List Int):Int:=if a.length<1\/64<a.length then 2 else if rH a=true then 0 else 3
structure Pre (a:List Int)(i:Nat):Prop where
 nd:(a.take i).Nodup
 rg: ∀x∈a.take i,0<=x/\x<(a.length:Int)
theorem GU {l:List Int}(hi:i<l.length):l.take (i+1)=l.take i++ [l.getD i 0]:=by
 rw[List.take_add_one,dJ hi];simp [List.getD,hi]
theorem Pre.zero (a:List Int):Pre a 0:=⟨siM,λx b=>by simp at b⟩
theorem Pre.succ (p:Pre a i)(hi:i<a.length)(d:0<=a.getD i 0)(c:a.getD i 0<(a.length:Int))(h2:a.getD i 0∉a.take i):Pre a (i+1):=by
 refine⟨?_,λx b=>?_⟩
 .rw[GU hi,List.nodup_append]
  exact⟨p.nd,siM,λx b y f=>by
   have e:y=a.getD i 0:=by simpa using f
   intro e2;rw[e2,e] at b
   exact h2 b⟩
 .rw[GU hi] at b
  rcases Es.1 b with b|b
  .exact p.rg x b
  .simp at b;subst b;exact⟨d,c⟩
theorem Pre.all (p:Pre a a.length):rH a=true:=by
 have e:a.take a.length=a:=List.take_length;unfold rH;simp only[oD,decide_eq_true_eq,uR];exact⟨e▸p.nd,λx b=>p.rg x (by rw[e];exact b)⟩
theorem Ug (hi:i<a.length)(h:a.getD i 0<0\/(a.length:Int)<=a.getD i 0\/a.getD i 0∈a.take i):rH a=false:=by
 cases e:rH a with
 |false=>rfl
 |true=>
  exfalso;unfold rH at e;simp only[oD,decide_eq_true_eq,uR] at e;obtain⟨e1,e2⟩:=e
  have c:a.getD i 0∈a:=by
   have:a.getD i 0=a[i]:=by simp [List.getD,hi]
   rw[this];exact Hn hi
  have:=e2 _ c;rcases h with h|h|h
  .omega
  .omega
  .have b:(a.take (i+1)).Nodup:=e1.sublist (List.take_sublist _ _)
   rw[GU hi,List.nodup_append] at b;exact b.2.2 _ h _ siM rfl
theorem EU: [V.bool false,.bool false,.bool false,.bool false,.bool false,.bool false,.bool false,.bool false,.bool false,.bool false,.bool false,.bool false,.bool false,.bool false,.bool false,.bool false,
 .bool false,.bool false,.bool false,.bool false,.bool false,.bool false,.bool false,.bool false,.bool false,.bool false,.bool false,.bool false,.bool false,.bool false,.bool false,.bool false,
 .bool false,.bool false,.bool false,.bool false,.bool false,.bool false,.bool false,.bool false,.bool false,.bool false,.bool false,.bool false,.bool false,.bool false,.bool false,.bool false,
 .bool false,.bool false,.bool false,.bool false,.bool false,.bool false,.bool false,.bool false,.bool false,.bool false,.bool false,.bool false,.bool false,.bool false,.bool false,.bool false]=rc 64 (λ_=> .bool false):=rfl
theorem zX (u:V)(a:List Int)(h:H)(U:a.length<1000000)(N:SI h u a):
  Ev T 160 [u] h (λv h'=>v= aC (PU a)/\Fr h h'):=by
 refine mV ?_
 have m:=N.lens
 obtain⟨id,off,s,z,R⟩:=N.open
 by_cases J:a.length<1
 .have t:decide ((a.length:Int)<1)=true:=cV om
  refine iG @aV m t ?_
  exact⟨by unfold PU;rw[aS (.inl J)],Fr.refl h⟩
 have t:decide ((a.length:Int)<1)=false:=bZ om
 by_cases Q:64<a.length
 .have d2:decide ((64:Int)<(a.length:Int))=true:=cV om
  refine jX @aV m t d2 ?_
  exact⟨by unfold PU;rw[aS (.inr Q)],Fr.refl h⟩
 have d2:decide ((64:Int)<(a.length:Int))=false:=bZ om
 have w:PU a=if rH a=true then 0 else 3:=by unfold PU;rw[aQ om]
 refine nW @aV m t d2 @EU ?_
 have q:Fr h (h.new (.cells false (rc 64 λ_=>V.bool false))):=(Fr.refl h).new _
 have d:(h.new (.cells false (rc 64 λ_=>V.bool false))).get h.next=some (.cells false (rc 64 λ_=>V.bool false)):=H.aI ..
 have o:(h.new (.cells false (rc 64 λ_=>V.bool false))).next=h.next+1:=H.aM ..
 generalize h.new (.cells false (rc 64 λ_=>V.bool false))=J at*
 obtain⟨S,P⟩:=exI h.next
 rw[P] at d o
 rw[P]
 refine aP (λK c L=> ∃(i:Nat),(∃j:Nat->V,c= [u,aC 0,.ptr S 0,j 3,j 4,u,aC (a.length:Int),aC i,j 8,j 9])/\i<=a.length/\Pre a i/\
   L.get S=some (.cells false (rc 64 λj=> .bool ((a.take i).contains (j:Int))))/\Fr h L/\K=a.length-i) a.length
  ⟨0,aD rfl,fY _,Pre.zero a,by rw[d];rfl,q,rfl⟩ ?_
 clear d q o
 rintro K c O ⟨i,⟨Y,rfl⟩,hi,pre,A,F,rfl⟩
 refine aT ?_
 by_cases n:(i:Int)<(a.length:Int)
 .rw[cV n]
  have b:i<a.length:=om
  have ci:O.cell id (off+i)=some (aC (a.getD i 0)):=by rw[F.cell (z om),R i b]
  generalize f:a.getD i 0=x at ci
  by_cases l:x<0
  .have e0:=cV l
   refine iG @s.ixa ci e0 ?_
   refine⟨?_,F⟩
   rw[w,Ug b (.inl (by rw[f];exact l))];rfl
  have e0:=bZ l
  by_cases y:(a.length:Int)<=x
  .have e1:decide ((a.length:Int)<=x)=true:=cV om
   refine nW @s.ixa ci e0 e1 m ?_
   refine⟨?_,F⟩
   rw[w,Ug b (.inr (.inl (by rw[f];exact y)))];rfl
  have e1:decide ((a.length:Int)<=x)=false:=bZ om
  obtain⟨k,rfl⟩: ∃k:Nat,x=(k:Int):=⟨x.toNat,om⟩
  have G:k<64:=om
  have r:=vD A G
  cases hm:(a.take i).contains (k:Int) with
  |true=>
   rw[hm] at r;refine wE @s.ixa ci e0 e1 m r ?_;refine⟨?_,F⟩;rw[w,Ug b (.inr (.inr (by rw[f];simpa using hm)))];rfl
  |false=>
   rw[hm] at r;have B:=bE (vs:=rc 64 λj=> .bool ((a.take i).contains (j:Int))) (off:=k) (by rw[dE];exact G) O S (.bool true);rw[iQ] at B;refine wY @s.ixa ci e0 e1 m r A B ?_;rw[fJ i];refine⟨a.length-(i+1),om,i+1,aD rfl,om,pre.succ b (by rw[f];omega) (by rw[f];omega) (by rw[f];simpa using hm),?_,F.set om _,rfl⟩;congr 2;refine bW λj W=>?_
   rw[GU b,f]
   by_cases e:j=k
   .subst e;rw[aS rfl];simp
   .rw[aQ e]
    congr 1;rw[Ri];simp only[List.contains_iff_mem,Es,List.mem_singleton];constructor
    .exact .inl
    .rintro (h|h)
     .exact h
     .omega
 rw[bZ n]
 obtain rfl:i=a.length:=om
 refine aT ?_
 refine⟨?_,F⟩
 rw[w,pre.all];rfl
end
end Go.Proofs.YtoighkablmjfeaaGreat
namespace Go.Proofs.YtoighkablmjfeaaGreat
open Go Go.Ay Go.Pm
theorem LS (a:H)(c:Nat)(b:c<=100000):sD a 1 1 [.bool false] (aC c) (aC c)=some (.sl a.next 0 c (.kn c),a.new (.cells false (rc c λ_=> .bool false))):=by
 rw[iH om (Int.le_refl _) om om,Mc,jP];congr 4;refine List.ext_getElem (by simp [cJ,rc]) λi _ _=>?_
 simp [cJ,Nat.mod_one,rc]
theorem OM {a:List Int}(h:rH a=true):a=zi (a.map Int.toNat)/\bJ a.length (a.map Int.toNat):=by
 unfold rH at h;simp only[oD,decide_eq_true_eq,uR] at h;have⟨f,c⟩:=h
 have e:a=zi (a.map Int.toNat):=by
  unfold zi;rw[List.map_map];refine (List.map_id a).symm.trans (Nt λx b=>?_);have:=(c x b).1
  show x=((x.toNat:Nat):Int)
  omega
 refine⟨e,siM,?_,λx b=>?_⟩
 .rw[Ow,List.pairwise_map]
  rw[Ow] at f;refine f.imp_of_mem λ{x y} b d i e2=>?_
  have:=(c x b).1;have:=(c y d).1;omega
 .obtain⟨y,d,rfl⟩:=oG.1 b
  have:=c y d;omega
theorem Wn {n:Nat}{l:List Nat}(L:bJ n l):rH (zi l)=true:=by
 unfold rH;simp only[oD,decide_eq_true_eq,uR];refine⟨?_,λx c=>?_⟩
 .unfold zi
  have:=L.nd;rw[Ow] at this |-;rw[List.pairwise_map];exact this.imp λa e=>a om
 .obtain⟨k,b,rfl⟩:=oG.1 c
  have:=L.lt k b;rw[bD,L.len];omega
end Go.Proofs.YtoighkablmjfeaaGreat
namespace Go.Proofs.YtoighkablmjfeaaGreat
open Go Go.Ay Go.Pm
def rX:List Nat->List Nat->Bool
 |x::a,y::b=>if x=y then rX a b else decide (x<y)
 |a,b=>decide (a.length<b.length)
theorem Lr:{a b:List Nat}->{i:Nat}->(∀j,j<i->a.getD j 0=b.getD j 0)->i<a.length->i<b.length->a.getD i 0≠b.getD i 0->rX a b=decide (a.getD i 0<b.getD i 0)
 | [],_,i,_,h,_,_=>by simp at h
 |_::_, [],i,_,_,h,_=>by simp at h
 |x::a,y::b,0,_,_,_,hne=>by
  have:x≠y:=by simpa using hne
  simp [rX,this]
 |x::a,y::b,i+1,h,h1,h2,hne=>by
  have e:x=y:=by simpa using h 0 om
  unfold rX;rw[aS e,Lr (a:=a) (b:=b) (i:=i) (λj c=>by simpa using h (j+1) om) (by simpa using h1) (by simpa using h2) (by simpa using hne)];simp
theorem vN: ∀a:List Nat,rX a a=false
 | []=>by simp [rX]
 |x::a=>by unfold rX;rw[aS rfl];exact vN a
theorem mO {a b:List Nat}(o:a.length=b.length):rX a b=true↔Lt a b:=by
 by_cases h: ∃i,i<a.length/\a.getD i 0≠b.getD i 0
 .have n: ∃i,(i<a.length/\a.getD i 0≠b.getD i 0)/\ ∀j,j<i-> ¬(j<a.length/\a.getD j 0≠b.getD j 0):=by
   have⟨i,hi⟩:=h
   induction i using Nat.strongRecOn with
   |_ i ih=>
    by_cases l: ∃j,j<i/\j<a.length/\a.getD j 0≠b.getD j 0
    .have⟨j,f,d⟩:=l;exact ih j f d
    .exact⟨i,hi,λj f d=>l ⟨j,f,d⟩⟩
  have⟨i,⟨f,d⟩,q⟩:=n;have c: ∀j,j<i->a.getD j 0=b.getD j 0:=λj l=>zL λm=>q j l ⟨om,m⟩
  rw[Lr c f om d,decide_eq_true_eq];constructor
  .intro h;exact⟨i,f,c,h⟩
  .rintro⟨k,h4,h5,h6⟩
   rcases Nat.lt_trichotomy i k with h|h|h
   .exact absurd (h5 i h) d
   .subst h;exact h6
   .have:=c k h;omega
 .have e:a=b:=rL o λi hi=>zL λm=>h ⟨i,hi,m⟩
  subst e;rw[vN];constructor
  .intro h;cases h
  .exact λh=>(h.asymm h).elim
theorem aeR (u w:V)(n:Nat)(a b:List Nat)(h:H)(R:n<100000)(la:a.length=n)(lb:b.length=n)(K:SI h u (zi a))(G:SI h w (zi b)):
  Ev T 92 [u,w] h (λv h'=>v= .bool (rX a b)/\Fr h h'):=by
 have t:=K.lens
 rw[bD,la] at t
 have s:=G.lens
 rw[bD,lb] at s
 obtain⟨id,z,x,r,N⟩:=K.open
 rw[bD,la] at x r N
 obtain⟨y,o,l,f,q⟩:=G.open
 rw[bD,lb] at l f q
 refine lG ?_
 refine aP (λA k O=> ∃(i:Nat),(∃j:Nat->V,k= [u,w,.bool false,aC i,j 4,j 5])/\i<=n/\(∀j,j<i->a.getD j 0=b.getD j 0)/\Fr h O/\A=n-i) n
  ⟨0,aD rfl,fY _,λ_ h=>om,Fr.refl h,rfl⟩ ?_
 rintro A k J ⟨i,⟨U,rfl⟩,hi,pre,F,rfl⟩
 by_cases m:(i:Int)<(n:Int)
 .have d:=cV m
  have c:i<n:=om
  have ci:J.cell id (z+i)=some (aC (a.getD i 0:Nat)):=by rw[F.cell (r om),N i c];congr 2;simp [zi,la,c]
  have B:J.cell y (o+i)=some (aC (b.getD i 0:Nat)):=by rw[F.cell (f om),q i c];congr 2;simp [zi,lb,c]
  by_cases L:a.getD i 0=b.getD i 0
  .have e0:decide (((a.getD i 0:Nat):Int)≠((b.getD i 0:Nat):Int))=false:=bZ om
   refine wY t s d @x.ixa @l.ixa ci B e0 ?_
   rw[fJ i]
   refine⟨n-(i+1),om,i+1,aD rfl,om,λj P=>?_,?_,rfl⟩
   .by_cases e:j=i
    .rw[e];exact L
    .exact pre j om
   .first|exact F|exact F.cU om
  .have e0:decide (((a.getD i 0:Nat):Int)≠((b.getD i 0:Nat):Int))=true:=cV om
   refine wY t s d @x.ixa @l.ixa ci B e0 ?_
   refine⟨?_,?_⟩
   .rw[Lr pre om om L]
    congr 1
    rw[Ri];simp
   .first|exact F|exact F.cU om|exact (F.cU om).cU siO
 have d:=bZ m
 have Q:decide ((n:Int)<(n:Int))=false:=bZ om
 obtain rfl:i=n:=om
 refine iG t s d ?_
 have e:a=b:=rL om λj P=>pre j om
 refine⟨?_,F⟩
 rw[e,vN]
end Go.Proofs.YtoighkablmjfeaaGreat
namespace Go.Proofs.YtoighkablmjfeaaGreat
open Go Go.Ay Go.Pm
section
variable {n:Nat} {O:List (List Int)}
theorem IP (d:Int)(a b:V)(c:a.one=true)(f:b.one=true)(h:H):Ev T 114 [.agg [aC d,a,b]] h (λv h'=>v= .fn 167 [] [.ptr h.next 0]/\h'.get h.next=cE [aC d,a,b]/\h'.next=h.next+1/\Fr h h'):=by
 refine pM (dH h (v:= aC d) (u:=a) (w:=b) rfl c f) ?_;exact (Fr.refl h).new _
theorem Zp (id b:Nat)(d:Int)(y f:V)(ws:List V)(h:H)(L:ws.length<1000000)(J:Nat->H->Prop)(D:H->Prop)(q:J 0 h)
  (r: ∀i hh,J i hh->hh.get b=cE [aC d,y,f]/\SV hh f 1 ws)
  (u: ∀i hh,i<ws.length->J i hh->Ey T id [aC i,ws.getD i .undef] hh (λv h'=>v= .bool true/\J (i+1) h'\/v= .bool false/\D h')):
  Ev T 167 [.yl id,.ptr b 0] h (λ_ h'=>J ws.length h'\/D h'):=by
 obtain⟨z,B⟩:=r 0 h q
 have t:h.cell b 2=some f:=by rw[H.cell_of z];rfl
 have A:dD f=some (aC (ws.length:Int)):=by unfold dD;rw[B.len (n:=ws.length) om om];rfl
 refine Hv t A ?_
 refine aP (λs a hh=> ∃(i:Nat),(∃g:Nat->V,a= [.yl id,.ptr b 0,g 2,g 3,f,aC (ws.length:Int),aC i,g 7,g 8])/\i<=ws.length/\J i hh/\s=ws.length-i) ws.length
  ⟨0,aD rfl,fY _,q,rfl⟩ ?_
 rintro s a k ⟨i,⟨g,rfl⟩,hi,l,rfl⟩
 by_cases c:(i:Int)<(ws.length:Int)
 .have e1:=cV c
  obtain⟨N,x⟩:=r i k l
  obtain⟨o,j,w,F,G⟩:=x.shape ws.length om om
  have ci:k.cell o (j+i)=some (ws.getD i .undef):=by rw[G i om,List.getD,dJ om];rfl
  refine iG e1 @w.ixa ci ?_
  refine (u i k om l).mono ?_
  rintro v K (⟨rfl,m⟩|⟨rfl,m⟩)
  .refine aT ?_
   rw[fJ i]
   exact⟨ws.length-(i+1),om,i+1,aD rfl,om,m,rfl⟩
  .refine aT ?_
   exact .inr m
 have e1:=bZ c
 obtain rfl:i=ws.length:=om
 refine bM e1 ?_
 exact .inl l
structure VX (n:Nat)(O:List (List Int))(R:List (List (List Int))):Prop where
 lo:O.length=n
 lr:R.length=n
 row: ∀i,i<n->(R.getD i []).length=(O.getD i []).length/\(R.getD i []).length<=n-i
 perm: ∀i,i<n-> ∀x∈R.getD i [],x.length=n/\rH x=true
def KX (d:Int)(O:List (List Int))(R:List (List (List Int))):Prop:= ∃(n:Nat) (O':LN) (R':nZ),d=(n:Int)/\1<=n/\n<=64/\O=O'.map zi/\R=R'.map (List.map zi)/\Valid n O' R'
open Classical in
noncomputable def To (d:Int)(O:List (List Int))(R:List (List (List Int))):Int:=if d<1\/64<d then 2 else if KX d O R then 0 else 3
theorem aiG {a b:List Nat}(h:zi a=zi b):a=b:=by
 have:=congrArg (List.map Int.toNat) h
 have e: ∀a:List Nat,(zi a).map Int.toNat=a:=λa=>by
  unfold zi;rw[List.map_map];exact (Nt λx _=>by simp).trans (List.map_id a)
 rwa [e,e] at this
theorem map_inj {α β:Type}{f:α->β}(c: ∀x y,f x=f y->x=y):{a b:List α}->a.map f=b.map f->a=b
 | [], [],_=>rfl
 | [],_::_,h=>by cases h
 |_::_, [],h=>by cases h
 |x::a,y::b,h=>by
  simp only[List.map_cons,List.cons.injEq] at h;rw[c x y h.1,map_inj c h.2]
theorem yP {i:Nat}{G:List Nat->Prop}(f: ∀x,G x->bJ n x){o:List Nat}(hi:i<n)(a:o.Pairwise (· < ·))(mem: ∀p,p∈o↔ ∃x,G x/\Fix i x/\x.getD i 0=p):o.length<=n-i:=by
 have nd:o.Nodup:=by rw[Ow];exact a.imp λh e=>om
 have:=List.Nodup.length_le_of_subset nd (l₂:=(List.range (n-i)).map (· +i)) λp b=>by
  obtain⟨x,d,c,rfl⟩:=(mem p).1 b;have X:=f x d;have l:=X.eJ hi
  have k:i<=x.getD i 0:=zL λm=>by
   have:=X.inj hi (j:=x.getD i 0) om (by rw[c (x.getD i 0) om]);omega
  exact oG.2 ⟨x.getD i 0-i,mS.2 om,om⟩
 simpa using this
theorem KX.frm {R:List (List (List Int))}(c:KX (n:Int) O R):VX n O R:=by
 obtain⟨m,d,b,e,r,l,rfl,rfl,f,v⟩:=c;obtain rfl:n=m:=om
 have h: ∀i,i<n->(b.map (List.map zi)).getD i []=(b.getD i []).map zi/\(d.map zi).getD i []=zi (d.getD i [])/\ ∀x∈b.getD i [],x∈b.flatten:=λi hi=>by
  have o:=v.lr;have q:=v.lo;refine⟨by simp [List.getD,show i<b.length by omega],by simp [List.getD,show i<d.length by omega],λx a=>?_⟩;rw[List.getD,dJ om] at a;exact List.mem_flatten.2 ⟨_,Hn om,a⟩
 refine⟨by rw[dO];exact v.lo,by rw[dO];exact v.lr,λi hi=>?_,λi hi x a=>?_⟩
 .obtain⟨e1,e2,_⟩:=h i hi
  rw[e1,e2,dO,bD,v.rl i hi];exact⟨rfl,yP (λx a=>fG.cF f a) hi (v.asc i hi) (v.mem i hi)⟩
 .obtain⟨e1,_,k⟩:=h i hi
  rw[e1] at a;obtain⟨y,j,rfl⟩:=oG.1 a;have Y:=f y (k y j);exact⟨by rw[bD];exact Y.len,Wn Y⟩
theorem VX.nat {R:List (List (List Int))}(f:VX n O R): ∃R':nZ,R=R'.map (List.map zi)/\ ∀g∈R'.flatten,bJ n g:=by
 have b: ∀x,(∃i,i<n/\x∈R.getD i [])->x=zi (x.map Int.toNat)/\bJ n (x.map Int.toNat):=λx ⟨i,hi,a⟩=>by
  obtain⟨m,k⟩:=f.perm i hi x a;obtain⟨l,j⟩:=OM k;rw[m] at j;exact⟨l,j⟩
 have mem: ∀r∈R,∀x∈r,∃i,i<n/\x∈R.getD i []:=λr c x a=>by
  obtain⟨i,hi,rfl⟩:=Bj.1 c;have:=f.lr;exact⟨i,om,by rw[List.getD,dJ hi];exact a⟩
 refine⟨R.map (List.map (List.map Int.toNat)),?_,λg h=>?_⟩
 .rw[List.map_map]
  refine (List.map_id R).symm.trans (Nt λr c=>?_);show r=(r.map (List.map Int.toNat)).map zi;rw[List.map_map];refine (List.map_id r).symm.trans (Nt λx a=>(b x (mem r c x a)).1)
 .obtain⟨o,d,h⟩:=List.mem_flatten.1 h
  obtain⟨r,c,rfl⟩:=oG.1 d;obtain⟨x,a,rfl⟩:=oG.1 h;exact (b x (mem r c x a)).2
theorem KX.iff {d:nZ}(o:1<=n)(h2:n<=64)(j: ∀g∈d.flatten,bJ n g){f:LN}{i:nZ}(c:eD n (EB n d) f i):
  KX (n:Int) O (d.map (List.map zi))↔O=f.map zi/\d.map (List.map zi)=i.map (List.map zi):=by
 have inj: ∀a b:LN,a.map zi=b.map zi->a=b:=λa b h=>map_inj (λ_ _=>aiG) h
 constructor
 .rintro⟨m,O3,R3,e,_,_,rfl,e3,v⟩
  obtain rfl:n=m:=om
  have:=map_inj inj e3
  subst this
  obtain⟨l,k⟩:=(Valid.iff j c).1 v
  subst l k
  exact⟨rfl,rfl⟩
 .rintro⟨rfl,e⟩
  have:=map_inj inj e
  subst this
  exact⟨n,f,d,rfl,o,h2,rfl,rfl,(Valid.iff j c).2 ⟨rfl,rfl⟩⟩
end
end Go.Proofs.YtoighkablmjfeaaGreat
namespace Go.Proofs.YtoighkablmjfeaaGreat
open Go Go.Ay Go.Pm
section
variable {n i:Nat} {O:List (List Int)} {R:List (List (List Int))}
def QW (n:Nat)(O:List (List Int))(R:List (List (List Int)))(j:Nat):Prop:=((R.getD j []).length=(O.getD j []).length/\(R.getD j []).length<=n-j)/\ ∀x∈R.getD j [],x.length=n/\rH x=true
theorem VX.of (a:O.length=n)(h2:R.length=n)(h: ∀j,j<n->QW n O R j):VX n O R:=⟨a,h2,λi hi=>(h i hi).1,λi hi=>(h i hi).2⟩
theorem Kk (a:1<=n)(h2:n<=64)(h: ¬VX n O R):To (n:Int) O R=3:=by
 unfold To;rw[aQ om,aQ (λc=>h c.frm)]
theorem bF {α:Type}{l:List α}{k:Nat}{d:α}(h:k<l.length):l.getD k d∈l:=by
 rw[List.getD,dJ h];exact Hn h
theorem iW {α:Type}{l:List α}{k:Nat}(d:α)(h:k<l.length):l.take (k+1)=l.take k++ [l.getD k d]:=by
 rw[<-List.take_append_getElem h,List.getD,dJ h];rfl
theorem qX {R:List (List (List Int))}{m:Nat}:{i:Nat}->i<=R.length->(∀j,j<i->(R.getD j []).length<=m)->((R.take i).flatten).length<=i*m
 |0,_,_=>by simp
 |i+1,h,hr=>by
  rw[<-List.take_append_getElem (show i<R.length by omega),List.flatten_append,eE];have b:=qX (i:=i) om (λj c=>hr j om);have a:=hr i om;rw[List.getD,dJ om] at a;have a:R[i].length<=m:=a;simp only[List.flatten_cons,List.flatten_nil,qH];rw[Nat.succ_mul];omega
theorem Hg {G:List Nat->Prop}(b: ∀x,G x->bJ n x){O:LN}{R:nZ}(f:n<=64)(c:eD n G O R):Li (O.map zi)/\Je (R.map (List.map zi)):=by
 have d: ∀i,i<n->(O.getD i []).length<=n:=λi hi=>kQ (yP b hi (c.asc i hi) (c.mem i hi)) om
 refine⟨⟨by rw[dO,c.lo];omega,λi hi=>?_⟩,⟨by rw[dO,c.lr];omega,λi hi=>?_⟩⟩
 .rw[dO,c.lo] at hi
  have:(O.map zi).getD i []=zi (O.getD i []):=by simp [List.getD,show i<O.length by rw[c.lo];exact hi]
  rw[this,bD];have:=d i hi;omega
 .rw[dO,c.lr] at hi
  have e:(R.map (List.map zi)).getD i []=(R.getD i []).map zi:=by simp [List.getD,show i<R.length by rw[c.lr];exact hi]
  rw[e,dO,c.rl i hi];refine⟨by have:=d i hi;omega,λk a=>?_⟩
  have:((R.getD i []).map zi).getD k []=zi ((R.getD i []).getD k []):=by
   have:=c.rl i hi;simp [List.getD,show k<(R[i]?.getD []).length by simp [List.getD] at this a;omega]
  rw[this,bD,(b _ (c.rep i hi k a).mem).len];omega
theorem Je.out (s:Je R):Ul R:=⟨s.1,λi hi=>(s.2 i hi).1⟩
theorem Ul.DL (s:Ul R)(f: ∀i,i<R.length-> ∀x∈R.getD i [],x.length=n)(b:n<=64):Je R:=⟨s.1,λi hi=>⟨s.2 i hi,λk a=>by rw[f i hi _ (bF a)];omega⟩⟩
theorem NS {α:Type}{R:List (List α)}(hi:i<R.length):(R.take (i+1)).flatten=(R.take i).flatten++R.getD i []:=by
 rw[<-List.take_append_getElem hi,List.flatten_append];simp [List.getD,hi]
structure JR (h hh:H)(B id b:Nat)(r:dP)(n:Nat)(vO vR:V)(O:List (List Int))(R:List (List (List Int)))(i:Nat)(acc:List (List Int)):Prop where
 gB:hh.get B=some (.cells false [aC n,vO,vR])
 gR:hh.get (B+1)=some (.cells false [aC 0])
 gN:hh.get (B+1+1)=some (.cells false [aC n])
 gA: ∃va ws,hh.get (B+1+1+1)=some (.cells false [va])/\dF hh va 1 ws (id+1)/\bH (SI h) ws acc
 gr:hh.get id=some (.loop r)
 gb:hh.get b=some (.cells false [aC n,vO,vR])
 nx:id<hh.next
 fr:Fr h hh
 rows: ∀j,j<i->QW n O R j
structure CkD (h hh:H)(B id:Nat)(r:dP)(n:Nat)(O:List (List Int))(R:List (List (List Int))):Prop where
 gR:hh.get (B+1)=some (.cells false [aC 3])
 gr:hh.get id=some (.loop (Cy r .ret))
 nx:id<hh.next
 fr:Fr h hh
 bad: ¬VX n O R
theorem JR.mono {h j h2:H}{B id b:Nat}{r:dP}{d k:V}{c:List (List Int)}(J:JR h j B id b r n d k O R i c)(m:B+1+1+1<id)(s:b<id)(f:Fr j h2):JR h h2 B id b r n d k O R i c:=by
 obtain⟨l,q,g,o,a⟩:=J.gA;have:=J.nx;exact⟨by rw[f.get _ om];exact J.gB,by rw[f.get _ om];exact J.gR,by rw[f.get _ om];exact J.gN,⟨l,q,by rw[f.get _ om];exact g,o.fr f,a⟩,by rw[f.get _ om];exact J.gr,by rw[f.get _ om];exact J.gb,iD J.nx f.next,J.fr.trans f,J.rows⟩
theorem JR.loop {h d h2:H}{B id b:Nat}{r r2:dP}{f l:V}{c:List (List Int)}(J:JR h d B id b r n f l O R i c)(v:B+1+1+1<id)(y:b<id)(s:h.next<=B)(g:h2.get id=some (.loop r2))(j:h2.next=d.next)(o: ∀k,k≠id->h2.get k=d.get k):JR h h2 B id b r2 n f l O R i c:=by
 obtain⟨u,w,t,q,a⟩:=J.gA;refine⟨by rw[o _ om];exact J.gB,by rw[o _ om];exact J.gR,by rw[o _ om];exact J.gN,⟨u,w,by rw[o _ om];exact t,q.mono om λk _ _ _ _ x _=>o k om,a⟩,g,by rw[o _ om];exact J.gb,by rw[j];exact J.nx,⟨by rw[j];exact J.fr.next,λk m=>by rw[o k om];exact J.fr.get k m⟩,J.rows⟩
theorem Bq (vc:V)(d:Int)(O:List (List Int))(R:List (List (List Int)))(h:H)(hc:ChI h vc d O R)(hd:d<=20\/64<d)(so:Li O)(sr:Ul R):
  Ev T 110 [vc] h (λv h'=>v= aC (To d O R)/\Fr h h'):=by
 obtain⟨o,s,rfl,sO,sR⟩:=hc
 refine mV ?_
 obtain⟨wO,tO,aO⟩:=sO
 obtain⟨wR,tR,aR,kR⟩:=sR
 have lO:=aO.length
 have lR:=aR.length
 have c1:dD o=some (aC (O.length:Int)):=by unfold dD;rw[tO.len (n:=O.length) om om];rfl
 have e6:dD s=some (aC (R.length:Int)):=by unfold dD;rw[tR.len (n:=R.length) om om];rfl
 have a7:=tO.cT.2.1
 have a9:=tR.cT.2.1
 obtain⟨B,hB⟩:=exI h.next
 obtain⟨h1,e1,n1,g1,o1,f1⟩:=iI hB [aC d,o,s]
 obtain⟨h2,e2,n2,g2,o2,f2⟩:=iI n1 [aC 0]
 obtain⟨h3,e3,n3,g3,o3,f3⟩:=iI n2 [aC 0]
 obtain⟨h4,e4,n4,g4,o4⟩:=xN h3 (B+1+1) [aC d]
 have W:h2.get B=some (.cells false [aC d,o,s]):=by rw[o2 _ om];exact g1
 have a5:h4.get B=some (.cells false [aC d,o,s]):=by rw[o4 _ om,o3 _ om];exact W
 have A:h4.get (B+1)=some (.cells false [aC 0]):=by rw[o4 _ om,o3 _ om];exact g2
 have F4:Fr h h4:=by
  refine⟨om,λid b9=>?_⟩;rw[o4 _ om,o3 _ om,o2 _ om,o1 _ om]
 have pt:(a:H)->(id:Nat)->(x y:Int)->dY (some (.cells false [aC x])) a id 0 [aC y]=some (a.set id (some (.cells false [aC y]))):=λa id x y=>bE siM a _ _
 have bx:=dH h (v:= aC d) (u:=o) (w:=s) rfl a7 a9
 have j8:=H.cell_of A
 have a2: ∀z:Int,(h4.set (B+1) (some (.cells false [aC z]))).cell (B+1) 0=some (aC z)/\Fr h (h4.set (B+1) (some (.cells false [aC z]))):=λz=>⟨by rw[H.Aa];rfl,F4.set om _⟩
 by_cases b7:d<1
 .have t:=cV b7
  simp(disch:=omega)only[go_sem,aV,bx,hB,e1,n1,e2,n2,e3,H.cell_of W,g3,pt,e4,H.cell_of g4,t,A]
  exact⟨by unfold To;rw[aS (.inl b7)],(a2 2).2⟩
 have t:=bZ b7
 by_cases b5:64<d
 .have d2:=cV b5
  simp(disch:=omega)only[go_sem,aV,bx,hB,e1,n1,e2,n2,e3,H.cell_of W,g3,pt,e4,H.cell_of g4,t,d2,A]
  exact⟨by unfold To;rw[aS (.inr b5)],(a2 2).2⟩
 have d2:=bZ b5
 obtain⟨n,rfl⟩: ∃n:Nat,d=(n:Int):=⟨d.toNat,om⟩
 have Z:1<=n:=om
 have e8:n<=20:=om
 by_cases b2:(O.length:Int)≠(n:Int)
 .have dl:=cV b2
  simp(disch:=omega)only[go_sem,aV,bx,hB,e1,n1,e2,n2,e3,H.cell_of W,g3,pt,e4,H.cell_of g4,t,d2,A,H.cell_of a5,c1,dl]
  exact⟨by rw[Kk Z om (λf=>b2 (by have:=f.lo;omega))],(a2 3).2⟩
 have dl:=bZ b2
 by_cases b6:(R.length:Int)≠(n:Int)
 .have b0:=cV b6
  simp(disch:=omega)only[go_sem,aV,bx,hB,e1,n1,e2,n2,e3,H.cell_of W,g3,pt,e4,H.cell_of g4,t,d2,A,H.cell_of a5,c1,dl,e6,b0]
  exact⟨by rw[Kk Z om (λf=>b6 (by have:=f.lr;omega))],(a2 3).2⟩
 have b0:=bZ b6
 have d5:h4.next=B+1+1+1:=by rw[n4];exact n3
 obtain⟨h5,e5,n5,g5,o5,f5⟩:=iI d5 [.aH]
 have d0:h5.get B=some (.cells false [aC n,o,s]):=by rw[o5 _ om];exact a5
 have rB:=bU d0
 simp(disch:=omega)only[go_sem,aV,bx,hB,e1,n1,e2,n2,e3,H.cell_of W,g3,pt,e4,H.cell_of g4,t,d2,A,H.cell_of a5,c1,dl,e6,b0,d5,e5,rB]
 refine (IP (n:Int) o s a7 a9 h5).mono ?_
 rintro _ Y ⟨rfl,g6,n6,f6⟩
 refine aT ?_
 have F6:Fr h Y:=(F4.trans f5).trans f6
 have j0:Y.get B=some (.cells false [aC n,o,s]):=by rw[f6.get _ om];exact d0
 have i6:Y.get (B+1)=some (.cells false [aC 0]):=by rw[f6.get _ om,f5.get _ om];exact A
 have j3:Y.get (B+1+1)=some (.cells false [aC n]):=by rw[f6.get _ om,f5.get _ om];exact g4
 have j5:Y.get (B+1+1+1)=some (.cells false [.aH]):=by rw[f6.get _ om];exact g5
 refine⟨rfl,sJ λr hr=>?_⟩
 obtain⟨id,b9⟩:=exI Y.next
 obtain⟨b,hb⟩:=exI h5.next
 rw[hb] at g6 n6
 rw[b9,hb]
 have iS:r.st= .ready:=by rw[hr]
 have b4:r.pend=none:=by rw[hr]
 have j1:R.length=n:=om
 have i4:O.length=n:=om
 have f7:Fr Y (Y.new (.loop r)):=(Fr.refl Y).new _
 have o7: ∀k,k<id->(Y.new (.loop r)).get k=Y.get k:=λk hk=>H.bG Y om _
 have J0:JR h (Y.new (.loop r)) B id b r n o s O R 0 []:=
  ⟨by rw[o7 _ om];exact j0,by rw[o7 _ om];exact i6,by rw[o7 _ om];exact j3,⟨.aH, [],by rw[o7 _ om];exact j5,dF.aH _ _ _,trivial⟩,by rw[<-b9,H.aI],by rw[o7 _ om];exact g6,by rw[H.aM];omega,F6.trans f7,λj hj=>om⟩
 refine (Zp id b (n:Int) o s wR _ (by rw[lR];exact sr.1) (λi a=>JR h a B id b r n o s O R i (R.take i).flatten) (λa=>CkD h a B id r n O R) J0 (λi a J=>⟨J.gb,tR.mono J.fr⟩) ?_).mono ?_
 .rintro i a hi J
  have a1:i<n:=om
  refine pP J.gr (by rw[hr];rfl) iS λU g7 n7 o7=>?_
  rw[congrArg dP.assign hr,congrArg dP.vars hr,congrArg dP.pars hr]
  simp(disch:=omega)only[go_sem,List.zip_cons_cons,List.zip_nil_left]
  rw[congrArg dP.body hr]
  have J7:JR h U B id b (pF r) n o s O R i (R.take i).flatten:=J.loop om om om g7 n7 o7
  have c4:=gH aO (i:=i) om .undef []
  have c9:=gH aR (i:=i) om .undef []
  obtain⟨wr,tr,ar⟩:=c9
  have lr:=ar.length
  have c2:dD (wR.getD i .undef)=some (aC ((R.getD i []).length:Int)):=by unfold dD;rw[tr.len (n:=(R.getD i []).length) om om];rfl
  have c0:=c4.lens
  obtain⟨g9,d8,a3,c7,c5⟩:=(tO.mono J7.fr).shape O.length om om
  have co:U.cell g9 (d8+i)=some (wO.getD i .undef):=by rw[c5 i om,List.getD,dJ om];rfl
  have cB:=H.cell_of J7.gB
  have cN:=H.cell_of J7.gN
  have d9: ∀a P,JR h a B id b (pF r) n o s O R i P-> ¬VX n O R->CkD h ((a.set (B+1) (some (.cells false [aC 3]))).set id (some (.loop (Cy r .ret)))) B id r n O R:=λa P J hb=>by
   have:=J.nx;refine⟨by rw[H.Cj _ om,H.aJ],by rw[H.aJ],J.nx,(J.fr.set om _).set om _,hb⟩
  have yq: ∀a q P,JR h a B id b (pF r) n o s O R i P-> ¬VX n O R->Jp id (λv h'=>v= .bool true/\JR h h' B id b r n o s O R (i+1) (R.take (i+1)).flatten\/v= .bool false/\CkD h h' B id r n O R) .ret q (a.set (B+1) (some (.cells false [aC 3]))):=λa q P J hb=>
   On (by rw[H.Cj _ om];exact J.gr) (.inr ⟨rfl,d9 a P J hb⟩)
  by_cases G:((R.getD i []).length:Int)≠((O.getD i []).length:Int)
  .have t:=cV G
   refine wY c2 cB @a3.ixa co c0 t @J7.gR pt ?_
   exact yq _ _ _ J7 λf=>G (by have:=(f.row i a1).1;omega)
  have t:=bZ G
  by_cases c3:(n:Int)-(i:Int)<((R.getD i []).length:Int)
  .have d2:=cV c3
   simp(disch:=omega)only[go_sem,c2,cB,cN,a3.ixa,co,c0,t,d2,J7.gR,pt]
   exact yq _ _ _ J7 λf=>by have:=(f.row i a1).2;omega
  have d2:=bZ c3
  refine wY c2 cB cN @a3.ixa co c0 t d2 ?_
  refine aP (λk' q a=> ∃(k:Nat),(∃g:Nat->V,q= [g 0,.ptr B 0,.ptr (B+1) 0,.ptr (B+1+1) 0,.ptr (B+1+1+1) 0,g 5,g 6,g 7,g 8,g 9,g 10,g 11,g 12,g 13,wR.getD i .undef,aC ((R.getD i []).length:Int),aC k,g 17,g 18,g 19])/\k<=(R.getD i []).length/\JR h a B id b (pF r) n o s O R i ((R.take i).flatten++(R.getD i []).take k)/\
    (∀x∈(R.getD i []).take k,x.length=n/\rH x=true)/\k'=(R.getD i []).length-k) (R.getD i []).length
   ⟨0,aD rfl,fY _,by rw[List.take_zero,qH];exact J7,λx hx=>by simp at hx,rfl⟩ ?_
  clear co cB cN c7 c5 J7 t d2 a3 g7 n7 o7 U
  rintro k' q h8 ⟨k,⟨g,rfl⟩,hk,N,b1,rfl⟩
  by_cases c8:(k:Int)<((R.getD i []).length:Int)
  case neg=>
   have e1:=bZ c8;obtain rfl:k=(R.getD i []).length:=om
   rw[List.take_length] at N b1;rw[<-NS om] at N;refine bM e1 ?_;refine pQ iS b4 N.gr (.inl ⟨rfl,?_⟩);have l:=N.loop (h2:=h8.set id (some (.loop r))) om om om (by rw[H.aJ]) rfl (λk hk=>H.Cj _ hk _)
   have b8: ∀j,j<i+1->QW n O R j:=λj hj=>by
    by_cases e:j=i
    .subst e;exact⟨⟨om,om⟩,b1⟩
    .exact l.rows j om
   exact⟨l.gB,l.gR,l.gN,l.gA,l.gr,l.gb,l.nx,l.fr,b8⟩
  have e1:=cV c8
  have a0:k<(R.getD i []).length:=om
  obtain⟨x,hx⟩:=exI ((R.getD i []).getD k [])
  have sx:=gH ar a0 .undef []
  rw[hx] at sx
  have d3:x∈R.getD i []:=by rw[<-hx];exact bF a0
  obtain⟨i0,e9,d4,j6,j4⟩:=(tr.mono N.fr).shape (R.getD i []).length om om
  have ck:h8.cell i0 (e9+k)=some (wr.getD k .undef):=by rw[j4 k om,List.getD,dJ om];rfl
  have cN:=H.cell_of N.gN
  generalize wr.getD k .undef=vx at sx ck
  have d7:=sx.lens
  by_cases G:(x.length:Int)≠(n:Int)
  .have t:=cV G
   refine wY e1 @d4.ixa ck d7 cN t @N.gR pt ?_
   exact yq _ _ _ N λf=>G (by have:=(f.perm i a1 x d3).1;omega)
  have t:=bZ G
  refine wE e1 @d4.ixa ck d7 cN t ?_
  refine (zX vx x h8 om (sx.mono N.fr)).mono ?_
  rintro _ h9 ⟨rfl,f9⟩
  have l:=N.mono om om f9
  cases hpk:rH x with
  |false=>
   have e3:decide (PU x≠0)=true:=cV (by unfold PU;rw[aQ om,hpk];simp);refine iG e3 @l.gR pt ?_;exact yq _ _ _ l λf=>by have:=(f.perm i a1 x d3).2;rw[hpk] at this;cases this
  |true=>
   have e3:decide (PU x≠0)=false:=bZ (by unfold PU;rw[aQ om,hpk];simp);obtain⟨va,ws,gA,ow,al⟩:=l.gA
   have one:vx.cells= [vx]/\vx.one=true:=⟨sx.cT.1,sx.cT.2.1⟩
   have k5:=l.nx;obtain⟨b3,i7,k4,i5,k1,Q⟩:=iI (h:=h9) rfl [vx];have cA:=H.cell_of gA;have j7:b3.cell (B+1+1+1) 0=some va:=by rw[H.cell_of (by rw[Q.get _ om];exact gA)];rfl
   have k3:=al.length
   have j9:((R.take i).flatten++(R.getD i []).take k).length<=400:=by
    have h1:=qX (m:=20) (R:=R) (i:=i) om (λj hj=>by have:=(l.rows j hj).1.2;omega);have h2:i*20<=20*20:=Nat.mul_le_mul_right 20 om;rw[eE,jG];omega
   obtain⟨e7,i2,a6⟩:=(ow.fr Q).push (bytes:=24) (SV.one om i5 (.kn 1)) (n:=ws.length) (m:=1) om rfl om om om;have ap: ∀k,k<=id->cW va k:=λk hk k2 i3 m c e e2=>by have:=(ow.in _ _ _ _ e).2.1;omega
   have d6:e7.get (B+1+1+1)=some (.cells false [va]):=by rw[a6.old _ om (ap _ om),Q.get _ om];exact gA
   have k0:=a6.next;have i1:(a:H)->(y:V)->dY (some (.cells false [va])) a (B+1+1+1) 0 [y]=some (a.set (B+1+1+1) (some (.cells false [y]))):=λa y=>bE siM a _ _
   refine Ie e3 cA (dL h9 (z:= .aH) one.1 one.2) i7 i2 d6 i1 ?_;rw[fJ k]
   have K: ∀k,k<=id->k≠B+1+1+1->(e7.set (B+1+1+1) (some (.cells false [.sl b3.next 0 (ws.length+1) (.un 1)]))).get k=h9.get k:=λk h1 h2=>by
    rw[H.Cj _ h2,a6.old _ om (ap _ h1),Q.get _ om]
   have tk:(R.take i).flatten++(R.getD i []).take (k+1)=((R.take i).flatten++(R.getD i []).take k)++ [x]:=by
    rw[AA,iW [] a0,hx]
   refine⟨(R.getD i []).length-(k+1),om,k+1,aD rfl,om,⟨by rw[K _ om om];exact l.gB,by rw[K _ om om];exact l.gR,by rw[K _ om om];exact l.gN,⟨_,ws++ [vx],by rw[H.aJ],?_,?_⟩,by rw[K _ om om];exact l.gr,by rw[K _ om om];exact l.gb,by simp only[H.bT];omega,?_,l.rows⟩,λy hy=>?_,rfl⟩
   .refine (a6.own (b:=id+1) om rfl om).mono (dN _) λk i3 m c e h1 h2=>H.Cj _ om _
   .rw[tk];exact al.append ⟨sx,trivial⟩
   .refine⟨by simp only[H.bT];have:=l.fr.next;omega,λk hk=>?_⟩
    rw[K k om om];exact l.fr.get k hk
   .rw[iW [] a0,hx] at hy
    rcases Es.1 hy with hy|hy
    .exact b1 y hy
    .rw[List.mem_singleton.1 hy]
     exact⟨om,hpk⟩
 .rintro _ a (J|D)
  .refine⟨r,J.gr,by rw[iS];simp,?_⟩
   have en:r.pend.getD .norm= .norm:=by rw[b4];rfl
   rw[en]
   rw[lR,List.take_length] at J
   have J:=J.loop (r2:={r with st:= .out}) (h2:=a.set id (some (.loop {r with st:= .out}))) om om om (by rw[H.aJ]) rfl (λk hk=>H.Cj _ hk _)
   generalize a.set id (some (.loop {r with st:= .out}))=U at J
   clear J0 f7 o7 b4 iS hr
   have frm:VX n O R:=VX.of i4 j1 λj hj=>J.rows j om
   obtain⟨R',eR,hP⟩:=frm.nat
   obtain⟨va,ws,gA,ow,al⟩:=J.gA
   have eF:R.flatten=R'.flatten.map zi:=by rw[eR,List.map_flatten]
   rw[eF] at al
   have nx:=J.nx
   have rB:=bU J.gB
   have cN:=H.cell_of J.gN
   have cA:=H.cell_of gA
   have fb:Fr U (H.mk U.tr (U.next+7)):=(Fr.refl U).cU om
   have g0:SP (H.mk U.tr (U.next+7)) va R'.flatten:=⟨ws,(ow.fr fb).sv,al.mono λ_ _ x=>x.mono (J.fr.trans fb)⟩
   have f0:R'.flatten.length<1000000:=by
    have h1:=qX (m:=20) (R:=R) (i:=n) om (λj hj=>by have:=(J.rows j om).1.2;omega);have h2:n*20<=20*20:=Nat.mul_le_mul_right 20 om;rw[Nb om,eF,dO] at h1;omega
   refine iG (bU (h:=H.mk U.tr (U.next+7)) J.gB) cN cA ?_
   refine (PO n va R'.flatten _ Z e8 f0 g0 hP).mono ?_
   rintro _ h8 ⟨i8,L,F,τ,rfl,RR,tl,f8,_⟩
   have F8:Fr U h8:=fb.trans f8
   have N:=J.mono om om F8
   have eO:=tO.dS
   have c6:=tR.dS
   refine iG (bU N.gB) eO c6 ?_
   refine (JI h8 n i8 L F τ e8 RR tl.tw).mono ?_
   rintro h0 h9 ⟨O2,R2,j2,i9,f9⟩
   have l:=N.mono om om f9
   have a8:eD n (EB n R') O2 R2:=i9.congr tl.group
   obtain⟨f4,g8⟩:=Hg (λx hx=>fG.cF hP hx) om a8
   refine iG (bU l.gB) eO c6 ?_
   refine (WH _ h0 (n:Int) (n:Int) O (O2.map zi) R (R2.map (List.map zi)) h9 ⟨o,s,rfl,⟨wO,tO.mono l.fr,aO.mono λ_ _ x=>x.mono l.fr⟩,⟨wR,tR.mono l.fr,aR.mono (λ_ _ x=>x.mono l.fr),kR⟩⟩ j2.ch so f4 (sr.DL (λj hj x hx=>(frm.perm j om x hx).1) om) g8).mono ?_
   rintro _ b3 ⟨rfl,Q⟩
   have a4:=l.mono om om Q
   have iff:=KX.iff (O:=O) Z om hP a8
   rw[<-eR] at iff
   by_cases hq:(n:Int)=(n:Int)/\O=O2.map zi/\R=R2.map (List.map zi)
   .have ed:=cV hq
    rw[ed]
    refine eZ @a4.gR pt ?_
    refine⟨?_,a4.fr.set om _⟩
    unfold To
    rw[aQ om,aS (iff.2 hq.2)]
   .have ed:=bZ hq
    rw[ed]
    refine eZ @a4.gR pt ?_
    refine⟨?_,a4.fr.set om _⟩
    unfold To
    rw[aQ om,aQ (λc=>hq ⟨rfl,iff.1 c⟩)]
  .refine⟨_,D.gr,by simp [Cy],?_⟩
   have en:(Cy r .ret).pend.getD .norm= .ret:=rfl
   rw[en]
   have nx:=D.nx
   have gR:(a.set id (some (.loop {Cy r .ret with st:= .out}))).cell (B+1) 0=some (aC 3):=by rw[H.kW _ om,H.cell_of D.gR];rfl
   refine bM gR ?_
   exact⟨by rw[Kk Z om D.bad],D.fr.set (by have:=D.fr.next;omega) _⟩
end
end Go.Proofs.YtoighkablmjfeaaGreat
