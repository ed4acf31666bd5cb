/- The run of a region in the order of the plan, and its replays. -/
import Derived.Test.YtapfcpkecmmagaaGreatAy13
namespace Go.Ay
open Go
section
variable {h:H} {S S':Nat->Bool}
structure Rec where
 x:AI
 vars:List V
 hb:H
 b:Bool
 v:V
 ha:H
def Rec.GL (r:Rec):Bool:=r.x.it.a.nP||(r.x.al&&r.b)
def wrV (vs:List V)(r:Rec):List V:=(jI r.x.it.d vs [] r.v).1
def rD (S:Nat->Bool)(T:List Rec)(vs:List V):List V:=T.foldl (λvs r=>if S r.x.i then wrV vs r else vs) vs
def iA (base:Nat)(S:Nat->Bool)(h:H)(r:Rec):H:=
 if S r.x.i then (if r.x.it.a.nP then r.ha else if r.x.al&&r.b then h.set (base+r.x.i) (r.ha.get (base+r.x.i)) else h) else h
def jD (base:Nat)(S:Nat->Bool)(T:List Rec)(h:H):H:=T.foldl (iA base S) h
def uT (r:Rec)(log:Log):Log:=if r.b then zC r.x r.vars r.v log else log
def Ic (T:List Rec)(log:Log):Log:=T.foldl (λl r=>uT r l) log
def CT (cl yl:dP)(base:Nat)(log:Log)(r:Rec):Prop:=
 fK r.vars [] r.x.it.g=some r.b/\lX r.x.cks log r.ha=true/\
 (if r.b then (if r.x.al then Bg r.vars r.hb (base+r.x.i) r.x.it.a=some (r.v,r.ha) else jC cl yl r.vars [] r.hb r.x.it.a=some (r.v,r.ha)) else r.v= .undef/\r.ha=r.hb)
def Dj (cl yl:dP)(base:Nat):List Rec->List V->Log->H->List V->H->Prop
 | [],vars,_,h,vars',h'=>vars=vars'/\h=h'
 |r::T,vars,log,h,vars',h'=>r.vars=vars/\r.hb=h/\CT cl yl base log r/\Dj cl yl base T (wrV vars r) (uT r log) r.ha vars' h'
section
variable {cl yl:dP} {base:Nat}
theorem Bu: ∀(xs:List AI) (vars:List V) (log:Log) (h:H) (vars':List V) (h':H),pI cl yl base xs vars log h=some (vars',h')->
  ∃T:List Rec,T.map (·.x)=xs/\Dj cl yl base T vars log h vars' h'
 | [],vars,log,h,vars',h',he=>by
  rw[wZ] at he;have:vars=vars'/\h=h':=by simpa using he
  exact⟨[],rfl,this⟩
 |x::xs,vars,log,h,vars',h',he=>by
  rw[iB] at he;split at he
  ·rename_i f
   split at he
   ·rename_i v g a
    split at he
    ·rename_i b
     obtain⟨T,e,d⟩:=Bu xs _ _ _ _ _ he;refine⟨⟨x,vars,h,true,v,g⟩::T,by simp [e],rfl,rfl,⟨f,b,?_⟩,d⟩;simp only[if_true]
     by_cases c:x.al=true
     ·simp only[c,if_true] at a ⊢;exact a
     ·simp only[c,if_false] at a ⊢;exact a
    ·cases he
   ·cases he
  ·rename_i f
   split at he
   ·rename_i b
    obtain⟨T,e,d⟩:=Bu xs _ _ _ _ _ he;exact⟨⟨x,vars,h,false,.undef,h⟩::T,by simp [e],rfl,rfl,⟨f,b,by simp⟩,d⟩
   ·cases he
  ·cases he
theorem Hf {b:List V}{h':H}{n:Nat}{a:dV}{v:V}(c:a.jR=true)(d:Bg b h n a=some (v,h')):
  ∃i o,a= .op i/\i.jR=true/\o.rw=true/\h'=h.set n (some o)/\ ∀h2:H,h2.next=n->cZ (xv b []) h2 i=some (v,h2.new o):=by
 cases a with
 |op i=>
  simp only[dV.jR] at c;simp only[Bg] at d;split at d
  ·rename_i l k hi
   obtain⟨o,j,e,f⟩:=EC c hi;cases d;exact⟨i,o,rfl,c,j,by rw[e];rfl,f⟩
  ·cases d
 |call g args=>simp [dV.jR] at c
 |callv x args=>simp [dV.jR] at c
 |calli g t x args=>simp [dV.jR] at c
 |callp g args=>simp [dV.jR] at c
theorem Dr {b:List V}{h':H}{a:dV}{v:V}(d:a.nP=false)(f:a.jR=false)(c:jC cl yl b [] h a=some (v,h')):
  h'=h/\((∃i,a= .op i/\cZ (xv b []) h i=some (v,h')/\(i.mL=false-> ∀h2,cZ (xv b []) h2 i=some (v,h2)))∨ ∃g args,a= .callp g args):=by
 cases a with
 |op i=>
  rw[nG] at c;simp only[dV.nP,dV.jR] at d f;refine⟨?_,.inl ⟨i,rfl,c,λe=>(Kf e f d c).2⟩⟩
  by_cases e:i.mL=true
  ·exact Yf e c
  ·exact (Kf (by simpa using e) f d c).1
 |call g args=>simp [dV.nP] at d
 |callv x args=>simp [dV.nP] at d
 |calli g t x args=>simp [dV.nP] at d
 |callp g args=>rw[jG] at c;exact⟨(qJ c).1,.inr ⟨g,args,rfl⟩⟩
theorem Vj {a:dV}(h:a.jR=true):a.nP=false:=by
 cases a with
 |op i=>cases i<;>simp_all [dV.jR,dV.nP,I.jR,I.nP]
 |_=>simp [dV.jR] at h
theorem AJ {f:Log}{r:Rec}(d:r.x.al=r.x.it.a.jR)(c:CT cl yl base f r):iA base (λ_=>true) r.hb r=r.ha:=by
 obtain⟨_,_,c⟩:=c;simp only[iA,if_true]
 by_cases g:r.x.it.a.nP=true
 ·simp [g]
 ·simp only[g]
  cases hb:r.b with
  |false=>simp only[hb] at c;simp [c.2]
  |true=>
   simp only[hb,if_true] at c
   cases ha:r.x.al with
   |true=>
    simp only[ha,if_true] at c;obtain⟨i,o,_,_,_,e,_⟩:=Hf (d▸ha) c;simp [e,H.gK,H.dE]
   |false=>
    simp only[ha] at c;obtain⟨e,_⟩:=Dr (by simpa using g) (d▸ha) c;simp [e]
theorem pN: ∀(T1 T2:List Rec) (vars:List V) (log:Log) (h:H) (vars':List V) (h':H),(∀r∈T1,r.x.al=r.x.it.a.jR)->Dj cl yl base (T1++T2) vars log h vars' h'->
  Dj cl yl base T2 (rD (λ_=>true) T1 vars) (Ic T1 log) (jD base (λ_=>true) T1 h) vars' h'
 | [],T2,vars,log,h,vars',h',_,hc=>hc
 |r::T1,T2,vars,log,h,vars',h',ha,hc=>by
  obtain⟨g,c,e,d⟩:=hc;have:=pN T1 T2 _ _ _ _ _ (λq f=>ha q (yK _ f)) d;have b:=AJ (ha r (zJ ..)) e;rw[c] at b;simpa [rD,jD,Ic,b] using this
theorem rT {vs:List V}{r:Rec}(a:r.x.it.uD=false):wrV vs r=match r.x.it.wr with|some k=>vs.set k r.v|none=>vs:=by
 unfold wrV It.wr jI It.uD at*;cases hd:r.x.it.d<;>simp_all
theorem wK {S S':Nat->Bool}{k:Nat}: ∀(T:List Rec) (vs vs':List V),(∀r∈T,r.x.it.uD=false)->vs.length=vs'.length->vs.getD k .undef=vs'.getD k .undef->
  (∀r∈T,r.x.it.wr=some k->S r.x.i=S' r.x.i)->(rD S T vs).getD k .undef=(rD S' T vs').getD k .undef
 | [],_,_,_,_,h,_=>h
 |r::T,vs,vs',hl,hlen,h,hk=>by
  have m:=hl r (zJ ..);simp only[rD,List.foldl_cons]
  have a: ∀(c:Bool) (b:List V),(if c then wrV b r else b).length=b.length:=by
   intro c b;split
   ·rw[rT m];split<;>simp
   ·rfl
  refine wK T _ _ (λq o=>hl q (yK _ o)) (by rw[a,a,hlen]) ?_ (λq o=>hk q (yK _ o))
  have f: ∀(c:Bool) (b:List V),r.x.it.wr≠some k->(if c then wrV b r else b).getD k V.undef=b.getD k .undef:=by
   intro c b n;split
   ·rw[rT m]
    split
    ·rename_i j p
     have:j≠k:=λe=>n (by rw[p,e])
     simp [List.getD,List.getElem?_set_ne this]
    ·rfl
   ·rfl
  by_cases l:r.x.it.wr=some k
  ·rw[hk r (zJ ..) l]
   split
   ·rw[rT m,rT m,l]
    simp only[List.getD,List.getElem?_set_self',hlen]
    by_cases d:k<vs'.length
    ·simp [d,hlen]
    ·have g: ¬k<vs.length:=om
     simp [d,g]
   ·exact h
  ·rw[f _ _ l,f _ _ l];exact h
theorem Vq {S:Nat->Bool}{r:Rec}(d:r.x.it.uD=false): ∀(T:List Rec) (vs:List V),(∀q∈T,q.x.it.uD=false)->(∀q∈T,S q.x.i=true-> ∀k,q.x.it.wr=some k->r.x.it.wr≠some k)->
  rD S T (wrV vs r)=wrV (rD S T vs) r
 | [],_,_,_=>rfl
 |q::T,vs,hl,hk=>by
  have f:=hl q (zJ ..);have c:=Vq (S:=S) d T;simp only[rD,List.foldl_cons] at c ⊢
  by_cases b:S q.x.i=true
  ·simp only[b,if_true]
   rw[←c (wrV vs q) (λy a=>hl y (yK _ a)) (λy a=>hk y (yK _ a))];congr 1;rw[rT d,rT f,rT f,rT d]
   cases hw:r.x.it.wr with
   |none=>rfl
   |some j=>
    cases hw2:q.x.it.wr with
    |none=>rfl
    |some k=>
     have:j≠k:=λe=>hk q (zJ ..) b k hw2 (by rw[hw,e])
     simp only;exact List.set_comm _ _ this
  ·simp only[b,Bool.false_eq_true,if_false]
   exact c vs (λy a=>hl y (yK _ a)) (λy a=>hk y (yK _ a))
theorem uP {S S':Nat->Bool}: ∀(T:List Rec) (vs:List V),(∀q∈T,S q.x.i=S' q.x.i)->rD S T vs=rD S' T vs
 | [],_,_=>rfl
 |q::T,vs,h=>by
  have a:=uP (S:=S) (S':=S') T;simp only[rD,List.foldl_cons] at a ⊢;rw[h q (zJ ..)];exact a _ (λy b=>h y (yK _ b))
theorem Ol {r:Rec}(e:r.GL=true->S r.x.i=S' r.x.i):iA base S h r=iA base S' h r:=by
 by_cases c:r.GL=true
 ·simp only[iA,e c]
 ·have d:r.x.it.a.nP=false:=by simp [Rec.GL] at c;exact c.1
  have f:(r.x.al&&r.b)=false:=by simp [Rec.GL] at c;simpa using c.2
  simp [iA,d,f]
theorem sE {S S':Nat->Bool}: ∀(T:List Rec) (h:H),(∀q∈T,q.GL=true->S q.x.i=S' q.x.i)->jD base S T h=jD base S' T h
 | [],_,_=>rfl
 |q::T,h,hs=>by
  have a:=sE (S:=S) (S':=S') T;simp only[jD,List.foldl_cons] at a ⊢;rw[Ol (hs q (zJ ..))];exact a _ (λy b=>hs y (yK _ b))
def Extra (base:Nat)(S:Nat->Bool)(T:List Rec)(id:Nat):Prop:= ∃q∈T,S q.x.i=true/\q.x.al=true/\q.b=true/\base+q.x.i=id
theorem AA {r:Rec}(d:S r.x.i=true->r.x.it.a.nP=false):
  iA base S h r=if S r.x.i=true/\r.x.al=true/\r.b=true then h.set (base+r.x.i) (r.ha.get (base+r.x.i)) else h:=by
 unfold iA
 by_cases c:S r.x.i=true
 ·simp only[c,if_true,d c,Bool.false_eq_true,if_false,true_and,pF]
 ·simp [c]
theorem lQ {S:Nat->Bool}: ∀(T:List Rec) (h:H),(∀q∈T,S q.x.i=true->q.x.it.a.nP=false)->
  (jD base S T h).next=h.next/\
  (∀id,¬Extra base S T id->(jD base S T h).get id=h.get id)/\
  (∀id,Extra base S T id-> ∃q∈T,S q.x.i=true/\q.x.al=true/\q.b=true/\base+q.x.i=id/\ ∀h',(jD base S T h').get id=q.ha.get id)
 | [],h,_=>⟨rfl,λ_ _=>rfl,λid p=>by obtain⟨q,c,_⟩:=p;cases c⟩
 |r::T,h,hn=>by
  have e:=λh=>AA (base:=base) (h:=h) (hn r (zJ ..))
  have m:=λh=>lQ T h (λq c=>hn q (yK _ c))
  simp only[jD,List.foldl_cons] at m ⊢;refine⟨?_,λid d=>?_,λid d=>?_⟩
  ·rw[(m _).1,e]
   split<;>rfl
  ·have l: ¬Extra base S T id:=λ⟨q,c,hh⟩=>d ⟨q,yK _ c,hh⟩
   rw[(m _).2.1 id l,e];split
   ·rename_i n
    have:id≠base+r.x.i:=λe=>d ⟨r,zJ ..,n.1,n.2.1,n.2.2,e.symm⟩
    simp [H.gK,H.dE,this]
   ·rfl
  ·by_cases l:Extra base S T id
   ·obtain⟨q,c,f,k,g,j,o⟩:=(m h).2.2 id l
    exact⟨q,yK _ c,f,k,g,j,λh'=>o _⟩
   ·obtain⟨q,c,f,k,g,j⟩:=d
    rcases Dw.1 c with rfl|c
    ·refine⟨q,zJ ..,f,k,g,j,λh'=>?_⟩
     rw[(m _).2.1 id l,e,aV ⟨f,k,g⟩];simp [H.gK,H.dE,←j]
    ·exact absurd ⟨q,c,f,k,g,j⟩ l
theorem Jc {S:Nat->Bool}{id:Nat}: ∀(T:List Rec) (h:H),h.get id=none->(∀q∈T,S q.x.i=true->q.x.it.a.nP=true->q.ha.get id=none)->(∀q∈T,base+q.x.i≠id)->
  (jD base S T h).get id=none
 | [],h,hn,_,_=>hn
 |r::T,h,hn,h1,h2=>by
  have c:=Jc (S:=S) (id:=id) T;simp only[jD,List.foldl_cons] at c ⊢;refine c _ ?_ (λq b=>h1 q (yK _ b)) (λq b=>h2 q (yK _ b));unfold iA;split
  ·rename_i d
   split
   ·rename_i f;exact h1 r (zJ ..) d f
   ·split
    ·have:id≠base+r.x.i:=λe=>h2 r (zJ ..) e.symm
     simp [H.gK,H.dE,this,hn]
    ·exact hn
  ·exact hn
theorem Px {b a:List Rec}:jD base S (b++a) h=jD base S a (jD base S b h):=by simp [jD]
theorem Zg {b a:List Rec}{vs:List V}:rD S (b++a) vs=rD S a (rD S b vs):=by simp [rD]
end
end
end Go.Ay
