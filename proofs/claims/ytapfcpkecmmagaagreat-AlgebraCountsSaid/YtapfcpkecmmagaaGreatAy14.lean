/- The run of a region in the order of the plan, and its replays. -/
import Derived.Test.YtapfcpkecmmagaaGreatAy13
namespace Go.Ay
open Go
section
variable {h:H} {S S':Nat->Bool}
structure Rec where
 x:AI
 vars:List V
 hb:H
 b:Bool
 v:V
 ha:H
def Rec.FF (r:Rec):Bool:=r.x.it.a.nG||(r.x.al&&r.b)
def wrV (vs:List V)(r:Rec):List V:=(jJ r.x.it.d vs [] r.v).1
def qY (S:Nat->Bool)(T:List Rec)(vs:List V):List V:=T.foldl (λvs r=>if S r.x.i then wrV vs r else vs) vs
def gY (base:Nat)(S:Nat->Bool)(h:H)(r:Rec):H:=
 if S r.x.i then (if r.x.it.a.nG then r.ha else if r.x.al&&r.b then h.set (base+r.x.i) (r.ha.get (base+r.x.i)) else h) else h
def jK (base:Nat)(S:Nat->Bool)(T:List Rec)(h:H):H:=T.foldl (gY base S) h
def uT (r:Rec)(log:Log):Log:=if r.b then yT r.x r.vars r.v log else log
def Ji (T:List Rec)(log:Log):Log:=T.foldl (λl r=>uT r l) log
def BS (cl yl:dP)(base:Nat)(log:Log)(r:Rec):Prop:=
 fJ r.vars [] r.x.it.g=some r.b/\mC r.x.cks log r.ha=true/\
 (if r.b then (if r.x.al then zJ r.vars r.hb (base+r.x.i) r.x.it.a=some (r.v,r.ha) else jI cl yl r.vars [] r.hb r.x.it.a=some (r.v,r.ha)) else r.v= .undef/\r.ha=r.hb)
def Dy (cl yl:dP)(base:Nat):List Rec->List V->Log->H->List V->H->Prop
 | [],vars,_,h,vars',h'=>vars=vars'/\h=h'
 |r::T,vars,log,h,vars',h'=>r.vars=vars/\r.hb=h/\BS cl yl base log r/\Dy cl yl base T (wrV vars r) (uT r log) r.ha vars' h'
section
variable {cl yl:dP} {base:Nat}
theorem Bj: ∀(xs:List AI) (vars:List V) (log:Log) (h:H) (vars':List V) (h':H),oW cl yl base xs vars log h=some (vars',h')->
  ∃T:List Rec,T.map (·.x)=xs/\Dy cl yl base T vars log h vars' h'
 | [],vars,log,h,vars',h',he=>by
  rw[xI] at he;have:vars=vars'/\h=h':=by simpa using he
  exact⟨[],rfl,this⟩
 |x::xs,vars,log,h,vars',h',he=>by
  rw[iD] at he;split at he
  ·rename_i f
   split at he
   ·rename_i v g a
    split at he
    ·rename_i b
     obtain⟨T,d,e⟩:=Bj xs _ _ _ _ _ he;refine⟨⟨x,vars,h,true,v,g⟩::T,by simp [d],rfl,rfl,⟨f,b,?_⟩,e⟩;simp only[if_true]
     by_cases c:x.al=true
     ·simp only[c,if_true] at a ⊢;exact a
     ·simp only[c,if_false] at a ⊢;exact a
    ·cases he
   ·cases he
  ·rename_i f
   split at he
   ·rename_i b
    obtain⟨T,d,e⟩:=Bj xs _ _ _ _ _ he;exact⟨⟨x,vars,h,false,.undef,h⟩::T,by simp [d],rfl,rfl,⟨f,b,by simp⟩,e⟩
   ·cases he
  ·cases he
theorem Gs {b:List V}{h':H}{n:Nat}{a:dR}{v:V}(c:a.jR=true)(d:zJ b h n a=some (v,h')):
  ∃i o,a= .op i/\i.jR=true/\o.rw=true/\h'=h.set n (some o)/\ ∀h2:H,h2.next=n->cW (xv b []) h2 i=some (v,h2.new o):=by
 cases a with
 |op i=>
  simp only[dR.jR] at c;simp only[zJ] at d;split at d
  ·rename_i l k hi
   obtain⟨o,f,e,j⟩:=DZ c hi;cases d;exact⟨i,o,rfl,c,f,by rw[e];rfl,j⟩
  ·cases d
 |call g args=>simp [dR.jR] at c
 |callv x args=>simp [dR.jR] at c
 |calli g t x args=>simp [dR.jR] at c
 |callp g args=>simp [dR.jR] at c
theorem Ff {b:List V}{h':H}{a:dR}{v:V}(d:a.nG=false)(f:a.jR=false)(c:jI cl yl b [] h a=some (v,h')):
  h'=h/\((∃i,a= .op i/\cW (xv b []) h i=some (v,h')/\(i.mN=false-> ∀h2,cW (xv b []) h2 i=some (v,h2)))∨ ∃g args,a= .callp g args):=by
 cases a with
 |op i=>
  rw[nE] at c;simp only[dR.nG,dR.jR] at d f;refine⟨?_,.inl ⟨i,rfl,c,λe=>(Jq e f d c).2⟩⟩
  by_cases e:i.mN=true
  ·exact Vx e c
  ·exact (Jq (by simpa using e) f d c).1
 |call g args=>simp [dR.nG] at d
 |callv x args=>simp [dR.nG] at d
 |calli g t x args=>simp [dR.nG] at d
 |callp g args=>rw[jG] at c;exact⟨(qF c).1,.inr ⟨g,args,rfl⟩⟩
theorem Uc {a:dR}(h:a.jR=true):a.nG=false:=by
 cases a with
 |op i=>cases i<;>simp_all [dR.jR,dR.nG,I.jR,I.nG]
 |_=>simp [dR.jR] at h
theorem BR {f:Log}{r:Rec}(d:r.x.al=r.x.it.a.jR)(c:BS cl yl base f r):gY base (λ_=>true) r.hb r=r.ha:=by
 obtain⟨_,_,c⟩:=c;simp only[gY,if_true]
 by_cases g:r.x.it.a.nG=true
 ·simp [g]
 ·simp only[g]
  cases hb:r.b with
  |false=>simp only[hb] at c;simp [c.2]
  |true=>
   simp only[hb,if_true] at c
   cases ha:r.x.al with
   |true=>
    simp only[ha,if_true] at c;obtain⟨i,o,_,_,_,e,_⟩:=Gs (d▸ha) c;simp [e,H.gJ,H.cZ]
   |false=>
    simp only[ha] at c;obtain⟨e,_⟩:=Ff (by simpa using g) (d▸ha) c;simp [e]
theorem oV: ∀(T1 T2:List Rec) (vars:List V) (log:Log) (h:H) (vars':List V) (h':H),(∀r∈T1,r.x.al=r.x.it.a.jR)->Dy cl yl base (T1++T2) vars log h vars' h'->
  Dy cl yl base T2 (qY (λ_=>true) T1 vars) (Ji T1 log) (jK base (λ_=>true) T1 h) vars' h'
 | [],T2,vars,log,h,vars',h',_,hc=>hc
 |r::T1,T2,vars,log,h,vars',h',ha,hc=>by
  obtain⟨g,c,e,d⟩:=hc;have:=oV T1 T2 _ _ _ _ _ (λq f=>ha q (xS _ f)) d;have b:=BR (ha r (zA ..)) e;rw[c] at b;simpa [qY,jK,Ji,b] using this
theorem rW {vs:List V}{r:Rec}(a:r.x.it.tP=false):wrV vs r=match r.x.it.wr with|some k=>vs.set k r.v|none=>vs:=by
 unfold wrV It.wr jJ It.tP at*;cases hd:r.x.it.d<;>simp_all
theorem wH {S S':Nat->Bool}{k:Nat}: ∀(T:List Rec) (vs vs':List V),(∀r∈T,r.x.it.tP=false)->vs.length=vs'.length->vs.getD k .undef=vs'.getD k .undef->
  (∀r∈T,r.x.it.wr=some k->S r.x.i=S' r.x.i)->(qY S T vs).getD k .undef=(qY S' T vs').getD k .undef
 | [],_,_,_,_,h,_=>h
 |r::T,vs,vs',hl,hlen,h,hk=>by
  have l:=hl r (zA ..);simp only[qY,List.foldl_cons]
  have a: ∀(c:Bool) (b:List V),(if c then wrV b r else b).length=b.length:=by
   intro c b;split
   ·rw[rW l];split<;>simp
   ·rfl
  refine wH T _ _ (λq n=>hl q (xS _ n)) (by rw[a,a,hlen]) ?_ (λq n=>hk q (xS _ n))
  have d: ∀(c:Bool) (b:List V),r.x.it.wr≠some k->(if c then wrV b r else b).getD k V.undef=b.getD k .undef:=by
   intro c b o;split
   ·rw[rW l]
    split
    ·rename_i j p
     have:j≠k:=λe=>o (by rw[p,e])
     simp [List.getD,List.getElem?_set_ne this]
    ·rfl
   ·rfl
  by_cases m:r.x.it.wr=some k
  ·rw[hk r (zA ..) m]
   split
   ·rw[rW l,rW l,m]
    simp only[List.getD,List.getElem?_set_self',hlen]
    by_cases g:k<vs'.length
    ·simp [g,hlen]
    ·have f: ¬k<vs.length:=om
     simp [g,f]
   ·exact h
  ·rw[d _ _ m,d _ _ m];exact h
theorem Wt {S:Nat->Bool}{r:Rec}(d:r.x.it.tP=false): ∀(T:List Rec) (vs:List V),(∀q∈T,q.x.it.tP=false)->(∀q∈T,S q.x.i=true-> ∀k,q.x.it.wr=some k->r.x.it.wr≠some k)->
  qY S T (wrV vs r)=wrV (qY S T vs) r
 | [],_,_,_=>rfl
 |q::T,vs,hl,hk=>by
  have f:=hl q (zA ..);have b:=Wt (S:=S) d T;simp only[qY,List.foldl_cons] at b ⊢
  by_cases c:S q.x.i=true
  ·simp only[c,if_true]
   rw[←b (wrV vs q) (λy a=>hl y (xS _ a)) (λy a=>hk y (xS _ a))];congr 1;rw[rW d,rW f,rW f,rW d]
   cases hw:r.x.it.wr with
   |none=>rfl
   |some j=>
    cases hw2:q.x.it.wr with
    |none=>rfl
    |some k=>
     have:j≠k:=λe=>hk q (zA ..) c k hw2 (by rw[hw,e])
     simp only;exact List.set_comm _ _ this
  ·simp only[c,Bool.false_eq_true,if_false]
   exact b vs (λy a=>hl y (xS _ a)) (λy a=>hk y (xS _ a))
theorem uV {S S':Nat->Bool}: ∀(T:List Rec) (vs:List V),(∀q∈T,S q.x.i=S' q.x.i)->qY S T vs=qY S' T vs
 | [],_,_=>rfl
 |q::T,vs,h=>by
  have a:=uV (S:=S) (S':=S') T;simp only[qY,List.foldl_cons] at a ⊢;rw[h q (zA ..)];exact a _ (λy b=>h y (xS _ b))
theorem Oh {r:Rec}(f:r.FF=true->S r.x.i=S' r.x.i):gY base S h r=gY base S' h r:=by
 by_cases c:r.FF=true
 ·simp only[gY,f c]
 ·have e:r.x.it.a.nG=false:=by simp [Rec.FF] at c;exact c.1
  have d:(r.x.al&&r.b)=false:=by simp [Rec.FF] at c;simpa using c.2
  simp [gY,e,d]
theorem rF {S S':Nat->Bool}: ∀(T:List Rec) (h:H),(∀q∈T,q.FF=true->S q.x.i=S' q.x.i)->jK base S T h=jK base S' T h
 | [],_,_=>rfl
 |q::T,h,hs=>by
  have a:=rF (S:=S) (S':=S') T;simp only[jK,List.foldl_cons] at a ⊢;rw[Oh (hs q (zA ..))];exact a _ (λy b=>hs y (xS _ b))
def Extra (base:Nat)(S:Nat->Bool)(T:List Rec)(id:Nat):Prop:= ∃q∈T,S q.x.i=true/\q.x.al=true/\q.b=true/\base+q.x.i=id
theorem Zs {r:Rec}(d:S r.x.i=true->r.x.it.a.nG=false):
  gY base S h r=if S r.x.i=true/\r.x.al=true/\r.b=true then h.set (base+r.x.i) (r.ha.get (base+r.x.i)) else h:=by
 unfold gY
 by_cases c:S r.x.i=true
 ·simp only[c,if_true,d c,Bool.false_eq_true,if_false,true_and,pQ]
 ·simp [c]
theorem lT {S:Nat->Bool}: ∀(T:List Rec) (h:H),(∀q∈T,S q.x.i=true->q.x.it.a.nG=false)->
  (jK base S T h).next=h.next/\
  (∀id,¬Extra base S T id->(jK base S T h).get id=h.get id)/\
  (∀id,Extra base S T id-> ∃q∈T,S q.x.i=true/\q.x.al=true/\q.b=true/\base+q.x.i=id/\ ∀h',(jK base S T h').get id=q.ha.get id)
 | [],h,_=>⟨rfl,λ_ _=>rfl,λid p=>by obtain⟨q,c,_⟩:=p;cases c⟩
 |r::T,h,hn=>by
  have e:=λh=>Zs (base:=base) (h:=h) (hn r (zA ..))
  have j:=λh=>lT T h (λq c=>hn q (xS _ c))
  simp only[jK,List.foldl_cons] at j ⊢;refine⟨?_,λid d=>?_,λid d=>?_⟩
  ·rw[(j _).1,e]
   split<;>rfl
  ·have g: ¬Extra base S T id:=λ⟨q,c,hh⟩=>d ⟨q,xS _ c,hh⟩
   rw[(j _).2.1 id g,e];split
   ·rename_i n
    have:id≠base+r.x.i:=λe=>d ⟨r,zA ..,n.1,n.2.1,n.2.2,e.symm⟩
    simp [H.gJ,H.cZ,this]
   ·rfl
  ·by_cases g:Extra base S T id
   ·obtain⟨q,c,m,k,l,f,o⟩:=(j h).2.2 id g
    exact⟨q,xS _ c,m,k,l,f,λh'=>o _⟩
   ·obtain⟨q,c,m,k,l,f⟩:=d
    rcases Dk.1 c with rfl|c
    ·refine⟨q,zA ..,m,k,l,f,λh'=>?_⟩
     rw[(j _).2.1 id g,e,aV ⟨m,k,l⟩];simp [H.gJ,H.cZ,←f]
    ·exact absurd ⟨q,c,m,k,l,f⟩ g
theorem Jo {S:Nat->Bool}{id:Nat}: ∀(T:List Rec) (h:H),h.get id=none->(∀q∈T,S q.x.i=true->q.x.it.a.nG=true->q.ha.get id=none)->(∀q∈T,base+q.x.i≠id)->
  (jK base S T h).get id=none
 | [],h,hn,_,_=>hn
 |r::T,h,hn,h1,h2=>by
  have c:=Jo (S:=S) (id:=id) T;simp only[jK,List.foldl_cons] at c ⊢;refine c _ ?_ (λq b=>h1 q (xS _ b)) (λq b=>h2 q (xS _ b));unfold gY;split
  ·rename_i d
   split
   ·rename_i f;exact h1 r (zA ..) d f
   ·split
    ·have:id≠base+r.x.i:=λe=>h2 r (zA ..) e.symm
     simp [H.gJ,H.cZ,this,hn]
    ·exact hn
  ·exact hn
theorem Nx {b a:List Rec}:jK base S (b++a) h=jK base S a (jK base S b h):=by simp [jK]
theorem AQ {b a:List Rec}{vs:List V}:qY S (b++a) vs=qY S a (qY S b vs):=by simp [qY]
end
end
end Go.Ay
