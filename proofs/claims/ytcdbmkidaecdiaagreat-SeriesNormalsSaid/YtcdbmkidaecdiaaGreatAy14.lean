/- The run of a region in the order of the plan, and its replays. -/
import Derived.Test.YtcdbmkidaecdiaaGreatAy13
namespace Go.Ay
open Go
section
variable {h:H} {S S':Nat->Bool}
structure Rec where
 x:AI
 vars:List V
 hb:H
 b:Bool
 v:V
 ha:H
def Rec.aff (r:Rec):Bool:=r.x.it.a.vH||(r.x.al&&r.b)
def OS (vs:List V)(r:Rec):List V:=(jG r.x.it.d vs [] r.v).1
def Aj (S:Nat->Bool)(T:List Rec)(vs:List V):List V:=T.foldl (λvs r=>if S r.x.i then OS vs r else vs) vs
def jI (base:Nat)(S:Nat->Bool)(h:H)(r:Rec):H:=
 if S r.x.i then (if r.x.it.a.vH then r.ha else if r.x.al&&r.b then h.set (base+r.x.i) (r.ha.get (base+r.x.i)) else h) else h
def mL (base:Nat)(S:Nat->Bool)(T:List Rec)(h:H):H:=T.foldl (jI base S) h
def Is (r:Rec)(log:Log):Log:=if r.b then Kr r.x r.vars r.v log else log
def Ys (T:List Rec)(log:Log):Log:=T.foldl (λl r=>Is r l) log
def aeY (cl yl:lQ)(base:Nat)(log:Log)(r:Rec):Prop:=
 iU r.vars [] r.x.it.g=some r.b/\qG r.x.cks log r.ha=true/\
 (if r.b then (if r.x.al then Kw r.vars r.hb (base+r.x.i) r.x.it.a=some (r.v,r.ha) else uN cl yl r.vars [] r.hb r.x.it.a=some (r.v,r.ha)) else r.v= .undef/\r.ha=r.hb)
def Tj (cl yl:lQ)(base:Nat):List Rec->List V->Log->H->List V->H->Prop
 | [],vars,_,h,vars',h'=>vars=vars'/\h=h'
 |r::T,vars,log,h,vars',h'=>r.vars=vars/\r.hb=h/\aeY cl yl base log r/\Tj cl yl base T (OS vars r) (Is r log) r.ha vars' h'
section
variable {cl yl:lQ} {base:Nat}
theorem Oe: ∀(xs:List AI) (vars:List V) (log:Log) (h:H) (vars':List V) (h':H),mB cl yl base xs vars log h=some (vars',h')->
  ∃T:List Rec,T.map (·.x)=xs/\Tj cl yl base T vars log h vars' h'
 | [],vars,log,h,vars',h',he=>by
  rw[mB] at he;have:vars=vars'/\h=h':=by simpa using he
  exact⟨[],rfl,this⟩
 |x::xs,vars,log,h,vars',h',he=>by
  rw[mB] at he;split at he
  ·rename_i e
   split at he
   ·rename_i v g a
    split at he
    ·rename_i b
     obtain⟨T,d,f⟩:=Oe xs _ _ _ _ _ he;refine⟨⟨x,vars,h,true,v,g⟩::T,by simp [d],rfl,rfl,⟨e,b,?_⟩,f⟩;simp only[if_true]
     by_cases c:x.al=true
     ·simp only[c,if_true] at a ⊢;exact a
     ·simp only[c,if_false] at a ⊢;exact a
    ·cases he
   ·cases he
  ·rename_i e
   split at he
   ·rename_i b
    obtain⟨T,d,f⟩:=Oe xs _ _ _ _ _ he;exact⟨⟨x,vars,h,false,.undef,h⟩::T,by simp [d],rfl,rfl,⟨e,b,by simp⟩,f⟩
   ·cases he
  ·cases he
theorem Wr {b:List V}{h':H}{n:Nat}{a:fO}{v:V}(c:a.oE=true)(d:Kw b h n a=some (v,h')):
  ∃i o,a= .op i/\i.oE=true/\o.rw=true/\h'=h.set n (some o)/\ ∀h2:H,h2.next=n->fC (xv b []) h2 i=some (v,h2.new o):=by
 cases a with
 |op i=>
  simp only[fO.oE] at c;simp only[Kw] at d;split at d
  ·rename_i l k hi
   obtain⟨o,f,j,e⟩:=agG c hi;cases d;exact⟨i,o,rfl,c,f,by rw[j];rfl,e⟩
  ·cases d
 |call g args=>simp [fO.oE] at c
 |callv x args=>simp [fO.oE] at c
theorem Uf {a:List V}{h':H}{b:fO}{v:V}(c:b.vH=false)(f:b.oE=false)(d:uN cl yl a [] h b=some (v,h')):
  h'=h/\ ∃i,b= .op i/\fC (xv a []) h i=some (v,h')/\(i.tM=false-> ∀h2,fC (xv a []) h2 i=some (v,h2)):=by
 cases b with
 |op i=>
  simp only[fO.vH,fO.oE] at c f;refine⟨?_,i,rfl,d,λe=>(Xd e f c d).2⟩
  by_cases e:i.tM=true
  ·exact RE e d
  ·exact (Xd (by simpa using e) f c d).1
 |call g args=>simp [fO.vH] at c
 |callv x args=>simp [fO.vH] at c
theorem VQ {a:fO}(h:a.oE=true):a.vH=false:=by
 cases a with
 |op i=>cases i<;>simp_all [fO.oE,fO.vH,I.oE,I.vH]
 |_=>simp [fO.oE] at h
theorem acB {g:Log}{r:Rec}(d:r.x.al=r.x.it.a.oE)(c:aeY cl yl base g r):jI base (λ_=>true) r.hb r=r.ha:=by
 obtain⟨_,_,c⟩:=c;simp only[jI,if_true]
 by_cases f:r.x.it.a.vH=true
 ·simp [f]
 ·simp only[f]
  cases hb:r.b with
  |false=>simp only[hb] at c;simp [c.2]
  |true=>
   simp only[hb,if_true] at c
   cases ha:r.x.al with
   |true=>
    simp only[ha,if_true] at c;obtain⟨i,o,_,_,_,e,_⟩:=Wr (d▸ha) c;simp [e,H.jB,H.cV]
   |false=>
    simp only[ha] at c;obtain⟨e,_⟩:=Uf (by simpa using f) (d▸ha) c;simp [e]
theorem yM: ∀(T1 T2:List Rec) (vars:List V) (log:Log) (h:H) (vars':List V) (h':H),(∀r∈T1,r.x.al=r.x.it.a.oE)->Tj cl yl base (T1++T2) vars log h vars' h'->
  Tj cl yl base T2 (Aj (λ_=>true) T1 vars) (Ys T1 log) (mL base (λ_=>true) T1 h) vars' h'
 | [],T2,vars,log,h,vars',h',_,hc=>hc
 |r::T1,T2,vars,log,h,vars',h',ha,hc=>by
  obtain⟨g,f,c,d⟩:=hc;have:=yM T1 T2 _ _ _ _ _ (λq e=>ha q (wI _ e)) d;have b:=acB (ha r (tQ ..)) c;rw[f] at b;simpa [Aj,mL,Ys,b] using this
theorem Ci {vs:List V}{r:Rec}(a:r.x.it.Fp=false):OS vs r=match r.x.it.wr with|some k=>vs.set k r.v|none=>vs:=by
 unfold OS It.wr jG It.Fp at*;cases hd:r.x.it.d<;>simp_all
theorem Jw {S S':Nat->Bool}{k:Nat}: ∀(T:List Rec) (vs vs':List V),(∀r∈T,r.x.it.Fp=false)->vs.length=vs'.length->vs.getD k .undef=vs'.getD k .undef->
  (∀r∈T,r.x.it.wr=some k->S r.x.i=S' r.x.i)->(Aj S T vs).getD k .undef=(Aj S' T vs').getD k .undef
 | [],_,_,_,_,h,_=>h
 |r::T,vs,vs',hl,hlen,h,hk=>by
  have m:=hl r (tQ ..);simp only[Aj,List.foldl_cons]
  have a: ∀(c:Bool) (b:List V),(if c then OS b r else b).length=b.length:=by
   intro c b;split
   ·rw[Ci m];split<;>simp
   ·rfl
  refine Jw T _ _ (λq n=>hl q (wI _ n)) (by rw[a,a,hlen]) ?_ (λq n=>hk q (wI _ n))
  have d: ∀(c:Bool) (b:List V),r.x.it.wr≠some k->(if c then OS b r else b).getD k V.undef=b.getD k .undef:=by
   intro c b o;split
   ·rw[Ci m]
    split
    ·rename_i j p
     have:j≠k:=λe=>o (by rw[p,e])
     simp [List.getD,List.getElem?_set_ne this]
    ·rfl
   ·rfl
  by_cases l:r.x.it.wr=some k
  ·rw[hk r (tQ ..) l]
   split
   ·rw[Ci m,Ci m,l]
    simp only[List.getD,List.getElem?_set_self',hlen]
    by_cases f:k<vs'.length
    ·simp [f,hlen]
    ·have g: ¬k<vs.length:=om
     simp [f,g]
   ·exact h
  ·rw[d _ _ l,d _ _ l];exact h
theorem XD {S:Nat->Bool}{r:Rec}(d:r.x.it.Fp=false): ∀(T:List Rec) (vs:List V),(∀q∈T,q.x.it.Fp=false)->(∀q∈T,S q.x.i=true-> ∀k,q.x.it.wr=some k->r.x.it.wr≠some k)->
  Aj S T (OS vs r)=OS (Aj S T vs) r
 | [],_,_,_=>rfl
 |q::T,vs,hl,hk=>by
  have f:=hl q (tQ ..);have b:=XD (S:=S) d T;simp only[Aj,List.foldl_cons] at b ⊢
  by_cases c:S q.x.i=true
  ·simp only[c,if_true]
   rw[←b (OS vs q) (λy a=>hl y (wI _ a)) (λy a=>hk y (wI _ a))];congr 1;rw[Ci d,Ci f,Ci f,Ci d]
   cases hw:r.x.it.wr with
   |none=>rfl
   |some j=>
    cases hw2:q.x.it.wr with
    |none=>rfl
    |some k=>
     have:j≠k:=λe=>hk q (tQ ..) c k hw2 (by rw[hw,e])
     simp only;exact List.set_comm _ _ this
  ·simp only[c,Bool.false_eq_true,if_false]
   exact b vs (λy a=>hl y (wI _ a)) (λy a=>hk y (wI _ a))
theorem Hc {S S':Nat->Bool}: ∀(T:List Rec) (vs:List V),(∀q∈T,S q.x.i=S' q.x.i)->Aj S T vs=Aj S' T vs
 | [],_,_=>rfl
 |q::T,vs,h=>by
  have a:=Hc (S:=S) (S':=S') T;simp only[Aj,List.foldl_cons] at a ⊢;rw[h q (tQ ..)];exact a _ (λy b=>h y (wI _ b))
theorem JK {r:Rec}(f:r.aff=true->S r.x.i=S' r.x.i):jI base S h r=jI base S' h r:=by
 by_cases c:r.aff=true
 ·simp only[jI,f c]
 ·have d:r.x.it.a.vH=false:=by simp [Rec.aff] at c;exact c.1
  have e:(r.x.al&&r.b)=false:=by simp [Rec.aff] at c;simpa using c.2
  simp [jI,d,e]
theorem Cm {S S':Nat->Bool}: ∀(T:List Rec) (h:H),(∀q∈T,q.aff=true->S q.x.i=S' q.x.i)->mL base S T h=mL base S' T h
 | [],_,_=>rfl
 |q::T,h,hs=>by
  have a:=Cm (S:=S) (S':=S') T;simp only[mL,List.foldl_cons] at a ⊢;rw[JK (hs q (tQ ..))];exact a _ (λy b=>hs y (wI _ b))
def Extra (base:Nat)(S:Nat->Bool)(T:List Rec)(id:Nat):Prop:= ∃q∈T,S q.x.i=true/\q.x.al=true/\q.b=true/\base+q.x.i=id
theorem ZP {r:Rec}(d:S r.x.i=true->r.x.it.a.vH=false):
  jI base S h r=if S r.x.i=true/\r.x.al=true/\r.b=true then h.set (base+r.x.i) (r.ha.get (base+r.x.i)) else h:=by
 unfold jI
 by_cases c:S r.x.i=true
 ·simp only[c,if_true,d c,Bool.false_eq_true,if_false,true_and,sE]
 ·simp [c]
theorem rG {S:Nat->Bool}: ∀(T:List Rec) (h:H),(∀q∈T,S q.x.i=true->q.x.it.a.vH=false)->
  (mL base S T h).next=h.next/\
  (∀id,¬Extra base S T id->(mL base S T h).get id=h.get id)/\
  (∀id,Extra base S T id-> ∃q∈T,S q.x.i=true/\q.x.al=true/\q.b=true/\base+q.x.i=id/\ ∀h',(mL base S T h').get id=q.ha.get id)
 | [],h,_=>⟨rfl,λ_ _=>rfl,λid p=>by obtain⟨q,c,_⟩:=p;cases c⟩
 |r::T,h,hn=>by
  have e:=λh=>ZP (base:=base) (h:=h) (hn r (tQ ..))
  have l:=λh=>rG T h (λq c=>hn q (wI _ c))
  simp only[mL,List.foldl_cons] at l ⊢;refine⟨?_,λid d=>?_,λid d=>?_⟩
  ·rw[(l _).1,e]
   split<;>rfl
  ·have f: ¬Extra base S T id:=λ⟨q,c,hh⟩=>d ⟨q,wI _ c,hh⟩
   rw[(l _).2.1 id f,e];split
   ·rename_i n
    have:id≠base+r.x.i:=λe=>d ⟨r,tQ ..,n.1,n.2.1,n.2.2,e.symm⟩
    simp [H.jB,H.cV,this]
   ·rfl
  ·by_cases f:Extra base S T id
   ·obtain⟨q,c,m,g,j,k,o⟩:=(l h).2.2 id f
    exact⟨q,wI _ c,m,g,j,k,λh'=>o _⟩
   ·obtain⟨q,c,m,g,j,k⟩:=d
    rcases vI.1 c with rfl|c
    ·refine⟨q,tQ ..,m,g,j,k,λh'=>?_⟩
     rw[(l _).2.1 id f,e,bJ ⟨m,g,j⟩];simp [H.jB,H.cV,←k]
    ·exact absurd ⟨q,c,m,g,j,k⟩ f
theorem BI {S:Nat->Bool}{id:Nat}: ∀(T:List Rec) (h:H),h.get id=none->(∀q∈T,S q.x.i=true->q.x.it.a.vH=true->q.ha.get id=none)->(∀q∈T,base+q.x.i≠id)->
  (mL base S T h).get id=none
 | [],h,hn,_,_=>hn
 |r::T,h,hn,h1,h2=>by
  have c:=BI (S:=S) (id:=id) T;simp only[mL,List.foldl_cons] at c ⊢;refine c _ ?_ (λq b=>h1 q (wI _ b)) (λq b=>h2 q (wI _ b));unfold jI;split
  ·rename_i f
   split
   ·rename_i d;exact h1 r (tQ ..) f d
   ·split
    ·have:id≠base+r.x.i:=λe=>h2 r (tQ ..) e.symm
     simp [H.jB,H.cV,this,hn]
    ·exact hn
  ·exact hn
theorem GV {b a:List Rec}:mL base S (b++a) h=mL base S a (mL base S b h):=by simp [mL]
theorem aaN {b a:List Rec}{vs:List V}:Aj S (b++a) vs=Aj S a (Aj S b vs):=by simp [Aj]
end
end
end Go.Ay
