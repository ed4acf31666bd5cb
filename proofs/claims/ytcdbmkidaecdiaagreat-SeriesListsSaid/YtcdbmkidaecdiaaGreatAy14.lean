/- The run of a region in the order of the plan, and its replays. -/
import Derived.Test.YtcdbmkidaecdiaaGreatAy13
namespace Go.Ay
open Go
section
variable {h:H} {S S':Nat->Bool}
structure Rec where
 x:AI
 vars:List V
 hb:H
 b:Bool
 v:V
 ha:H
def Rec.aff (r:Rec):Bool:=r.x.it.a.sY||(r.x.al&&r.b)
def OO (vs:List V)(r:Rec):List V:=(lI r.x.it.d vs [] r.v).1
def zL (S:Nat->Bool)(T:List Rec)(vs:List V):List V:=T.foldl (λvs r=>if S r.x.i then OO vs r else vs) vs
def iB (base:Nat)(S:Nat->Bool)(h:H)(r:Rec):H:=
 if S r.x.i then (if r.x.it.a.sY then r.ha else if r.x.al&&r.b then h.set (base+r.x.i) (r.ha.get (base+r.x.i)) else h) else h
def lG (base:Nat)(S:Nat->Bool)(T:List Rec)(h:H):H:=T.foldl (iB base S) h
def Hu (r:Rec)(log:Log):Log:=if r.b then Lh r.x r.vars r.v log else log
def Zr (T:List Rec)(log:Log):Log:=T.foldl (λl r=>Hu r l) log
def aeJ (cl yl:dM)(base:Nat)(log:Log)(r:Rec):Prop:=
 fU r.vars [] r.x.it.g=some r.b/\rG r.x.cks log r.ha=true/\
 (if r.b then (if r.x.al then Pb r.vars r.hb (base+r.x.i) r.x.it.a=some (r.v,r.ha) else kY cl yl r.vars [] r.hb r.x.it.a=some (r.v,r.ha)) else r.v= .undef/\r.ha=r.hb)
def Ua (cl yl:dM)(base:Nat):List Rec->List V->Log->H->List V->H->Prop
 | [],vars,_,h,vars',h'=>vars=vars'/\h=h'
 |r::T,vars,log,h,vars',h'=>r.vars=vars/\r.hb=h/\aeJ cl yl base log r/\Ua cl yl base T (OO vars r) (Hu r log) r.ha vars' h'
section
variable {cl yl:dM} {base:Nat}
theorem Mg: ∀(xs:List AI) (vars:List V) (log:Log) (h:H) (vars':List V) (h':H),wW cl yl base xs vars log h=some (vars',h')->
  ∃T:List Rec,T.map (·.x)=xs/\Ua cl yl base T vars log h vars' h'
 | [],vars,log,h,vars',h',he=>by
  rw[Kd] at he;have:vars=vars'/\h=h':=by simpa using he
  exact⟨[],rfl,this⟩
 |x::xs,vars,log,h,vars',h',he=>by
  rw[iY] at he;split at he
  ·rename_i e
   split at he
   ·rename_i v g a
    split at he
    ·rename_i b
     obtain⟨T,f,d⟩:=Mg xs _ _ _ _ _ he;refine⟨⟨x,vars,h,true,v,g⟩::T,by simp [f],rfl,rfl,⟨e,b,?_⟩,d⟩;simp only[if_true]
     by_cases c:x.al=true
     ·simp only[c,if_true] at a ⊢;exact a
     ·simp only[c,if_false] at a ⊢;exact a
    ·cases he
   ·cases he
  ·rename_i e
   split at he
   ·rename_i b
    obtain⟨T,f,d⟩:=Mg xs _ _ _ _ _ he;exact⟨⟨x,vars,h,false,.undef,h⟩::T,by simp [f],rfl,rfl,⟨e,b,by simp⟩,d⟩
   ·cases he
  ·cases he
theorem We {b:List V}{h':H}{n:Nat}{a:dO}{v:V}(c:a.mF=true)(d:Pb b h n a=some (v,h')):
  ∃i o,a= .op i/\i.mF=true/\o.rw=true/\h'=h.set n (some o)/\ ∀h2:H,h2.next=n->cK (xv b []) h2 i=some (v,h2.new o):=by
 cases a with
 |op i=>
  simp only[dO.mF] at c;simp only[Pb] at d;split at d
  ·rename_i l k hi
   obtain⟨o,j,f,e⟩:=aiB c hi;cases d;exact⟨i,o,rfl,c,j,by rw[f];rfl,e⟩
  ·cases d
 |call g args=>simp [dO.mF] at c
 |callv x args=>simp [dO.mF] at c
 |calli g t x args=>simp [dO.mF] at c
 |callp g args=>simp [dO.mF] at c
theorem Rs {b:List V}{h':H}{a:dO}{v:V}(d:a.sY=false)(f:a.mF=false)(c:kY cl yl b [] h a=some (v,h')):
  h'=h/\((∃i,a= .op i/\cK (xv b []) h i=some (v,h')/\(i.sP=false-> ∀h2,cK (xv b []) h2 i=some (v,h2)))∨ ∃g args,a= .callp g args):=by
 cases a with
 |op i=>
  rw[tQ] at c;simp only[dO.sY,dO.mF] at d f;refine⟨?_,.inl ⟨i,rfl,c,λe=>(Zo e f d c).2⟩⟩
  by_cases e:i.sP=true
  ·exact SS e c
  ·exact (Zo (by simpa using e) f d c).1
 |call g args=>simp [dO.sY] at d
 |callv x args=>simp [dO.sY] at d
 |calli g t x args=>simp [dO.sY] at d
 |callp g args=>rw[lD] at c;exact⟨(xS c).1,.inr ⟨g,args,rfl⟩⟩
theorem VA {a:dO}(h:a.mF=true):a.sY=false:=by
 cases a with
 |op i=>cases i<;>simp_all [dO.mF,dO.sY,I.mF,I.sY]
 |_=>simp [dO.mF] at h
theorem aaC {g:Log}{r:Rec}(d:r.x.al=r.x.it.a.mF)(c:aeJ cl yl base g r):iB base (λ_=>true) r.hb r=r.ha:=by
 obtain⟨_,_,c⟩:=c;simp only[iB,if_true]
 by_cases f:r.x.it.a.sY=true
 ·simp [f]
 ·simp only[f]
  cases hb:r.b with
  |false=>simp only[hb] at c;simp [c.2]
  |true=>
   simp only[hb,if_true] at c
   cases ha:r.x.al with
   |true=>
    simp only[ha,if_true] at c;obtain⟨i,o,_,_,_,e,_⟩:=We (d▸ha) c;simp [e,H.iW,H.cH]
   |false=>
    simp only[ha] at c;obtain⟨e,_⟩:=Rs (by simpa using f) (d▸ha) c;simp [e]
theorem xE: ∀(T1 T2:List Rec) (vars:List V) (log:Log) (h:H) (vars':List V) (h':H),(∀r∈T1,r.x.al=r.x.it.a.mF)->Ua cl yl base (T1++T2) vars log h vars' h'->
  Ua cl yl base T2 (zL (λ_=>true) T1 vars) (Zr T1 log) (lG base (λ_=>true) T1 h) vars' h'
 | [],T2,vars,log,h,vars',h',_,hc=>hc
 |r::T1,T2,vars,log,h,vars',h',ha,hc=>by
  obtain⟨g,d,f,e⟩:=hc;have:=xE T1 T2 _ _ _ _ _ (λq c=>ha q (Cu _ c)) e;have b:=aaC (ha r (Co ..)) f;rw[d] at b;simpa [zL,lG,Zr,b] using this
theorem zN {vs:List V}{r:Rec}(a:r.x.it.Ep=false):OO vs r=match r.x.it.wr with|some k=>vs.set k r.v|none=>vs:=by
 unfold OO It.wr lI It.Ep at*;cases hd:r.x.it.d<;>simp_all
theorem Jc {S S':Nat->Bool}{k:Nat}: ∀(T:List Rec) (vs vs':List V),(∀r∈T,r.x.it.Ep=false)->vs.length=vs'.length->vs.getD k .undef=vs'.getD k .undef->
  (∀r∈T,r.x.it.wr=some k->S r.x.i=S' r.x.i)->(zL S T vs).getD k .undef=(zL S' T vs').getD k .undef
 | [],_,_,_,_,h,_=>h
 |r::T,vs,vs',hl,hlen,h,hk=>by
  have m:=hl r (Co ..);simp only[zL,List.foldl_cons]
  have a: ∀(c:Bool) (b:List V),(if c then OO b r else b).length=b.length:=by
   intro c b;split
   ·rw[zN m];split<;>simp
   ·rfl
  refine Jc T _ _ (λq n=>hl q (Cu _ n)) (by rw[a,a,hlen]) ?_ (λq n=>hk q (Cu _ n))
  have g: ∀(c:Bool) (b:List V),r.x.it.wr≠some k->(if c then OO b r else b).getD k V.undef=b.getD k .undef:=by
   intro c b o;split
   ·rw[zN m]
    split
    ·rename_i j p
     have:j≠k:=λe=>o (by rw[p,e])
     simp [List.getD,List.getElem?_set_ne this]
    ·rfl
   ·rfl
  by_cases l:r.x.it.wr=some k
  ·rw[hk r (Co ..) l]
   split
   ·rw[zN m,zN m,l]
    simp only[List.getD,List.getElem?_set_self',hlen]
    by_cases f:k<vs'.length
    ·simp [f,hlen]
    ·have d: ¬k<vs.length:=om
     simp [f,d]
   ·exact h
  ·rw[g _ _ l,g _ _ l];exact h
theorem RM {S:Nat->Bool}{r:Rec}(d:r.x.it.Ep=false): ∀(T:List Rec) (vs:List V),(∀q∈T,q.x.it.Ep=false)->(∀q∈T,S q.x.i=true-> ∀k,q.x.it.wr=some k->r.x.it.wr≠some k)->
  zL S T (OO vs r)=OO (zL S T vs) r
 | [],_,_,_=>rfl
 |q::T,vs,hl,hk=>by
  have f:=hl q (Co ..);have c:=RM (S:=S) d T;simp only[zL,List.foldl_cons] at c ⊢
  by_cases b:S q.x.i=true
  ·simp only[b,if_true]
   rw[←c (OO vs q) (λy a=>hl y (Cu _ a)) (λy a=>hk y (Cu _ a))];congr 1;rw[zN d,zN f,zN f,zN d]
   cases hw:r.x.it.wr with
   |none=>rfl
   |some j=>
    cases hw2:q.x.it.wr with
    |none=>rfl
    |some k=>
     have:j≠k:=λe=>hk q (Co ..) b k hw2 (by rw[hw,e])
     simp only;exact List.set_comm _ _ this
  ·simp only[b,Bool.false_eq_true,if_false]
   exact c vs (λy a=>hl y (Cu _ a)) (λy a=>hk y (Cu _ a))
theorem Hb {S S':Nat->Bool}: ∀(T:List Rec) (vs:List V),(∀q∈T,S q.x.i=S' q.x.i)->zL S T vs=zL S' T vs
 | [],_,_=>rfl
 |q::T,vs,h=>by
  have a:=Hb (S:=S) (S':=S') T;simp only[zL,List.foldl_cons] at a ⊢;rw[h q (Co ..)];exact a _ (λy b=>h y (Cu _ b))
theorem GP {r:Rec}(d:r.aff=true->S r.x.i=S' r.x.i):iB base S h r=iB base S' h r:=by
 by_cases c:r.aff=true
 ·simp only[iB,d c]
 ·have e:r.x.it.a.sY=false:=by simp [Rec.aff] at c;exact c.1
  have f:(r.x.al&&r.b)=false:=by simp [Rec.aff] at c;simpa using c.2
  simp [iB,e,f]
theorem Bj {S S':Nat->Bool}: ∀(T:List Rec) (h:H),(∀q∈T,q.aff=true->S q.x.i=S' q.x.i)->lG base S T h=lG base S' T h
 | [],_,_=>rfl
 |q::T,h,hs=>by
  have a:=Bj (S:=S) (S':=S') T;simp only[lG,List.foldl_cons] at a ⊢;rw[GP (hs q (Co ..))];exact a _ (λy b=>hs y (Cu _ b))
def Extra (base:Nat)(S:Nat->Bool)(T:List Rec)(id:Nat):Prop:= ∃q∈T,S q.x.i=true/\q.x.al=true/\q.b=true/\base+q.x.i=id
theorem aaI {r:Rec}(d:S r.x.i=true->r.x.it.a.sY=false):
  iB base S h r=if S r.x.i=true/\r.x.al=true/\r.b=true then h.set (base+r.x.i) (r.ha.get (base+r.x.i)) else h:=by
 unfold iB
 by_cases c:S r.x.i=true
 ·simp only[c,if_true,d c,Bool.false_eq_true,if_false,true_and,vV]
 ·simp [c]
theorem qP {S:Nat->Bool}: ∀(T:List Rec) (h:H),(∀q∈T,S q.x.i=true->q.x.it.a.sY=false)->
  (lG base S T h).next=h.next/\
  (∀id,¬Extra base S T id->(lG base S T h).get id=h.get id)/\
  (∀id,Extra base S T id-> ∃q∈T,S q.x.i=true/\q.x.al=true/\q.b=true/\base+q.x.i=id/\ ∀h',(lG base S T h').get id=q.ha.get id)
 | [],h,_=>⟨rfl,λ_ _=>rfl,λid p=>by obtain⟨q,c,_⟩:=p;cases c⟩
 |r::T,h,hn=>by
  have e:=λh=>aaI (base:=base) (h:=h) (hn r (Co ..))
  have g:=λh=>qP T h (λq c=>hn q (Cu _ c))
  simp only[lG,List.foldl_cons] at g ⊢;refine⟨?_,λid d=>?_,λid d=>?_⟩
  ·rw[(g _).1,e]
   split<;>rfl
  ·have m: ¬Extra base S T id:=λ⟨q,c,hh⟩=>d ⟨q,Cu _ c,hh⟩
   rw[(g _).2.1 id m,e];split
   ·rename_i n
    have:id≠base+r.x.i:=λe=>d ⟨r,Co ..,n.1,n.2.1,n.2.2,e.symm⟩
    simp [H.iW,H.cH,this]
   ·rfl
  ·by_cases m:Extra base S T id
   ·obtain⟨q,c,k,j,f,l,o⟩:=(g h).2.2 id m
    exact⟨q,Cu _ c,k,j,f,l,λh'=>o _⟩
   ·obtain⟨q,c,k,j,f,l⟩:=d
    rcases Gr.1 c with rfl|c
    ·refine⟨q,Co ..,k,j,f,l,λh'=>?_⟩
     rw[(g _).2.1 id m,e,bJ ⟨k,j,f⟩];simp [H.iW,H.cH,←l]
    ·exact absurd ⟨q,c,k,j,f,l⟩ m
theorem Yh {S:Nat->Bool}{id:Nat}: ∀(T:List Rec) (h:H),h.get id=none->(∀q∈T,S q.x.i=true->q.x.it.a.sY=true->q.ha.get id=none)->(∀q∈T,base+q.x.i≠id)->
  (lG base S T h).get id=none
 | [],h,hn,_,_=>hn
 |r::T,h,hn,h1,h2=>by
  have c:=Yh (S:=S) (id:=id) T;simp only[lG,List.foldl_cons] at c ⊢;refine c _ ?_ (λq b=>h1 q (Cu _ b)) (λq b=>h2 q (Cu _ b));unfold iB;split
  ·rename_i f
   split
   ·rename_i d;exact h1 r (Co ..) f d
   ·split
    ·have:id≠base+r.x.i:=λe=>h2 r (Co ..) e.symm
     simp [H.iW,H.cH,this,hn]
    ·exact hn
  ·exact hn
theorem GH {a b:List Rec}:lG base S (a++b) h=lG base S b (lG base S a h):=by simp [lG]
theorem acP {a b:List Rec}{vs:List V}:zL S (a++b) vs=zL S b (zL S a vs):=by simp [zL]
end
end
end Go.Ay
