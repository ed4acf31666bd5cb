/- The run of a region in the order of the plan, and its replays. -/
import Derived.Test.YtcdbmkidaecdiaaGreatAy13
namespace Go.Ay
open Go
section
variable {h:H} {S S':Nat->Bool}
structure Rec where
 x:AI
 vars:List V
 hb:H
 b:Bool
 v:V
 ha:H
def Rec.aff (r:Rec):Bool:=r.x.it.a.uB||(r.x.al&&r.b)
def NA (vs:List V)(r:Rec):List V:=(lX r.x.it.d vs [] r.v).1
def zE (S:Nat->Bool)(T:List Rec)(vs:List V):List V:=T.foldl (λvs r=>if S r.x.i then NA vs r else vs) vs
def iP (base:Nat)(S:Nat->Bool)(h:H)(r:Rec):H:=
 if S r.x.i then (if r.x.it.a.uB then r.ha else if r.x.al&&r.b then h.set (base+r.x.i) (r.ha.get (base+r.x.i)) else h) else h
def lZ (base:Nat)(S:Nat->Bool)(T:List Rec)(h:H):H:=T.foldl (iP base S) h
def Hs (r:Rec)(log:Log):Log:=if r.b then Kz r.x r.vars r.v log else log
def Yk (T:List Rec)(log:Log):Log:=T.foldl (λl r=>Hs r l) log
def acX (cl yl:dP)(base:Nat)(log:Log)(r:Rec):Prop:=
 vQ r.vars [] r.x.it.g=some r.b/\rI r.x.cks log r.ha=true/\
 (if r.b then (if r.x.al then Oq r.vars r.hb (base+r.x.i) r.x.it.a=some (r.v,r.ha) else Lh cl yl r.vars [] r.hb r.x.it.a=some (r.v,r.ha)) else r.v= .undef/\r.ha=r.hb)
def Qq (cl yl:dP)(base:Nat):List Rec->List V->Log->H->List V->H->Prop
 | [],vars,_,h,vars',h'=>vars=vars'/\h=h'
 |r::T,vars,log,h,vars',h'=>r.vars=vars/\r.hb=h/\acX cl yl base log r/\Qq cl yl base T (NA vars r) (Hs r log) r.ha vars' h'
section
variable {cl yl:dP} {base:Nat}
theorem Pb: ∀(xs:List AI) (vars:List V) (log:Log) (h:H) (vars':List V) (h':H),wZ cl yl base xs vars log h=some (vars',h')->
  ∃T:List Rec,T.map (·.x)=xs/\Qq cl yl base T vars log h vars' h'
 | [],vars,log,h,vars',h',he=>by
  rw[Ik] at he;have:vars=vars'/\h=h':=by simpa using he
  exact⟨[],rfl,this⟩
 |x::xs,vars,log,h,vars',h',he=>by
  rw[jK] at he;split at he
  ·rename_i d
   split at he
   ·rename_i v j a
    split at he
    ·rename_i b
     obtain⟨T,f,i⟩:=Pb xs _ _ _ _ _ he;refine⟨⟨x,vars,h,true,v,j⟩::T,by simp [f],rfl,rfl,⟨d,b,?_⟩,i⟩;simp only[if_true]
     by_cases c:x.al=true
     ·simp only[c,if_true] at a ⊢;exact a
     ·simp only[c,if_false] at a ⊢;exact a
    ·cases he
   ·cases he
  ·rename_i d
   split at he
   ·rename_i b
    obtain⟨T,f,i⟩:=Pb xs _ _ _ _ _ he;exact⟨⟨x,vars,h,false,.undef,h⟩::T,by simp [f],rfl,rfl,⟨d,b,by simp⟩,i⟩
   ·cases he
  ·cases he
theorem Vk {b:List V}{h':H}{n:Nat}{a:dR}{v:V}(c:a.Ki=true)(d:Oq b h n a=some (v,h')):
  ∃i o,a= .op i/\i.Ki=true/\o.rw=true/\h'=h.set n (some o)/\ ∀h2:H,h2.next=n->cI (xv b []) h2 i=some (v,h2.new o):=by
 cases a with
 |op i=>
  simp only[dR.Ki] at c;simp only[Oq] at d;split at d
  ·rename_i l m hi
   obtain⟨o,f,j,k⟩:=agK c hi;cases d;exact⟨i,o,rfl,c,f,by rw[j];rfl,k⟩
  ·cases d
 |call g args=>simp [dR.Ki] at c
 |callv x args=>simp [dR.Ki] at c
 |calli g t x args=>simp [dR.Ki] at c
 |callp g args=>simp [dR.Ki] at c
theorem Rq {b:List V}{h':H}{a:dR}{v:V}(d:a.uB=false)(j:a.Ki=false)(c:Lh cl yl b [] h a=some (v,h')):
  h'=h/\((∃i,a= .op i/\cI (xv b []) h i=some (v,h')/\(i.sJ=false-> ∀h2,cI (xv b []) h2 i=some (v,h2)))∨ ∃g args,a= .callp g args):=by
 cases a with
 |op i=>
  rw[sX] at c;simp only[dR.uB,dR.Ki] at d j;refine⟨?_,.inl ⟨i,rfl,c,λf=>(Zk f j d c).2⟩⟩
  by_cases f:i.sJ=true
  ·exact RN f c
  ·exact (Zk (by simpa using f) j d c).1
 |call g args=>simp [dR.uB] at d
 |callv x args=>simp [dR.uB] at d
 |calli g t x args=>simp [dR.uB] at d
 |callp g args=>rw[mB] at c;exact⟨(yL c).1,.inr ⟨g,args,rfl⟩⟩
theorem TU {a:dR}(h:a.Ki=true):a.uB=false:=by
 cases a with
 |op i=>cases i<;>simp_all [dR.Ki,dR.uB,I.Ki,I.uB]
 |_=>simp [dR.Ki] at h
theorem YR {j:Log}{r:Rec}(d:r.x.al=r.x.it.a.Ki)(c:acX cl yl base j r):iP base (λ_=>true) r.hb r=r.ha:=by
 obtain⟨_,_,c⟩:=c;simp only[iP,if_true]
 by_cases f:r.x.it.a.uB=true
 ·simp [f]
 ·simp only[f]
  cases hb:r.b with
  |false=>simp only[hb] at c;simp [c.2]
  |true=>
   simp only[hb,if_true] at c
   cases ha:r.x.al with
   |true=>
    simp only[ha,if_true] at c;obtain⟨i,o,_,_,_,e,_⟩:=Vk (d▸ha) c;simp [e,H.jB,H.bY]
   |false=>
    simp only[ha] at c;obtain⟨e,_⟩:=Rq (by simpa using f) (d▸ha) c;simp [e]
theorem wG: ∀(T1 T2:List Rec) (vars:List V) (log:Log) (h:H) (vars':List V) (h':H),(∀r∈T1,r.x.al=r.x.it.a.Ki)->Qq cl yl base (T1++T2) vars log h vars' h'->
  Qq cl yl base T2 (zE (λ_=>true) T1 vars) (Yk T1 log) (lZ base (λ_=>true) T1 h) vars' h'
 | [],T2,vars,log,h,vars',h',_,hc=>hc
 |r::T1,T2,vars,log,h,vars',h',ha,hc=>by
  obtain⟨j,f,i,d⟩:=hc;have:=wG T1 T2 _ _ _ _ _ (λq c=>ha q (Cu _ c)) d;have b:=YR (ha r (Ab ..)) i;rw[f] at b;simpa [zE,lZ,Yk,b] using this
theorem zL {vs:List V}{r:Rec}(a:r.x.it.Em=false):NA vs r=match r.x.it.wr with|some k=>vs.set k r.v|none=>vs:=by
 unfold NA It.wr lX It.Em at*;cases hd:r.x.it.d<;>simp_all
theorem Ig {S S':Nat->Bool}{k:Nat}: ∀(T:List Rec) (vs vs':List V),(∀r∈T,r.x.it.Em=false)->vs.length=vs'.length->vs.getD k .undef=vs'.getD k .undef->
  (∀r∈T,r.x.it.wr=some k->S r.x.i=S' r.x.i)->(zE S T vs).getD k .undef=(zE S' T vs').getD k .undef
 | [],_,_,_,_,h,_=>h
 |r::T,vs,vs',hl,hlen,h,hk=>by
  have n:=hl r (Ab ..);simp only[zE,List.foldl_cons]
  have a: ∀(c:Bool) (b:List V),(if c then NA b r else b).length=b.length:=by
   intro c b;split
   ·rw[zL n];split<;>simp
   ·rfl
  refine Ig T _ _ (λq p=>hl q (Cu _ p)) (by rw[a,a,hlen]) ?_ (λq p=>hk q (Cu _ p))
  have d: ∀(c:Bool) (b:List V),r.x.it.wr≠some k->(if c then NA b r else b).getD k V.undef=b.getD k .undef:=by
   intro c b o;split
   ·rw[zL n]
    split
    ·rename_i j s
     have:j≠k:=λe=>o (by rw[s,e])
     simp [List.getD,List.getElem?_set_ne this]
    ·rfl
   ·rfl
  by_cases m:r.x.it.wr=some k
  ·rw[hk r (Ab ..) m]
   split
   ·rw[zL n,zL n,m]
    simp only[List.getD,List.getElem?_set_self',hlen]
    by_cases l:k<vs'.length
    ·simp [l,hlen]
    ·have f: ¬k<vs.length:=om
     simp [l,f]
   ·exact h
  ·rw[d _ _ m,d _ _ m];exact h
theorem SO {S:Nat->Bool}{r:Rec}(b:r.x.it.Em=false): ∀(T:List Rec) (vs:List V),(∀q∈T,q.x.it.Em=false)->(∀q∈T,S q.x.i=true-> ∀k,q.x.it.wr=some k->r.x.it.wr≠some k)->
  zE S T (NA vs r)=NA (zE S T vs) r
 | [],_,_,_=>rfl
 |q::T,vs,hl,hk=>by
  have f:=hl q (Ab ..);have c:=SO (S:=S) b T;simp only[zE,List.foldl_cons] at c ⊢
  by_cases d:S q.x.i=true
  ·simp only[d,if_true]
   rw[←c (NA vs q) (λy a=>hl y (Cu _ a)) (λy a=>hk y (Cu _ a))];congr 1;rw[zL b,zL f,zL f,zL b]
   cases hw:r.x.it.wr with
   |none=>rfl
   |some j=>
    cases hw2:q.x.it.wr with
    |none=>rfl
    |some k=>
     have:j≠k:=λe=>hk q (Ab ..) d k hw2 (by rw[hw,e])
     simp only;exact List.set_comm _ _ this
  ·simp only[d,Bool.false_eq_true,if_false]
   exact c vs (λy a=>hl y (Cu _ a)) (λy a=>hk y (Cu _ a))
theorem Gk {S S':Nat->Bool}: ∀(T:List Rec) (vs:List V),(∀q∈T,S q.x.i=S' q.x.i)->zE S T vs=zE S' T vs
 | [],_,_=>rfl
 |q::T,vs,h=>by
  have a:=Gk (S:=S) (S':=S') T;simp only[zE,List.foldl_cons] at a ⊢;rw[h q (Ab ..)];exact a _ (λy b=>h y (Cu _ b))
theorem amA {r:Rec}(j:r.aff=true->S r.x.i=S' r.x.i):iP base S h r=iP base S' h r:=by
 by_cases c:r.aff=true
 ·simp only[iP,j c]
 ·have f:r.x.it.a.uB=false:=by simp [Rec.aff] at c;exact c.1
  have d:(r.x.al&&r.b)=false:=by simp [Rec.aff] at c;simpa using c.2
  simp [iP,f,d]
theorem zX {S S':Nat->Bool}: ∀(T:List Rec) (h:H),(∀q∈T,q.aff=true->S q.x.i=S' q.x.i)->lZ base S T h=lZ base S' T h
 | [],_,_=>rfl
 |q::T,h,hs=>by
  have a:=zX (S:=S) (S':=S') T;simp only[lZ,List.foldl_cons] at a ⊢;rw[amA (hs q (Ab ..))];exact a _ (λy b=>hs y (Cu _ b))
def Extra (base:Nat)(S:Nat->Bool)(T:List Rec)(id:Nat):Prop:= ∃q∈T,S q.x.i=true/\q.x.al=true/\q.b=true/\base+q.x.i=id
theorem XL {r:Rec}(d:S r.x.i=true->r.x.it.a.uB=false):
  iP base S h r=if S r.x.i=true/\r.x.al=true/\r.b=true then h.set (base+r.x.i) (r.ha.get (base+r.x.i)) else h:=by
 unfold iP
 by_cases c:S r.x.i=true
 ·simp only[c,if_true,d c,Bool.false_eq_true,if_false,true_and,vN]
 ·simp [c]
theorem qN {S:Nat->Bool}: ∀(T:List Rec) (h:H),(∀q∈T,S q.x.i=true->q.x.it.a.uB=false)->
  (lZ base S T h).next=h.next/\
  (∀id,¬Extra base S T id->(lZ base S T h).get id=h.get id)/\
  (∀id,Extra base S T id-> ∃q∈T,S q.x.i=true/\q.x.al=true/\q.b=true/\base+q.x.i=id/\ ∀h',(lZ base S T h').get id=q.ha.get id)
 | [],h,_=>⟨rfl,λ_ _=>rfl,λid s=>by obtain⟨q,c,_⟩:=s;cases c⟩
 |r::T,h,hn=>by
  have e:=λh=>XL (base:=base) (h:=h) (hn r (Ab ..))
  have l:=λh=>qN T h (λq c=>hn q (Cu _ c))
  simp only[lZ,List.foldl_cons] at l ⊢;refine⟨?_,λid d=>?_,λid d=>?_⟩
  ·rw[(l _).1,e]
   split<;>rfl
  ·have m: ¬Extra base S T id:=λ⟨q,c,hh⟩=>d ⟨q,Cu _ c,hh⟩
   rw[(l _).2.1 id m,e];split
   ·rename_i o
    have:id≠base+r.x.i:=λe=>d ⟨r,Ab ..,o.1,o.2.1,o.2.2,e.symm⟩
    simp [H.jB,H.bY,this]
   ·rfl
  ·by_cases m:Extra base S T id
   ·obtain⟨q,c,j,n,k,f,p⟩:=(l h).2.2 id m
    exact⟨q,Cu _ c,j,n,k,f,λh'=>p _⟩
   ·obtain⟨q,c,j,n,k,f⟩:=d
    rcases zH.1 c with rfl|c
    ·refine⟨q,Ab ..,j,n,k,f,λh'=>?_⟩
     rw[(l _).2.1 id m,e,bF ⟨j,n,k⟩];simp [H.jB,H.bY,←f]
    ·exact absurd ⟨q,c,j,n,k,f⟩ m
theorem Xq {S:Nat->Bool}{id:Nat}: ∀(T:List Rec) (h:H),h.get id=none->(∀q∈T,S q.x.i=true->q.x.it.a.uB=true->q.ha.get id=none)->(∀q∈T,base+q.x.i≠id)->
  (lZ base S T h).get id=none
 | [],h,hn,_,_=>hn
 |r::T,h,hn,h1,h2=>by
  have c:=Xq (S:=S) (id:=id) T;simp only[lZ,List.foldl_cons] at c ⊢;refine c _ ?_ (λq b=>h1 q (Cu _ b)) (λq b=>h2 q (Cu _ b));unfold iP;split
  ·rename_i f
   split
   ·rename_i d;exact h1 r (Ab ..) f d
   ·split
    ·have:id≠base+r.x.i:=λe=>h2 r (Ab ..) e.symm
     simp [H.jB,H.bY,this,hn]
    ·exact hn
  ·exact hn
theorem ER {a b:List Rec}:lZ base S (a++b) h=lZ base S b (lZ base S a h):=by simp [lZ]
theorem YO {a b:List Rec}{vs:List V}:zE S (a++b) vs=zE S b (zE S a vs):=by simp [zE]
end
end
end Go.Ay
