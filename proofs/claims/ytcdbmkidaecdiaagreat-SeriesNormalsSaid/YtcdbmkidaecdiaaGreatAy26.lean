/- Slices as lists. -/
import Derived.Test.YtcdbmkidaecdiaaGreatAy25
namespace Go.Ay
section
variable {l:List Int} {v x u:V} {sz n id off b bytes:Nat} {h h':H} {ws us:List V} {ro:Bool} {ll:List (List Int)}
def ints (l:List Int):List V:=l.map (V.int .i64)
theorem RS:ints []= []:=rfl
theorem KB (a:Int)(l:List Int):ints (a::l)= .int .i64 a::ints l:=rfl
theorem aP (l:List Int):(ints l).length=l.length:=iA ..
theorem rP (a b:List Int):ints (a++b)=ints a++ints b:=List.map_append ..
theorem ints_set (l:List Int)(i:Nat)(x:Int):(ints l).set i (.int .i64 x)=ints (l.set i x):=by
 simp only[ints,List.map_set]
theorem QK (l:List Int)(i:Nat):(ints l)[i]? =(l[i]?).map (V.int .i64):=by simp [ints]
theorem Sg {i:Nat}(hi:i<l.length):(ints l)[i]? =some (.int .i64 (l.getD i 0)):=by
 rw[QK,dD hi,OU,dD hi];rfl
theorem Yy: ∀{a b:List Int},ints a=ints b->a=b
 | [], [],_=>rfl
 | [],_::_,h=>by cases h
 |_::_, [],h=>by cases h
 |x::a,y::b,h=>by
  simp only[KB,List.cons.injEq,V.int.injEq,true_and] at h;rw[h.1,Yy h.2]
theorem Qk (n:Nat)(x:Int):ints (List.replicate n x)=List.replicate n (.int .i64 x):=by simp [ints]
structure Sl (v:V)(sz n id off:Nat):Prop where
 len:wZ v=some n
 ixa: ∀(k:IntKind) (i:Int),0<=i->i<n->Gr sz v (.int k i)=some (.ptr id (off+i.toNat*sz))
 one:v.one=true
 cells:v.cells= [v]
theorem Sl.lens (s:Sl v sz n id off):bL v=some (.int .i64 (n:Int)):=by
 unfold bL;rw[s.len];rfl
def SV (h:H)(v:V)(sz:Nat)(ws:List V):Prop:=(v= .aD∨ ∃a,v= .emp a)/\ws= []∨
 ∃id off len cap ro vs,v= .sl id off len cap/\ws.length=len*sz/\id<h.next/\h.get id=some (.cells ro vs)/\off+len*sz<=vs.length/\(vs.drop off).take (len*sz)=ws
theorem SV.aD (h:H)(sz:Nat):SV h .aD sz []:= .inl ⟨.inl rfl,rfl⟩
theorem SV.emp (h:H)(a:Addr)(sz:Nat):SV h (.emp a) sz []:= .inl ⟨.inr ⟨a,rfl⟩,rfl⟩
theorem SV.mono (s:SV h v sz ws)(f:Fr h h'):SV h' v sz ws:=by
 rcases s with s|⟨id,off,len,a,ro,e,d,g,c,k,j,i⟩
 ·exact .inl s
 ·exact .inr ⟨id,off,len,a,ro,e,d,g,jM c f.next,by rw[f.get id c];exact k,j,i⟩
theorem SV.all {vs:List V}{len:Nat}(d:vs.length=len*sz)(c:id<h.next)(e:h.get id=some (.cells ro vs))(a:pY):SV h (.sl id 0 len a) sz vs:=
 .inr ⟨id,0,len,a,ro,vs,rfl,d,c,e,om,by rw[List.drop_zero,←d,List.take_length]⟩
theorem SV.shape (s:SV h v sz ws)(n:Nat)(e:ws.length=n*sz)(p:0<sz): ∃id off,Sl v sz n id off/\(0<n->id<h.next)/\ ∀i,i<ws.length->h.cell id (off+i)=ws[i]? :=by
 rcases s with ⟨m,rfl⟩|⟨id,off,len,j,ro,r,rfl,d,g,q,t,o⟩
 ·have:n=0:=by
   cases n with
   |zero=>rfl
   |succ n=>simp [Nat.succ_mul] at e;omega
  subst this;rcases m with rfl|⟨a,rfl⟩<;>exact⟨0,0,⟨rfl,λk i f d=>om,rfl,rfl⟩,λh=>om,λi hi=>by simp at hi⟩
 ·have c:len=n:=by
   rw[d] at e;exact Nat.eq_of_mul_eq_mul_right p e
  subst c;refine⟨id,off,⟨rfl,λk i f d=>Il f d,rfl,rfl⟩,λ_=>g,λi hi=>?_⟩;rw[H.cell_of q,←o,List.getElem?_take_of_lt om,List.getElem?_drop]
theorem SV.slice (s:SV h v sz ws):h.slice sz v=some ws:=by
 rcases s with ⟨rfl|⟨a,rfl⟩,rfl⟩|⟨id,off,len,c,ro,g,rfl,i,j,f,e,d⟩
 ·rfl
 ·rfl
 ·simp only[H.slice,H.row,f,sub]
  rw[bJ e,d]
theorem SV.len (s:SV h v sz ws)(a:ws.length=n*sz)(c:0<sz):wZ v=some n:=by
 obtain⟨id,off,s,_⟩:=s.shape n a c;exact s.len
def SI (h:H)(v:V)(l:List Int):Prop:=SV h v 1 (ints l)
theorem SI.aD (h:H):SI h .aD []:=SV.aD h 1
theorem SI.emp (h:H)(a:Addr):SI h (.emp a) []:=SV.emp h a 1
theorem SI.mono (s:SI h v l)(f:Fr h h'):SI h' v l:=SV.mono s f
theorem SI.own (c:id<h.next)(d:h.get id=some (.cells ro (ints l)))(a:pY):SI h (.sl id 0 l.length a) l:=
 SV.all (by rw[aP,tW]) c d a
theorem SI.open (s:SI h v l): ∃id off,Sl v 1 l.length id off/\(0<l.length->id<h.next)/\ ∀i:Nat,i<l.length->h.cell id (off+i)=some (.int .i64 (l.getD i 0)):=by
 obtain⟨id,off,a,e,c⟩:=SV.shape s l.length (by rw[aP,tW]) om;refine⟨id,off,a,e,λi d=>?_⟩;rw[c i (by rw[aP];omega),Sg d]
theorem SI.len (s:SI h v l):wZ v=some l.length:=SV.len s (by rw[aP,tW]) om
theorem SI.lens (s:SI h v l):bL v=some (.int .i64 (l.length:Int)):=by unfold bL;rw[s.len];rfl
theorem Hw (f:Fr h h'){F:Nat->V}(a:0<n->id<h.next)(c: ∀i:Nat,i<n->h.cell id (off+i)=some (F i)): ∀i:Nat,i<n->h'.cell id (off+i)=some (F i):=λi d=>by
 rw[f.cell (a om)];exact c i d
def aN {α β:Type}(R:α->β->Prop):List α->List β->Prop
 | [], []=>True
 |a::as,b::bs=>R a b/\aN R as bs
 |_,_=>False
theorem aN.length {α β:Type}{R:α->β->Prop}: ∀{as:List α} {bs:List β},aN R as bs->as.length=bs.length
 | [], [],_=>rfl
 |_::_,_::_,h=>by rw[List.length_cons,List.length_cons,aN.length h.2]
 | [],_::_,h=>h.elim
 |_::_, [],h=>h.elim
theorem aN.mono {α β:Type}{R S:α->β->Prop}(k: ∀a b,R a b->S a b): ∀{as:List α} {bs:List β},aN R as bs->aN S as bs
 | [], [],_=>trivial
 |_::_,_::_,h=>⟨k _ _ h.1,aN.mono k h.2⟩
 | [],_::_,h=>h.elim
 |_::_, [],h=>h.elim
theorem aN.get {α β:Type}{R:α->β->Prop}: ∀{as:List α} {bs:List β},aN R as bs-> ∀i (hi:i<as.length) (hj:i<bs.length),R as[i] bs[i]
 |a::as,b::bs,h,0,_,_=>h.1
 |a::as,b::bs,h,i+1,hi,hj=>aN.get h.2 i (by simpa using hi) (by simpa using hj)
 | [],_,_,i,hi,_=>by simp at hi
 |_::_, [],h,_,_,_=>h.elim
theorem aN.append {α β:Type}{R:α->β->Prop}: ∀{as:List α} {bs:List β} {cs:List α} {ds:List β},aN R as bs->aN R cs ds->aN R (as++cs) (bs++ds)
 | [], [],_,_,_,h=>h
 |_::_,_::_,_,_,h,k=>⟨h.1,aN.append h.2 k⟩
 | [],_::_,_,_,h,_=>h.elim
 |_::_, [],_,_,h,_=>h.elim
theorem aN.eM {α β:Type}{R:α->β->Prop}: ∀{as:List α} {bs:List β},as.length=bs.length->(∀i (hi:i<as.length) (hj:i<bs.length),R as[i] bs[i])->aN R as bs
 | [], [],_,_=>trivial
 |a::as,b::bs,hl,h=>⟨h 0 (by simp) (by simp),aN.eM (by simpa using hl) λi hi hj=>h (i+1) (by simpa using hi) (by simpa using hj)⟩
 | [],_::_,hl,_=>by simp at hl
 |_::_, [],hl,_=>by simp at hl
theorem aN.set {α β:Type}{R:α->β->Prop}: ∀{as:List α} {bs:List β},aN R as bs-> ∀(i:Nat) {a:α} {b:β},R a b->aN R (as.set i a) (bs.set i b)
 | [], [],_,_,_,_,_=>trivial
 |_::_,_::_,h,0,_,_,r=>⟨r,h.2⟩
 |_::_,_::_,h,i+1,_,_,r=>⟨h.1,aN.set h.2 i r⟩
 | [],_::_,h,_,_,_,_=>h.elim
 |_::_, [],h,_,_,_,_=>h.elim
def SR (h:H)(v:V)(ll:List (List Int)):Prop:= ∃ws,SV h v 1 ws/\aN (SI h) ws ll
theorem SR.aD (h:H):SR h .aD []:=⟨[],SV.aD h 1,trivial⟩
theorem SR.mono (s:SR h v ll)(f:Fr h h'):SR h' v ll:=by
 obtain⟨ws,s,a⟩:=s;exact⟨ws,s.mono f,a.mono λ_ _ x=>x.mono f⟩
theorem SR.open (s:SR h v ll): ∃id off ws,Sl v 1 ll.length id off/\(0<ll.length->id<h.next)/\ws.length=ll.length/\(∀i:Nat,i<ll.length->h.cell id (off+i)=some (ws.getD i .undef))/\aN (SI h) ws ll:=by
 obtain⟨ws,s,a⟩:=s;have c:=a.length;obtain⟨id,off,d,f,e⟩:=s.shape ll.length (by rw[c,tW]) om;refine⟨id,off,ws,d,f,c,λi g=>?_,a⟩;rw[e i om,OU,dD om];rfl
theorem SR.len (s:SR h v ll):wZ v=some ll.length:=by
 obtain⟨id,off,ws,a,_⟩:=s.open;exact a.len
theorem SR.lens (s:SR h v ll):bL v=some (.int .i64 (ll.length:Int)):=by unfold bL;rw[s.len];rfl
theorem FJ (a:aN (SI h) ws ll){i:Nat}(hi:i<ll.length):SI h (ws.getD i .undef) (ll.getD i []):=by
 have c:=a.length;rw[OU,dD om,OU,dD hi];exact a.get i om hi
def dH (h:H)(v:V)(sz:Nat)(ws:List V)(b:Nat):Prop:=v= .aD/\ws= []∨
 ∃id n cap rest,v= .sl id 0 n cap/\ws.length=n*sz/\(cap= .un sz∨cap= .kn n/\rest= [])/\b<=id/\id<h.next/\h.get id=some (.cells false (ws++rest))
theorem dH.aD (h:H)(sz b:Nat):dH h .aD sz [] b:= .inl ⟨rfl,rfl⟩
theorem dH.new (h:H)(sz n b:Nat)(ws:List V)(a:ws.length=n*sz)(c:b<=h.next):dH (h.new (.cells false ws)) (.sl h.next 0 n (.kn n)) sz ws b:=
 .inr ⟨h.next,n,_, [],rfl,a,.inr ⟨rfl,rfl⟩,c,by rw[H.aW];omega,by rw[H.aL,tZ]⟩
theorem dH.sv (o:dH h v sz ws b):SV h v sz ws:=by
 rcases o with o|⟨id,n,c,a,rfl,d,_,_,f,e⟩
 ·exact .inl ⟨.inl o.1,o.2⟩
 ·exact .inr ⟨id,0,n,c,false,ws++a,rfl,d,f,e,by rw[iV];omega,by rw[List.drop_zero,←d,List.take_left]⟩
theorem dH.le {c:Nat}(o:dH h v sz ws b)(j:c<=b):dH h v sz ws c:=by
 rcases o with o|⟨id,n,d,a,i,e,g,f,k⟩
 ·exact .inl o
 ·exact .inr ⟨id,n,d,a,i,e,g,mY j f,k⟩
def dR (v:V)(k:Nat):Prop:= ∀id off n c,v= .sl id off n c->k≠id
theorem dR.aD (k:Nat):dR .aD k:=λ_ _ _ _ h=>by cases h
theorem dR.sl {k:Nat}{c:pY}(h:k≠id):dR (.sl id off n c) k:=λ_ _ _ _ e=>by cases e;exact h
theorem dH.mono (o:dH h v sz ws b)(i:h.next<=h'.next)(m: ∀id off n c,v= .sl id off n c->b<=id->id<h.next->h'.get id=h.get id):dH h' v sz ws b:=by
 rcases o with o|⟨id,n,a,d,rfl,g,j,e,f,k⟩
 ·exact .inl o
 ·exact .inr ⟨id,n,a,d,rfl,g,j,e,jM f i,by rw[m id 0 n a rfl e f];exact k⟩
theorem dH.fr {h h':H}{v:V}{sz:Nat}{ws:List V}{b:Nat}(o:dH h v sz ws b)(f:Fr h h'):dH h' v sz ws b:=
 o.mono f.next λid _ _ _ _ _ a=>f.get id a
structure afK (h:H)(x:V)(sz n m:Nat)(ws us:List V)(b:Nat)(v:V)(h':H):Prop where
 own:dH h' v sz (ws++us) b
 next:h.next<=h'.next
 get: ∀k,k<h.next->dR x k->h'.get k=h.get k
 fr: ∀a,Fr a h->a.next<=b->Fr a h'
 cT:m=0/\v=x∨ ∃id,v= .sl id 0 (n+m) (.un sz)/\b<=id/\id<h'.next/\h'.get id=some (.cells false (ws++us))
theorem dH.Fj {h:H}{x:V}{sz bytes b:Nat}{ws us:List V}(o:dH h x sz ws b)(w:b<=h.next){n m:Nat}(q:ws.length=n*sz)(N:us.length=m*sz)(y:0<sz)(e:(2*(n+m)+1000)*bytes<=2^48/\n+m<2^62):
  ∃v h',Fj h sz bytes x m us=some (v,h')/\afK h x sz n m ws us b v h':=by
 have s:=o.sv
 have i:=s.len q y
 have p:=s.slice
 unfold Ay.Fj
 simp only[i,p]
 by_cases j:m=0
 ·subst j
  have L:us= []:=ON om
  subst L
  rw[bJ rfl]
  exact⟨x,h,rfl,by rw[tZ];exact o,dT _,λ_ _ _=>rfl,λ_ f _=>f,.inl ⟨rfl,rfl⟩⟩
 ·rw[bU j,bJ e]
  have c: ∀g:H,g.next=h.next->(∀k,k<h.next->dR x k->g.get k=h.get k)->(∀a,Fr a h->a.next<=b->Fr a g)-> ∃v h',some (V.sl h.next 0 (n+m) (.un sz),g.new (.cells false (ws++us)))=some (v,h')/\afK h x sz n m ws us b v h':=by
   intro g t J P;refine⟨_,_,rfl,.inr ⟨h.next,n+m,.un sz, [],rfl,by rw[iV,q,N,Nat.add_mul],.inl rfl,w,by rw[H.aW];omega,by rw[←t,H.aL,tZ]⟩,by rw[H.aW];omega,λk r d=>?_,λa f d=>(P a f d).new _,.inr ⟨_,rfl,w,by rw[H.aW];omega,by rw[←t,H.aL]⟩⟩;rw[H.bG g om];exact J k r d
  rcases o with ⟨rfl,rfl⟩|⟨id,A,K,z,rfl,B,G,F,Q,O⟩
  ·exact c h rfl (λ_ _ _=>rfl) (λ_ f _=>f)
  ·have:A=n:=Nat.eq_of_mul_eq_mul_right y (B.symm.trans q)
   subst this
   rcases G with rfl|⟨rfl,rfl⟩
   ·simp only[O,if_true]
    exact c (h.set id none) rfl (λk r d=>H.aH h (d id 0 A _ rfl) none) (λa f d=>f.set (mY d F) none)
   ·simp only
    rw[bU om]
    exact c h rfl (λ_ _ _=>rfl) (λ_ f _=>f)
theorem dH.app {y:V}(o:dH h x sz ws b)(i:b<=h.next)(d:SV h y sz us){m:Nat}(f:ws.length=n*sz)(e:us.length=m*sz)(c:0<sz)(a:(2*(n+m)+1000)*bytes<=2^48/\n+m<2^62):
  ∃v h',zK h sz bytes x y=some (v,h')/\afK h x sz n m ws us b v h':=by
 have g:zK h sz bytes x y=Ay.Fj h sz bytes x m us:=by
  simp only[zK,d.len e c,d.slice]
 rw[g]
 exact o.Fj i f e c a
theorem uM {zero:List V}{j k:IntKind}{l c:Int}(d:0<=l)(a:l<=c)(h2:c*bytes<=281474976710656)(h3:c<4611686018427387904):
  Jz h sz bytes zero (.int j l) (.int k c)=some (.sl h.next 0 l.toNat (.kn c.toNat),h.new (.cells false (dP zero (c.toNat*sz)))):=by
 simp only[Jz];rw[bJ ⟨d,a,h2,h3⟩]
theorem Jk (n:Nat):dP [.int .i64 0] n=ints (List.replicate n 0):=by
 rw[Qk];unfold dP;apply List.ext_getElem
 ·simp
 ·intro i a c
  simp [Nat.mod_one]
theorem PQ (h:H)(sz:Nat)(zero:List V):mH h sz zero 0 []=some (.sl h.next 0 0 (.kn 0),h.new (.cells false [])):=by
 simp [mH,iK,dP]
theorem SV.cT (s:SV h v sz ws):v.cells= [v]/\v.one=true/\ ∀k n,v≠ .int k n:=by
 rcases s with ⟨rfl|⟨a,rfl⟩,_⟩|⟨id,off,len,c,ro,d,rfl,_⟩
 ·exact⟨rfl,rfl,λk n h=>by cases h⟩
 ·exact⟨rfl,rfl,λk n h=>by cases h⟩
 ·exact⟨rfl,rfl,λk n h=>by cases h⟩
theorem SV.XY (s:SV h v sz ws)(h':H)(id off:Nat):Wz h' 1 (.ptr id off) v=eU (h'.get id) h' id off [v]:=kP s.cT.1 s.cT.2.1 h' id off
theorem SI.other (s:SI h v l)(g:l≠ []){P:Nat}(A:h.get P=some (.cells ro ws))(t: ∀(i:Nat) (w:V),ws[i]? =some w-> ∀k n,w≠ .int k n)(o:Option Ob):SI (h.set P o) v l:=by
 rcases s with ⟨_,y⟩|⟨id,off,len,c,d,p,m,q,r,f,z,j⟩
 ·exact absurd (Yy (y.trans RS.symm)) g
 ·by_cases e:id=P
  ·subst e
   rw[A] at f;cases f
   cases l with
   |nil=>exact absurd rfl g
   |cons a l=>
    have:((ws.drop off).take (len*1))[0]? =some (.int .i64 a):=by rw[j];rfl
    rw[List.getElem?_take] at this;split at this
    ·rw[List.getElem?_drop] at this
     exact absurd rfl (t _ _ this _ _)
    ·cases this
  ·exact .inr ⟨id,off,len,c,d,p,m,q,r,by rw[H.aH h e];exact f,z,j⟩
def Dis (v u:V):Prop:= ∀i o n c,v= .sl i o n c-> ∀i' o' n' c',u= .sl i' o' n' c'->i≠i'
theorem dH.Rh (x:dH h v sz ws b)(y:dH h' u sz us h.next):Dis v u:=by
 intro i o n c e s t A w a;rcases x with ⟨d,_⟩|⟨id,k,q,m,d,_,_,_,r,_⟩
 ·rw[d] at e;cases e
 ·rw[d] at e;cases e
  rcases y with ⟨f,_⟩|⟨p,z,j,g,f,_,_,B,_⟩
  ·rw[f] at a;cases a
  ·rw[f] at a;cases a
   omega
theorem dH.set {P:Nat}(x:dH h v sz ws b)(c:P<b)(o:Option Ob):dH (h.set P o) v sz ws b:=
 x.mono (dT _) λid _ _ _ _ a _=>H.aH h om o
theorem WZ {z1 z2:V}(e:v.cells= [v])(a:v.one=true)(d:u.cells= [u])(c:u.one=true):qU [z1,z2] [(0,1,v),(1,1,u)]=some (.agg [v,u]):=by
 have g:putAt [z1,z2] 0 [v]=some [v,z2]:=by simp [putAt]
 have f:putAt [v,z2] 1 [u]=some [v,u]:=by simp [putAt]
 simp only[qU,iK,e,d,List.length_singleton,List.all_cons,List.all_nil,a,c,Bool.and_self,and_self,if_true,g,f,Option.map_some]
theorem LK (z:List V):qU z []=some (.agg z):=rfl
theorem qP (h:H)(a:v.one=true)(c:u.one=true):Ce h (.agg [v,u])=some (.ptr h.next 0,h.new (.cells false [v,u])):=lG h _ (by simp [a,c])
theorem vB (h:H)(id off:Nat)(a:v.one=true)(c:u.one=true):Wz h 2 (.ptr id off) (.agg [v,u])=eU (h.get id) h id off [v,u]:=Di h id off 2 _ rfl (by simp [a,c])
theorem Hy {y:V}(h:H)(id:Nat):eU (some (.cells false [x,y])) h id 0 [v,u]=some (h.set id (some (.cells false [v,u]))):=by
 simp [eU,putAt]
def okE (h:H)(j:I)(v:V):Bool:=match fC (xv [] []) h j with|some (u,_)=>dI u v|none=>false
theorem DS (cks:List Nat)(k:Nat)(j:I)(v:V)(a:Log)(h:H):qG cks ((k,j,v)::a) h=((!cks.contains k||okE h j v)&&qG cks a h):=rfl
theorem Xt (cks:List Nat)(h:H):qG cks [] h=true:=rfl
def SW (o:Option V)(v:V):Bool:=match o with|some u=>dI u v|none=>false
theorem XG (u v:V):SW (some u) v=dI u v:=rfl
theorem ZI (h:H)(x v:V):okE h (.ld false 1 (.c x)) v=SW (Pu h x) v:=by
 unfold okE;rw[Wx,ahQ];cases Pu h x<;>rfl
theorem ZT (h:H)(n:Nat)(x v:V):okE h (.ld true n (.c x)) v=SW (CZ h n x) v:=by
 unfold okE;rw[FY,ahQ];cases CZ h n x<;>rfl
theorem aaL (k:IntKind)(a:Int):dI (.int k a) (.int k a)=true:=by simp [dI]
theorem VS (a:Bool):dI (.bool a) (.bool a)=true:=by simp [dI]
theorem ZQ (a b:Nat):dI (.ptr a b) (.ptr a b)=true:=by simp [dI]
theorem adK (a b:List V):dI (.agg a) (.agg b)=tG a b:=by simp [dI]
theorem VM:tG [] []=true:=by simp [tG]
theorem LQ (a b:V)(d c:List V):tG (a::d) (b::c)=(dI a b&&tG d c):=by simp [tG]
theorem SV.dI {h:H}{v:V}{sz:Nat}{ws:List V}(s:SV h v sz ws):dI v v=true:=by
 rcases s with ⟨rfl|⟨a,rfl⟩,_⟩|⟨id,off,len,c,ro,d,rfl,_⟩<;>simp [Ay.dI]
theorem ZZ (i:Nat)(d:D)(g:Option (X×Bool))(j:I)(al:Bool)(cks:List Nat)(a:List V)(v:V)(c:Log):Kr ⟨i,⟨d,g,.op j⟩,al,cks⟩ a v c=if j.tM then (i,j.close (xv a []),v)::c else c:=rfl
theorem MP (i:Nat)(d:D)(g:Option (X×Bool))(f:Nat)(xs:List X)(al:Bool)(cks:List Nat)(a:List V)(v:V)(c:Log):Kr ⟨i,⟨d,g,.call f xs⟩,al,cks⟩ a v c=c:=rfl
theorem BS (i:Nat)(d:D)(g:Option (X×Bool))(f:X)(xs:List X)(al:Bool)(cks:List Nat)(a:List V)(v:V)(c:Log):Kr ⟨i,⟨d,g,.callv f xs⟩,al,cks⟩ a v c=c:=rfl
attribute [go_sem] DS Xt XG ZI ZT aaL VS ZQ adK VM LQ ZZ MP BS I.tM I.close List.contains_cons List.contains_nil Nat.reduceBEq Bool.or_false Bool.false_or Bool.or_true Bool.true_or Bool.and_true Bool.true_and
def aeW (o:Option (V×H))(m:Nat):Option (V×H):=match o with|some (v,h')=>some (v,H.mk h'.tr m)|none=>none
theorem adG (a:List V)(h:H)(n:Nat)(i:I):Kw a h n (.op i)=aeW (fC (xv a []) (H.mk h.tr n) i) h.next:=rfl
theorem CR (v:V)(h':H)(m:Nat):aeW (some (v,h')) m=some (v,H.mk h'.tr m):=rfl
attribute [go_sem] adG CR
def ajO (l:List V):Nat->V:=λi=>l.getD i .undef
theorem aB {L:List V}{F:(Nat->V)->List V}(h:L=F (ajO L)): ∃g,L=F g:=⟨ajO L,h⟩
theorem Sb {l:List Int}{off:Nat}(a:off<l.length)(h:H)(id:Nat)(x:Int):eU (some (.cells false (ints l))) h id off [.int .i64 x]=some (h.set id (some (.cells false (ints (l.set off x))))):=by
 rw[bT (by rw[aP];exact a),ints_set]
attribute [go_sem] DK Int.toNat_zero Int.toNat_one Nat.add_zero Nat.zero_add
attribute [go_sem] LK Hy List.getElem?_cons_zero List.getElem?_cons_succ List.getElem?_nil
attribute [go_sem] Sb aP ints_set uM Jk PQ tW Nat.mul_zero
theorem Qn:(∀{a:Type} (l:List a) (i:Nat) (x:a),(l.set i x).length=l.length)/\(∀{a:Type} (n:Nat) (x:a),(List.replicate n x).length=n)/\(∀{a:Type} (l m:List a),(l++m).length=l.length+m.length)/\(∀{a:Type} (i:Nat) (l:List a),(l.take i).length=min i l.length)/\(∀{a:Type} (i:Nat) (l:List a),(l.drop i).length=l.length-i)/\(∀{a:Type} (x:a) (l:List a),(x::l).length=l.length+1)/\(∀{a:Type},([]:List a).length=0)/\(∀{a b:Type} (f:a->b) (l:List a),(l.map f).length=l.length)/\(∀n:Nat,(List.range n).length=n)/\(∀l:List Int,(ints l).length=l.length):=
 ⟨λ_ _ _=>List.length_set ..,λ_ _=>List.length_replicate ..,λ_ _=>iV ..,λ_ _=>zO ..,λ_ _=>Gb ..,λ_ _=>rfl,rfl,λ_ _=>iA ..,λ_=>Xf ..,λ_=>aP _⟩
end
end Go.Ay
