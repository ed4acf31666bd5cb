/- Each operation of the intermediate code is the model's. -/
import Derived.Test.YtcdbmkidaecdiaaGreatAy4
namespace Go.Ay
open Go
section
variable {v:V} {x:Value} {k:IntKind} {n sz:Nat} {xlo xhi:Option Value}
def Yields (P:Program)(o:Oper)(a:Act)(w:World)(x:Value)(w':World):Prop:=
 (execOp a.eval o).run P w= .ok (.value x) w'∨((execOp a.eval o).run P w= .ok .skip w'/\x=undef)
section
variable {P:Program} {m:M} {h:H} {w:World}
def aT (P:Program)(m:M)(h:H)(w:World)(s:Sem Value)(v:V)(h':H):Prop:=
 ∃x w' m',s.run P w= .ok x w'/\VR m' v x/\iO P m h w m' h' w'
theorem aT.still (a:HR P m h w)(c:Al m h.next){s:Sem Value}(b:s.run P w= .ok x w)(h2:VR m v x):aT P m h w s v h:=
 ⟨x,w,m,b,h2,iO.refl a c⟩
theorem Zm {op:BinOp}{a b:Int}(c:arith op k a b=some v)(t:TypeId): ∃x,(binOp op t (.int k a) (.int k b)).run P w= .ok x w/\VR m v x:=by
 cases op<;>simp only[arith] at c<;>first
  |(cases c;done)
  |(cases c;exact⟨_,by simp [binOp,Op.intArith,Op.intCmp,Op.intBits];done,rfl⟩)
  |(split at c
    ·cases c
    ·rename_i d
     cases c
     exact⟨_,by simp [binOp,Op.intDiv,d],rfl⟩)
theorem DC {op:BinOp}{a b:Int}{j:IntKind}(c:GS op k a b=some v)(t:TypeId): ∃x,(binOp op t (.int k a) (.int j b)).run P w= .ok x w/\VR m v x:=by
 unfold GS at c;split at c
 ·cases c
 ·rename_i d
  cases op<;>simp only at c<;>first
   |(cases c;done)
   |(cases c;exact⟨_,by simp [binOp,Op.shift,d],rfl⟩)
theorem Jz (op:BinOp)(t:TypeId)(x y:Operand)(k:IntKind)(a:Int)(b:Value):(eqGuard op t x y (.int k a) b).run P w= .ok () w:=by
 unfold eqGuard;cases op<;>simp
theorem Ts (op:BinOp)(t:TypeId)(x y:Operand)(a:Bool)(b:Value):(eqGuard op t x y (.bool a) b).run P w= .ok () w:=by
 unfold eqGuard;cases op<;>simp
theorem vJ (op:BinOp)(t:TypeId)(x y:Operand)(a:Option Addr)(n c:Nat)(b:Value):(eqGuard op t x y (.slice a n c) b).run P w= .ok () w:=by
 unfold eqGuard;cases op<;>simp
theorem VR.int {n:Int}(h:VR m (.int k n) x):x= .int k n:=h
theorem tW (b:VR m v x)(d:sW v=some n): ∃a c,x= .slice a n c:=by
 cases v<;>simp only[sW] at d<;>try cases d
 ·obtain⟨p,c,f,_,rfl,_⟩:=b;exact⟨_,_,rfl⟩
 ·exact⟨none,0,b⟩
 ·exact⟨some _,0,b⟩
theorem Km (A:HR P m h w){ws:List V}(l:VR m v x)(q:sW v=some n)(a:h.slice sz v=some ws):
  ∃xs:List Value,(∀d,(Builtin.firstCells sz n x).run P {w with drawn:=d}= .ok xs.toArray {w with drawn:=d})/\gZ m ws xs/\(∀u∈ws,u.one=true)/\xs.length=n*sz:=by
 cases v<;>simp only[sW] at q<;>try cases q
 ·rename_i id y F
  simp only[H.slice] at a
  obtain⟨p,c,o,fr,t,s,_,i,f,B⟩:=Cn A a
  obtain⟨K,J,G,b,rfl,_,z,_⟩:=l
  rw[t] at b;cases b
  by_cases j:0<n
  ·obtain rfl:=z j
   exact⟨_,λd=>lE (w:={w with drawn:=d}) s i,f,B,by simp;omega⟩
  ·obtain rfl:n=0:=om
   have r:ws= []:=WJ (by rw[gZ.length f];simp)
   subst r
   exact⟨[],λd=>by simp only[Builtin.firstCells,Nat.zero_mul,loadCells,loadCellsFrom];rfl,trivial,by simp,by simp⟩
 ·simp only[H.slice] at a
  cases a
  obtain rfl:x= .slice none 0 0:=l
  exact⟨[],λd=>by simp [Builtin.firstCells],trivial,by simp,by simp⟩
 ·simp only[H.slice] at a
  cases a
  obtain rfl:x= .slice (some _) 0 0:=l
  exact⟨[],λd=>by simp only[Builtin.firstCells,Nat.zero_mul,loadCells,loadCellsFrom];rfl,trivial,by simp,by simp⟩
theorem KM {n:Int}{y:Nat}{a:BoundsCode}(b:0<=n)(c:n<=y):(Instr.sliceBound (.int k n) y a).run P w= .ok n.toNat w:=by
 simp [Instr.sliceBound,asIntOf,b,c]
def DV (m:M)(o:Option V)(x:Option Value):Prop:=match o,x with|none,none=>True|some v,some x=>VR m v x|_,_=>False
def Iv (xo:Option Value)(d top:Nat)(code:BoundsCode):Sem Nat:=match xo with|some v=>Instr.sliceBound v top code|none=>pure d
theorem mD {o:Option V}{f:Option Value}(i:DV m o f){d b r:Nat}(a:oG o d b=some r)(c:BoundsCode):
  (Iv f d b c).run P w= .ok r w:=by
 cases o with
 |none=>
  cases f with
  |none=>simp only[oG] at a;cases a;rfl
  |some x=>exact i.elim
 |some v=>
  cases f with
  |none=>exact i.elim
  |some x=>
   cases v<;>simp only[oG] at a<;>try cases a
   rename_i k n;split at a
   ·rename_i j
    cases a;obtain rfl:x= .int k n:=i;exact KM j.1 j.2
   ·cases a
theorem pE {len c l b:Nat}(a:(Iv xhi len c .sliceAcap).run P w= .ok b w)(r2:(Iv xlo 0 b .sliceB).run P w= .ok l w):
  (Instr.sliceBounds true len c xlo xhi none).run P w= .ok (l,b,c) w:=by
 cases xhi with
 |none=>
  cases xlo with
  |none=>simp only[Iv,Sem.run_pure] at a r2;cases a;cases r2;simp [Instr.sliceBounds]
  |some y=>simp only[Iv,Sem.run_pure] at a r2;cases a;simp [Instr.sliceBounds,r2]
 |some z=>
  cases xlo with
  |none=>simp only[Iv,Sem.run_pure] at a r2;cases r2;simp [Instr.sliceBounds,a]
  |some y=>simp only[Iv] at a r2;simp [Instr.sliceBounds,a,r2]
theorem Et {len c l b:Nat}(a:(Iv xhi len c .sliceAlen).run P w= .ok b w)(r2:(Iv xlo 0 b .sliceB).run P w= .ok l w):
  (Instr.sliceBounds false len c xlo xhi none).run P w= .ok (l,b,c) w:=by
 cases xhi with
 |none=>
  cases xlo with
  |none=>simp only[Iv,Sem.run_pure] at a r2;cases a;cases r2;simp [Instr.sliceBounds]
  |some y=>simp only[Iv,Sem.run_pure] at a r2;cases a;simp [Instr.sliceBounds,r2]
 |some z=>
  cases xlo with
  |none=>simp only[Iv,Sem.run_pure] at a r2;cases r2;simp [Instr.sliceBounds,a]
  |some y=>simp only[Iv] at a r2;simp [Instr.sliceBounds,a,r2]
theorem uI {o:Option V}{d b r:Nat}(a:oG o d b=some r)(c:d<=b):r<=b:=by
 unfold oG at a;split at a
 ·cases a;exact c
 ·split at a
  ·rename_i f;cases a;omega
  ·cases a
 ·cases a
theorem IJ (q:HR P m h w)(s:Al m h.next){t e:TypeId}(o:P.underlying t=some (.array n e))(z:iV P e=some sz)
  {id off:Nat} {u:V}  {f hi:Option V}  (A:VR m (.ptr id off) x) (d:DV m f xlo) (i:DV m hi xhi) (b:xT sz (.sl id off n (.kn n)) f hi none=some u):
  aT P m h w (Instr.sliceAt t x xlo xhi none) u h:=by
 have c:=uP (w:=w) z
 obtain⟨p,j,rfl⟩:=A
 simp only[xT] at b
 cases ehh:oG hi n n with
 |none=>simp [ehh] at b
 |some hh=>
  simp only[ehh] at b
  cases el:oG f 0 hh with
  |none=>simp [el] at b
  |some l=>
   simp only[el] at b;have r:=uI ehh (fM _);have B:=uI el (iJ _);have y:=Et (P:=P) (w:=w) (mD i ehh .sliceAlen) (mD d el .sliceB);split at b
   ·cases b
    by_cases a:n=l
    ·rw[bF a]
     refine⟨.slice (some ⟨p.1,p.2.1+off,none⟩) (hh-l) (n-l),w,m,?_,⟨p,_,_,j,rfl,om,λ_=>rfl,rfl,rfl⟩,iO.refl q s⟩;simp only[Instr.sliceAt,Sem.run_bind,run_underlying o,Result.andThen_ok,Instr.sureAddr,y,c,Sem.run_pure,bF a]
    ·rw[bI a]
     refine⟨.slice (some ⟨p.1,p.2.1+(off+l*sz),none⟩) (hh-l) (n-l),w,m,?_,⟨p,_,_,j,rfl,om,λ_=>rfl,rfl,rfl⟩,iO.refl q s⟩;simp only[Instr.sliceAt,Sem.run_bind,run_underlying o,Result.andThen_ok,Instr.sureAddr,y,c,Sem.run_pure,bI a,Option.map_some,Ew,Nat.add_assoc]
   ·cases b
theorem JD (z:HR P m h w)(A:Al m h.next){t e:TypeId}(s:P.underlying t=some (.slice e))(hs:iV P e=some sz)
  {u:V}  {K hi L:Option V} {i:Option Value} (Z:VR m v x) (r:DV m K xlo) (o:DV m hi xhi) (F:DV m L i) (a:xT sz v K hi L=some u):
  aT P m h w (Instr.sliceAt t x xlo xhi i) u h:=by
 have f:=uP (w:=w) hs
 cases v<;>simp only[xT] at a<;>try cases a
 ·rename_i id a0 len Q
  obtain⟨p,c,q,G,rfl,O,ho,d⟩:=Z
  cases L with
  |some _=>cases a
  |none=>
   cases i with
   |some _=>exact F.elim
   |none=>
    cases Q with
    |kn k=>
     simp only at d a;obtain⟨d,rfl⟩:=d;subst d
     cases ehh:oG hi len c with
     |none=>simp [ehh] at a
     |some hh=>
      simp only[ehh] at a
      cases el:oG K 0 hh with
      |none=>simp [el] at a
      |some l=>
       simp only[el] at a;have B:=uI ehh O;have N:=uI el (iJ _);have j:=pE (P:=P) (w:=w) (mD o ehh .sliceAcap) (mD r el .sliceB);split at a
       ·cases a
        by_cases b:c=l
        ·rw[bF b]
         refine⟨.slice (some ⟨p.1,p.2.1+q,none⟩) (hh-l) (c-l),w,m,?_,⟨p,_,_,G,rfl,om,λ_=>rfl,rfl,rfl⟩,iO.refl z A⟩;simp only[Instr.sliceAt,Sem.run_bind,run_underlying s,Result.andThen_ok,Instr.slice,j,f,Sem.run_pure,bF b]
        ·rw[bI b]
         refine⟨.slice (some ⟨p.1,p.2.1+(q+l*sz),none⟩) (hh-l) (c-l),w,m,?_,⟨p,_,_,G,rfl,om,λ_=>rfl,rfl,rfl⟩,iO.refl z A⟩;simp only[Instr.sliceAt,Sem.run_bind,run_underlying s,Result.andThen_ok,Instr.slice,j,f,Sem.run_pure,bI b,Option.map_some,Ew,Nat.add_assoc]
       ·cases a
    |un e=>
     simp only at d a
     cases ehh:oG hi len len with
     |none=>simp [ehh] at a
     |some hh=>
      simp only[ehh] at a
      cases el:oG K 0 hh with
      |none=>simp [el] at a
      |some l=>
       simp only[el] at a;have B:=uI ehh (fM _);have N:=uI el (iJ _)
       have R:oG hi len c=some hh:=by
        cases hi with
        |none=>exact ehh
        |some y=>
         cases y<;>simp only[oG] at ehh ⊢ <;>try cases ehh
         rename_i k n;split at ehh
         ·rename_i hc;cases ehh
          rw[bF ⟨hc.1,om⟩]
         ·cases ehh
       have j:=pE (P:=P) (w:=w) (mD o R .sliceAcap) (mD r el .sliceB)
       by_cases J:e=sz
       ·subst J
        rw[bF rfl] at a
        by_cases Y:l<len
        ·rw[bF Y] at a
         cases a;have b:c≠l:=om
         obtain rfl:=ho om;refine⟨.slice (some ⟨p.1,p.2.1+(q+l*e),none⟩) (hh-l) (c-l),w,m,?_,⟨p,_,_,G,rfl,om,λ_=>rfl,?_⟩,iO.refl z A⟩
         ·simp only[Instr.sliceAt,Sem.run_bind,run_underlying s,Result.andThen_ok,Instr.slice,j,f,Sem.run_pure,bI b,Option.map_some,Ew,Nat.add_assoc]
         ·simp only
          have:(c-l)*e+l*e=c*e:=by rw[←Nat.add_mul];congr 1;omega
          omega
        ·rw[bI Y] at a
         cases a;obtain rfl:hh=l:=om
         by_cases b:c=hh
         ·refine⟨.slice (some ⟨p.1,p.2.1+q,none⟩) (hh-hh) (c-hh),w,m,?_,⟨p,_,q,G,by rw[Nat.sub_self],om,λh=>om,?_⟩,iO.refl z A⟩
          ·simp only[Instr.sliceAt,Sem.run_bind,run_underlying s,Result.andThen_ok,Instr.slice,j,f,Sem.run_pure,bF b]
          ·simp only
           have:(c-hh)*e<=c*e:=Nat.mul_le_mul_right _ om;omega
         ·refine⟨.slice (some ⟨p.1,p.2.1+(q+hh*e),none⟩) (hh-hh) (c-hh),w,m,?_,⟨p,_,q+hh*e,G,by rw[Nat.sub_self],om,λh=>om,?_⟩,iO.refl z A⟩
          ·simp only[Instr.sliceAt,Sem.run_bind,run_underlying s,Result.andThen_ok,Instr.slice,j,f,Sem.run_pure,bI b,Option.map_some,Ew,Nat.add_assoc]
          ·simp only
           have:(c-hh)*e+hh*e=c*e:=by rw[←Nat.add_mul];congr 1;omega
           omega
       ·rw[bI J] at a;cases a
 ·cases L with
  |some _=>simp at a
  |none=>
   cases i with
   |some _=>exact F.elim
   |none=>
    obtain rfl:x= .slice none 0 0:=Z
    cases ehh:oG hi 0 0 with
    |none=>simp [ehh] at a
    |some hh=>
     simp only[ehh] at a
     cases el:oG K 0 hh with
     |none=>simp [el] at a
     |some l=>
      simp only[el] at a;cases a;have j:=pE (P:=P) (w:=w) (mD o ehh .sliceAcap) (mD r el .sliceB);have W:hh=0:=by have:=uI ehh (fM _);omega
      subst W;have U:l=0:=by have:=uI el (fM _);omega
      subst U;refine aT.still z A (x:= .slice none 0 0) ?_ rfl;simp [Instr.sliceAt,run_underlying s,Instr.slice,j,f]
end
end
end Go.Ay
