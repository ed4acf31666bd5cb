/- Each operation of the intermediate code is the model's. -/
import Derived.Test.YtcdbmkidaecdiaaGreatAy4
namespace Go.Ay
open Go
section
variable {v:V} {x:Value} {k:IntKind} {n sz:Nat} {xlo xhi:Option Value}
def Yields (P:Program)(o:Oper)(a:Act)(w:World)(x:Value)(w':World):Prop:=
 (execOp a.eval o).run P w= .ok (.value x) w'∨((execOp a.eval o).run P w= .ok .skip w'/\x=undef)
section
variable {P:Program} {m:M} {h:H} {w:World}
def aT (P:Program)(m:M)(h:H)(w:World)(s:Sem Value)(v:V)(h':H):Prop:=
 ∃x w' m',s.run P w= .ok x w'/\VR m' v x/\iO P m h w m' h' w'
theorem aT.still (b:HR P m h w)(c:gK m h.next){s:Sem Value}(a:s.run P w= .ok x w)(h2:VR m v x):aT P m h w s v h:=
 ⟨x,w,m,a,h2,iO.refl b c⟩
theorem Zm {op:BinOp}{a b:Int}(c:arith op k a b=some v)(t:TypeId): ∃x,(binOp op t (.int k a) (.int k b)).run P w= .ok x w/\VR m v x:=by
 cases op<;>simp only[arith] at c<;>first
  |(cases c;done)
  |(cases c;exact⟨_,by simp [binOp,Op.intArith,Op.intCmp,Op.intBits];done,rfl⟩)
  |(split at c
    ·cases c
    ·rename_i d
     cases c
     exact⟨_,by simp [binOp,Op.intDiv,d],rfl⟩)
theorem DC {op:BinOp}{a b:Int}{j:IntKind}(c:Ew op k a b=some v)(t:TypeId): ∃x,(binOp op t (.int k a) (.int j b)).run P w= .ok x w/\VR m v x:=by
 unfold Ew at c;split at c
 ·cases c
 ·rename_i d
  cases op<;>simp only at c<;>first
   |(cases c;done)
   |(cases c;exact⟨_,by simp [binOp,Op.shift,d],rfl⟩)
theorem Jz (op:BinOp)(t:TypeId)(x y:Operand)(k:IntKind)(a:Int)(b:Value):(eqGuard op t x y (.int k a) b).run P w= .ok () w:=by
 unfold eqGuard;cases op<;>simp
theorem Ts (op:BinOp)(t:TypeId)(x y:Operand)(a:Bool)(b:Value):(eqGuard op t x y (.bool a) b).run P w= .ok () w:=by
 unfold eqGuard;cases op<;>simp
theorem vJ (op:BinOp)(t:TypeId)(x y:Operand)(a:Option Addr)(n c:Nat)(b:Value):(eqGuard op t x y (.slice a n c) b).run P w= .ok () w:=by
 unfold eqGuard;cases op<;>simp
theorem VR.int {n:Int}(h:VR m (.int k n) x):x= .int k n:=h
theorem tW (b:VR m v x)(d:sW v=some n): ∃a c,x= .slice a n c:=by
 cases v<;>simp only[sW] at d<;>try cases d
 ·obtain⟨p,c,e,_,rfl,_⟩:=b;exact⟨_,_,rfl⟩
 ·exact⟨none,0,b⟩
 ·exact⟨some _,0,b⟩
theorem Km (s:HR P m h w){ws:List V}(f:VR m v x)(l:sW v=some n)(a:h.slice sz v=some ws):
  ∃xs:List Value,(∀d,(Builtin.firstCells sz n x).run P {w with drawn:=d}= .ok xs.toArray {w with drawn:=d})/\gZ m ws xs/\(∀u∈ws,u.one=true)/\xs.length=n*sz:=by
 cases v<;>simp only[sW] at l<;>try cases l
 ·rename_i id z r
  simp only[H.slice] at a
  obtain⟨p,c,j,fr,q,y,_,i,b,t⟩:=Cn s a
  obtain⟨G,B,F,e,rfl,_,o,_⟩:=f
  rw[q] at e;cases e
  by_cases g:0<n
  ·obtain rfl:=o g
   exact⟨_,λd=>lE (w:={w with drawn:=d}) y i,b,t,by simp;omega⟩
  ·obtain rfl:n=0:=om
   have A:ws= []:=WJ (by rw[gZ.length b];simp)
   subst A
   exact⟨[],λd=>by simp only[Builtin.firstCells,Nat.zero_mul,loadCells,loadCellsFrom];rfl,trivial,by simp,by simp⟩
 ·simp only[H.slice] at a
  cases a
  obtain rfl:x= .slice none 0 0:=f
  exact⟨[],λd=>by simp [Builtin.firstCells],trivial,by simp,by simp⟩
 ·simp only[H.slice] at a
  cases a
  obtain rfl:x= .slice (some _) 0 0:=f
  exact⟨[],λd=>by simp only[Builtin.firstCells,Nat.zero_mul,loadCells,loadCellsFrom];rfl,trivial,by simp,by simp⟩
theorem KM {n:Int}{y:Nat}{a:BoundsCode}(b:0<=n)(c:n<=y):(Instr.sliceBound (.int k n) y a).run P w= .ok n.toNat w:=by
 simp [Instr.sliceBound,asIntOf,b,c]
def DV (m:M)(o:Option V)(x:Option Value):Prop:=match o,x with|none,none=>True|some v,some x=>VR m v x|_,_=>False
def Iv (xo:Option Value)(d top:Nat)(code:BoundsCode):Sem Nat:=match xo with|some v=>Instr.sliceBound v top code|none=>pure d
theorem mD {o:Option V}{e:Option Value}(f:DV m o e){d c r:Nat}(a:oG o d c=some r)(b:BoundsCode):
  (Iv e d c b).run P w= .ok r w:=by
 cases o with
 |none=>
  cases e with
  |none=>simp only[oG] at a;cases a;rfl
  |some x=>exact f.elim
 |some v=>
  cases e with
  |none=>exact f.elim
  |some x=>
   cases v<;>simp only[oG] at a<;>try cases a
   rename_i k n;split at a
   ·rename_i g
    cases a;obtain rfl:x= .int k n:=f;exact KM g.1 g.2
   ·cases a
theorem pE {len c l b:Nat}(a:(Iv xhi len c .sliceAcap).run P w= .ok b w)(r2:(Iv xlo 0 b .sliceB).run P w= .ok l w):
  (Instr.sliceBounds true len c xlo xhi none).run P w= .ok (l,b,c) w:=by
 cases xhi with
 |none=>
  cases xlo with
  |none=>simp only[Iv,Sem.run_pure] at a r2;cases a;cases r2;simp [Instr.sliceBounds]
  |some y=>simp only[Iv,Sem.run_pure] at a r2;cases a;simp [Instr.sliceBounds,r2]
 |some z=>
  cases xlo with
  |none=>simp only[Iv,Sem.run_pure] at a r2;cases r2;simp [Instr.sliceBounds,a]
  |some y=>simp only[Iv] at a r2;simp [Instr.sliceBounds,a,r2]
theorem Et {len c l b:Nat}(a:(Iv xhi len c .sliceAlen).run P w= .ok b w)(r2:(Iv xlo 0 b .sliceB).run P w= .ok l w):
  (Instr.sliceBounds false len c xlo xhi none).run P w= .ok (l,b,c) w:=by
 cases xhi with
 |none=>
  cases xlo with
  |none=>simp only[Iv,Sem.run_pure] at a r2;cases a;cases r2;simp [Instr.sliceBounds]
  |some y=>simp only[Iv,Sem.run_pure] at a r2;cases a;simp [Instr.sliceBounds,r2]
 |some z=>
  cases xlo with
  |none=>simp only[Iv,Sem.run_pure] at a r2;cases r2;simp [Instr.sliceBounds,a]
  |some y=>simp only[Iv] at a r2;simp [Instr.sliceBounds,a,r2]
theorem uI {o:Option V}{d b r:Nat}(a:oG o d b=some r)(c:d<=b):r<=b:=by
 unfold oG at a;split at a
 ·cases a;exact c
 ·split at a
  ·rename_i e;cases a;omega
  ·cases a
 ·cases a
theorem IJ (r:HR P m h w)(s:gK m h.next){t e:TypeId}(q:P.underlying t=some (.array n e))(z:iV P e=some sz)
  {id off:Nat} {u:V}  {g hi:Option V}  (y:VR m (.ptr id off) x) (d:DV m g xlo) (f:DV m hi xhi) (b:xT sz (.sl id off n (.kn n)) g hi none=some u):
  aT P m h w (Instr.sliceAt t x xlo xhi none) u h:=by
 have c:=fN (w:=w) z
 obtain⟨p,j,rfl⟩:=y
 simp only[xT] at b
 cases ehh:oG hi n n with
 |none=>simp [ehh] at b
 |some hh=>
  simp only[ehh] at b
  cases el:oG g 0 hh with
  |none=>simp [el] at b
  |some l=>
   simp only[el] at b;have o:=uI ehh (fM _);have A:=uI el (iJ _);have i:=Et (P:=P) (w:=w) (mD f ehh .sliceAlen) (mD d el .sliceB);split at b
   ·cases b
    by_cases a:n=l
    ·rw[bF a]
     refine⟨.slice (some ⟨p.1,p.2.1+off,none⟩) (hh-l) (n-l),w,m,?_,⟨p,_,_,j,rfl,om,λ_=>rfl,rfl,rfl⟩,iO.refl r s⟩;simp only[Instr.sliceAt,Sem.run_bind,run_underlying q,Result.andThen_ok,Instr.sureAddr,i,c,Sem.run_pure,bF a]
    ·rw[bI a]
     refine⟨.slice (some ⟨p.1,p.2.1+(off+l*sz),none⟩) (hh-l) (n-l),w,m,?_,⟨p,_,_,j,rfl,om,λ_=>rfl,rfl,rfl⟩,iO.refl r s⟩;simp only[Instr.sliceAt,Sem.run_bind,run_underlying q,Result.andThen_ok,Instr.sureAddr,i,c,Sem.run_pure,bI a,Option.map_some,kS,Nat.add_assoc]
   ·cases b
theorem JD (s:HR P m h w)(z:gK m h.next){t e:TypeId}(r:P.underlying t=some (.slice e))(Z:iV P e=some sz)
  {u:V}  {J hi K:Option V} {g:Option Value} (W:VR m v x) (j:DV m J xlo) (o:DV m hi xhi) (F:DV m K g) (a:xT sz v J hi K=some u):
  aT P m h w (Instr.sliceAt t x xlo xhi g) u h:=by
 have f:=fN (w:=w) Z
 cases v<;>simp only[xT] at a<;>try cases a
 ·rename_i id a0 len R
  obtain⟨p,c,q,A,rfl,U,ho,d⟩:=W
  cases K with
  |some _=>cases a
  |none=>
   cases g with
   |some _=>exact F.elim
   |none=>
    cases R with
    |kn k=>
     simp only at d a;obtain⟨d,rfl⟩:=d;subst d
     cases ehh:oG hi len c with
     |none=>simp [ehh] at a
     |some hh=>
      simp only[ehh] at a
      cases el:oG J 0 hh with
      |none=>simp [el] at a
      |some l=>
       simp only[el] at a;have B:=uI ehh U;have N:=uI el (iJ _);have i:=pE (P:=P) (w:=w) (mD o ehh .sliceAcap) (mD j el .sliceB);split at a
       ·cases a
        by_cases b:c=l
        ·rw[bF b]
         refine⟨.slice (some ⟨p.1,p.2.1+q,none⟩) (hh-l) (c-l),w,m,?_,⟨p,_,_,A,rfl,om,λ_=>rfl,rfl,rfl⟩,iO.refl s z⟩;simp only[Instr.sliceAt,Sem.run_bind,run_underlying r,Result.andThen_ok,Instr.slice,i,f,Sem.run_pure,bF b]
        ·rw[bI b]
         refine⟨.slice (some ⟨p.1,p.2.1+(q+l*sz),none⟩) (hh-l) (c-l),w,m,?_,⟨p,_,_,A,rfl,om,λ_=>rfl,rfl,rfl⟩,iO.refl s z⟩;simp only[Instr.sliceAt,Sem.run_bind,run_underlying r,Result.andThen_ok,Instr.slice,i,f,Sem.run_pure,bI b,Option.map_some,kS,Nat.add_assoc]
       ·cases a
    |un e=>
     simp only at d a
     cases ehh:oG hi len len with
     |none=>simp [ehh] at a
     |some hh=>
      simp only[ehh] at a
      cases el:oG J 0 hh with
      |none=>simp [el] at a
      |some l=>
       simp only[el] at a;have B:=uI ehh (fM _);have N:=uI el (iJ _)
       have Q:oG hi len c=some hh:=by
        cases hi with
        |none=>exact ehh
        |some y=>
         cases y<;>simp only[oG] at ehh ⊢ <;>try cases ehh
         rename_i k n;split at ehh
         ·rename_i hc;cases ehh
          rw[bF ⟨hc.1,om⟩]
         ·cases ehh
       have i:=pE (P:=P) (w:=w) (mD o Q .sliceAcap) (mD j el .sliceB)
       by_cases G:e=sz
       ·subst G
        rw[bF rfl] at a
        by_cases Y:l<len
        ·rw[bF Y] at a
         cases a;have b:c≠l:=om
         obtain rfl:=ho om;refine⟨.slice (some ⟨p.1,p.2.1+(q+l*e),none⟩) (hh-l) (c-l),w,m,?_,⟨p,_,_,A,rfl,om,λ_=>rfl,?_⟩,iO.refl s z⟩
         ·simp only[Instr.sliceAt,Sem.run_bind,run_underlying r,Result.andThen_ok,Instr.slice,i,f,Sem.run_pure,bI b,Option.map_some,kS,Nat.add_assoc]
         ·simp only
          have:(c-l)*e+l*e=c*e:=by rw[←Nat.add_mul];congr 1;omega
          omega
        ·rw[bI Y] at a
         cases a;obtain rfl:hh=l:=om
         by_cases b:c=hh
         ·refine⟨.slice (some ⟨p.1,p.2.1+q,none⟩) (hh-hh) (c-hh),w,m,?_,⟨p,_,q,A,by rw[Nat.sub_self],om,λh=>om,?_⟩,iO.refl s z⟩
          ·simp only[Instr.sliceAt,Sem.run_bind,run_underlying r,Result.andThen_ok,Instr.slice,i,f,Sem.run_pure,bF b]
          ·simp only
           have:(c-hh)*e<=c*e:=Nat.mul_le_mul_right _ om;omega
         ·refine⟨.slice (some ⟨p.1,p.2.1+(q+hh*e),none⟩) (hh-hh) (c-hh),w,m,?_,⟨p,_,q+hh*e,A,by rw[Nat.sub_self],om,λh=>om,?_⟩,iO.refl s z⟩
          ·simp only[Instr.sliceAt,Sem.run_bind,run_underlying r,Result.andThen_ok,Instr.slice,i,f,Sem.run_pure,bI b,Option.map_some,kS,Nat.add_assoc]
          ·simp only
           have:(c-hh)*e+hh*e=c*e:=by rw[←Nat.add_mul];congr 1;omega
           omega
       ·rw[bI G] at a;cases a
 ·cases K with
  |some _=>simp at a
  |none=>
   cases g with
   |some _=>exact F.elim
   |none=>
    obtain rfl:x= .slice none 0 0:=W
    cases ehh:oG hi 0 0 with
    |none=>simp [ehh] at a
    |some hh=>
     simp only[ehh] at a
     cases el:oG J 0 hh with
     |none=>simp [el] at a
     |some l=>
      simp only[el] at a;cases a;have i:=pE (P:=P) (w:=w) (mD o ehh .sliceAcap) (mD j el .sliceB);have O:hh=0:=by have:=uI ehh (fM _);omega
      subst O;have L:l=0:=by have:=uI el (fM _);omega
      subst L;refine aT.still s z (x:= .slice none 0 0) ?_ rfl;simp [Instr.sliceAt,run_underlying r,Instr.slice,i,f]
end
end
end Go.Ay
