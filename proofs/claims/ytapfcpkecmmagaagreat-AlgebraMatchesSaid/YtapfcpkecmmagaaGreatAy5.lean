/- Each operation of the intermediate code is the model's. -/
import Derived.Test.YtapfcpkecmmagaaGreatAy4
namespace Go.Ay
open Go
section
variable {v:V} {x:Value} {k:IntKind} {n sz:Nat} {xlo xhi:Option Value}
def Yields (P:Program)(o:Oper)(a:Act)(w:World)(x:Value)(w':World):Prop:=
 (execOp a.eval o).run P w= .ok (.value x) w'∨((execOp a.eval o).run P w= .ok .skip w'/\x=undef)
section
variable {P:Program} {m:M} {h:H} {w:World}
def aU (P:Program)(m:M)(h:H)(w:World)(s:Sem Value)(v:V)(h':H):Prop:=
 ∃x w' m',s.run P w= .ok x w'/\VR m' v x/\fY P m h w m' h' w'
theorem aU.still (b:HR P m h w)(a:fL m h.next){s:Sem Value}(c:s.run P w= .ok x w)(h2:VR m v x):aU P m h w s v h:=
 ⟨x,w,m,c,h2,fY.refl b a⟩
theorem Ks {op:BinOp}{a b:Int}(c:arith op k a b=some v)(t:TypeId): ∃x,(binOp op t (.int k a) (.int k b)).run P w= .ok x w/\VR m v x:=by
 cases op<;>simp only[arith] at c<;>first
  |(cases c;done)
  |(cases c;exact⟨_,by simp [binOp,Op.intArith,Op.intCmp,Op.intBits];done,rfl⟩)
  |(split at c
    ·cases c
    ·rename_i d
     cases c
     exact⟨_,by simp [binOp,Op.intDiv,d],rfl⟩)
theorem Md {op:BinOp}{a b:Int}{j:IntKind}(c:wU op k a b=some v)(t:TypeId): ∃x,(binOp op t (.int k a) (.int j b)).run P w= .ok x w/\VR m v x:=by
 unfold wU at c;split at c
 ·cases c
 ·rename_i d
  cases op<;>simp only at c<;>first
   |(cases c;done)
   |(cases c;exact⟨_,by simp [binOp,Op.shift,d],rfl⟩)
theorem yG (op:BinOp)(t:TypeId)(x y:Operand)(k:IntKind)(a:Int)(b:Value):(eqGuard op t x y (.int k a) b).run P w= .ok () w:=by
 unfold eqGuard;cases op<;>simp
theorem Gb (op:BinOp)(t:TypeId)(x y:Operand)(a:Bool)(b:Value):(eqGuard op t x y (.bool a) b).run P w= .ok () w:=by
 unfold eqGuard;cases op<;>simp
theorem oW (op:BinOp)(t:TypeId)(x y:Operand)(a:Option Addr)(n c:Nat)(b:Value):(eqGuard op t x y (.slice a n c) b).run P w= .ok () w:=by
 unfold eqGuard;cases op<;>simp
theorem VR.int {n:Int}(h:VR m (.int k n) x):x= .int k n:=h
theorem nL (b:VR m v x)(d:mG v=some n): ∃a c,x= .slice a n c:=by
 cases v<;>simp only[mG] at d<;>try cases d
 ·obtain⟨p,c,e,_,rfl,_⟩:=b;exact⟨_,_,rfl⟩
 ·exact⟨none,0,b⟩
 ·exact⟨some _,0,b⟩
theorem yD (r:HR P m h w){ws:List V}(g:VR m v x)(l:mG v=some n)(a:h.slice sz v=some ws):
  ∃xs:List Value,(∀d,(Builtin.firstCells sz n x).run P {w with drawn:=d}= .ok xs.toArray {w with drawn:=d})/\fP m ws xs/\(∀u∈ws,u.one=true)/\xs.length=n*sz:=by
 cases v<;>simp only[mG] at l<;>try cases l
 ·rename_i id o z
  simp only[H.slice] at a
  obtain⟨p,c,j,fr,s,y,_,f,b,t⟩:=sH r a
  obtain⟨F,G,B,e,rfl,_,q,_⟩:=g
  rw[s] at e;cases e
  by_cases i:0<n
  ·obtain rfl:=q i
   exact⟨_,λd=>iY (w:={w with drawn:=d}) y f,b,t,by simp;omega⟩
  ·obtain rfl:n=0:=om
   have A:ws= []:=Yx (by rw[fP.length b];simp)
   subst A
   exact⟨[],λd=>by simp only[Builtin.firstCells,Nat.zero_mul,loadCells,loadCellsFrom];rfl,trivial,by simp,by simp⟩
 ·simp only[H.slice] at a
  cases a
  obtain rfl:x= .slice none 0 0:=g
  exact⟨[],λd=>by simp [Builtin.firstCells],trivial,by simp,by simp⟩
 ·simp only[H.slice] at a
  cases a
  obtain rfl:x= .slice (some _) 0 0:=g
  exact⟨[],λd=>by simp only[Builtin.firstCells,Nat.zero_mul,loadCells,loadCellsFrom];rfl,trivial,by simp,by simp⟩
theorem Ss {n:Int}{y:Nat}{a:BoundsCode}(c:0<=n)(b:n<=y):(Instr.sliceBound (.int k n) y a).run P w= .ok n.toNat w:=by
 simp [Instr.sliceBound,asIntOf,c,b]
def Ml (m:M)(o:Option V)(x:Option Value):Prop:=match o,x with|none,none=>True|some v,some x=>VR m v x|_,_=>False
def xL (xo:Option Value)(d top:Nat)(code:BoundsCode):Sem Nat:=match xo with|some v=>Instr.sliceBound v top code|none=>pure d
theorem jF {o:Option V}{e:Option Value}(f:Ml m o e){d c r:Nat}(a:kS o d c=some r)(b:BoundsCode):
  (xL e d c b).run P w= .ok r w:=by
 cases o with
 |none=>
  cases e with
  |none=>simp only[kS] at a;cases a;rfl
  |some x=>exact f.elim
 |some v=>
  cases e with
  |none=>exact f.elim
  |some x=>
   cases v<;>simp only[kS] at a<;>try cases a
   rename_i k n;split at a
   ·rename_i g
    cases a;obtain rfl:x= .int k n:=f;exact Ss g.1 g.2
   ·cases a
theorem kM {len c l hh:Nat}(a:(xL xhi len c .sliceAcap).run P w= .ok hh w)(r2:(xL xlo 0 hh .sliceB).run P w= .ok l w):
  (Instr.sliceBounds true len c xlo xhi none).run P w= .ok (l,hh,c) w:=by
 cases xhi with
 |none=>
  cases xlo with
  |none=>simp only[xL,Sem.run_pure] at a r2;cases a;cases r2;simp [Instr.sliceBounds]
  |some y=>simp only[xL,Sem.run_pure] at a r2;cases a;simp [Instr.sliceBounds,r2]
 |some z=>
  cases xlo with
  |none=>simp only[xL,Sem.run_pure] at a r2;cases r2;simp [Instr.sliceBounds,a]
  |some y=>simp only[xL] at a r2;simp [Instr.sliceBounds,a,r2]
theorem uG {len c l hh:Nat}(a:(xL xhi len c .sliceAlen).run P w= .ok hh w)(r2:(xL xlo 0 hh .sliceB).run P w= .ok l w):
  (Instr.sliceBounds false len c xlo xhi none).run P w= .ok (l,hh,c) w:=by
 cases xhi with
 |none=>
  cases xlo with
  |none=>simp only[xL,Sem.run_pure] at a r2;cases a;cases r2;simp [Instr.sliceBounds]
  |some y=>simp only[xL,Sem.run_pure] at a r2;cases a;simp [Instr.sliceBounds,r2]
 |some z=>
  cases xlo with
  |none=>simp only[xL,Sem.run_pure] at a r2;cases r2;simp [Instr.sliceBounds,a]
  |some y=>simp only[xL] at a r2;simp [Instr.sliceBounds,a,r2]
theorem oH {o:Option V}{d b r:Nat}(a:kS o d b=some r)(c:d<=b):r<=b:=by
 unfold kS at a;split at a
 ·cases a;exact c
 ·split at a
  ·rename_i e;cases a;omega
  ·cases a
 ·cases a
theorem Ru (q:HR P m h w)(j:fL m h.next){t e:TypeId}(i:P.underlying t=some (.array n e))(z:gE P e=some sz)
  {id off:Nat} {u:V}  {f hi:Option V}  (y:VR m (.ptr id off) x) (d:Ml m f xlo) (g:Ml m hi xhi) (b:nE sz (.sl id off n (.kn n)) f hi none=some u):
  aU P m h w (Instr.sliceAt t x xlo xhi none) u h:=by
 have c:=eQ (w:=w) z
 obtain⟨p,s,rfl⟩:=y
 simp only[nE] at b
 cases ehh:kS hi n n with
 |none=>simp [ehh] at b
 |some hh=>
  simp only[ehh] at b
  cases el:kS f 0 hh with
  |none=>simp [el] at b
  |some l=>
   simp only[el] at b;have r:=oH ehh (eS _);have r:=oH el (fF _);have o:=uG (P:=P) (w:=w) (jF g ehh .sliceAlen) (jF d el .sliceB);split at b
   ·cases b
    by_cases a:n=l
    ·rw[aV a]
     refine⟨.slice (some ⟨p.1,p.2.1+off,none⟩) (hh-l) (n-l),w,m,?_,⟨p,_,_,s,rfl,om,λ_=>rfl,rfl,rfl⟩,fY.refl q j⟩;simp only[Instr.sliceAt,Sem.run_bind,run_underlying i,Result.andThen_ok,Instr.sureAddr,o,c,Sem.run_pure,aV a]
    ·rw[aZ a]
     refine⟨.slice (some ⟨p.1,p.2.1+(off+l*sz),none⟩) (hh-l) (n-l),w,m,?_,⟨p,_,_,s,rfl,om,λ_=>rfl,rfl,rfl⟩,fY.refl q j⟩;simp only[Instr.sliceAt,Sem.run_bind,run_underlying i,Result.andThen_ok,Instr.sureAddr,o,c,Sem.run_pure,aZ a,Option.map_some,iU,Nat.add_assoc]
   ·cases b
theorem Sz (z:HR P m h w)(s:fL m h.next){t e:TypeId}(r:P.underlying t=some (.slice e))(hs:gE P e=some sz)
  {u:V}  {A hi K:Option V} {g:Option Value} (W:VR m v x) (q:Ml m A xlo) (o:Ml m hi xhi) (B:Ml m K g) (a:nE sz v A hi K=some u):
  aU P m h w (Instr.sliceAt t x xlo xhi g) u h:=by
 have f:=eQ (w:=w) hs
 cases v<;>simp only[nE] at a<;>try cases a
 ·rename_i id Z len N
  obtain⟨p,c,j,G,rfl,O,ho,d⟩:=W
  cases K with
  |some _=>cases a
  |none=>
   cases g with
   |some _=>exact B.elim
   |none=>
    cases N with
    |kn k=>
     simp only at d a;obtain⟨d,rfl⟩:=d;subst d
     cases ehh:kS hi len c with
     |none=>simp [ehh] at a
     |some hh=>
      simp only[ehh] at a
      cases el:kS A 0 hh with
      |none=>simp [el] at a
      |some l=>
       simp only[el] at a;have F:=oH ehh O;have U:=oH el (fF _);have i:=kM (P:=P) (w:=w) (jF o ehh .sliceAcap) (jF q el .sliceB);split at a
       ·cases a
        by_cases b:c=l
        ·rw[aV b]
         refine⟨.slice (some ⟨p.1,p.2.1+j,none⟩) (hh-l) (c-l),w,m,?_,⟨p,_,_,G,rfl,om,λ_=>rfl,rfl,rfl⟩,fY.refl z s⟩;simp only[Instr.sliceAt,Sem.run_bind,run_underlying r,Result.andThen_ok,Instr.slice,i,f,Sem.run_pure,aV b]
        ·rw[aZ b]
         refine⟨.slice (some ⟨p.1,p.2.1+(j+l*sz),none⟩) (hh-l) (c-l),w,m,?_,⟨p,_,_,G,rfl,om,λ_=>rfl,rfl,rfl⟩,fY.refl z s⟩;simp only[Instr.sliceAt,Sem.run_bind,run_underlying r,Result.andThen_ok,Instr.slice,i,f,Sem.run_pure,aZ b,Option.map_some,iU,Nat.add_assoc]
       ·cases a
    |un e=>
     simp only at d a
     cases ehh:kS hi len len with
     |none=>simp [ehh] at a
     |some hh=>
      simp only[ehh] at a
      cases el:kS A 0 hh with
      |none=>simp [el] at a
      |some l=>
       simp only[el] at a;have F:=oH ehh (eS _);have U:=oH el (fF _)
       have L:kS hi len c=some hh:=by
        cases hi with
        |none=>exact ehh
        |some y=>
         cases y<;>simp only[kS] at ehh ⊢ <;>try cases ehh
         rename_i k n;split at ehh
         ·rename_i hc;cases ehh
          rw[aV ⟨hc.1,om⟩]
         ·cases ehh
       have i:=kM (P:=P) (w:=w) (jF o L .sliceAcap) (jF q el .sliceB)
       by_cases J:e=sz
       ·subst J
        rw[aV rfl] at a
        by_cases Y:l<len
        ·rw[aV Y] at a
         cases a;have b:c≠l:=om
         obtain rfl:=ho om;refine⟨.slice (some ⟨p.1,p.2.1+(j+l*e),none⟩) (hh-l) (c-l),w,m,?_,⟨p,_,_,G,rfl,om,λ_=>rfl,?_⟩,fY.refl z s⟩
         ·simp only[Instr.sliceAt,Sem.run_bind,run_underlying r,Result.andThen_ok,Instr.slice,i,f,Sem.run_pure,aZ b,Option.map_some,iU,Nat.add_assoc]
         ·simp only
          have:(c-l)*e+l*e=c*e:=by rw[←Nat.add_mul];congr 1;omega
          omega
        ·rw[aZ Y] at a
         cases a;obtain rfl:hh=l:=om
         by_cases b:c=hh
         ·refine⟨.slice (some ⟨p.1,p.2.1+j,none⟩) (hh-hh) (c-hh),w,m,?_,⟨p,_,j,G,by rw[Nat.sub_self],om,λh=>om,?_⟩,fY.refl z s⟩
          ·simp only[Instr.sliceAt,Sem.run_bind,run_underlying r,Result.andThen_ok,Instr.slice,i,f,Sem.run_pure,aV b]
          ·simp only
           have:(c-hh)*e<=c*e:=Nat.mul_le_mul_right _ om;omega
         ·refine⟨.slice (some ⟨p.1,p.2.1+(j+hh*e),none⟩) (hh-hh) (c-hh),w,m,?_,⟨p,_,j+hh*e,G,by rw[Nat.sub_self],om,λh=>om,?_⟩,fY.refl z s⟩
          ·simp only[Instr.sliceAt,Sem.run_bind,run_underlying r,Result.andThen_ok,Instr.slice,i,f,Sem.run_pure,aZ b,Option.map_some,iU,Nat.add_assoc]
          ·simp only
           have:(c-hh)*e+hh*e=c*e:=by rw[←Nat.add_mul];congr 1;omega
           omega
       ·rw[aZ J] at a;cases a
 ·cases K with
  |some _=>simp at a
  |none=>
   cases g with
   |some _=>exact B.elim
   |none=>
    obtain rfl:x= .slice none 0 0:=W
    cases ehh:kS hi 0 0 with
    |none=>simp [ehh] at a
    |some hh=>
     simp only[ehh] at a
     cases el:kS A 0 hh with
     |none=>simp [el] at a
     |some l=>
      simp only[el] at a;cases a;have i:=kM (P:=P) (w:=w) (jF o ehh .sliceAcap) (jF q el .sliceB);have Q:hh=0:=by have:=oH ehh (eS _);omega
      subst Q;have R:l=0:=by have:=oH el (eS _);omega
      subst R;refine aU.still z s (x:= .slice none 0 0) ?_ rfl;simp [Instr.sliceAt,run_underlying r,Instr.slice,i,f]
end
end
end Go.Ay
