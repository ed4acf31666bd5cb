/- Each operation of the intermediate code is the model's. -/
import Derived.Test.YtapfcpkecmmagaaGreatAy4
namespace Go.Ay
open Go
section
variable {v:V} {x:Value} {k:IntKind} {n sz:Nat} {xlo xhi:Option Value}
def Yields (P:Program)(o:Oper)(a:Act)(w:World)(x:Value)(w':World):Prop:=
 (execOp a.eval o).run P w= .ok (.value x) w'∨((execOp a.eval o).run P w= .ok .skip w'/\x=undef)
section
variable {P:Program} {m:M} {h:H} {w:World}
def aU (P:Program)(m:M)(h:H)(w:World)(s:Sem Value)(v:V)(h':H):Prop:=
 ∃x w' m',s.run P w= .ok x w'/\VR m' v x/\fU P m h w m' h' w'
theorem aU.still (b:HR P m h w)(a:fK m h.next){s:Sem Value}(c:s.run P w= .ok x w)(h2:VR m v x):aU P m h w s v h:=
 ⟨x,w,m,c,h2,fU.refl b a⟩
theorem Ka {op:BinOp}{a b:Int}(c:arith op k a b=some v)(t:TypeId): ∃x,(binOp op t (.int k a) (.int k b)).run P w= .ok x w/\VR m v x:=by
 cases op<;>simp only[arith] at c<;>first
  |(cases c;done)
  |(cases c;exact⟨_,by simp [binOp,Op.intArith,Op.intCmp,Op.intBits];done,rfl⟩)
  |(split at c
    ·cases c
    ·rename_i d
     cases c
     exact⟨_,by simp [binOp,Op.intDiv,d],rfl⟩)
theorem Lm {op:BinOp}{a b:Int}{j:IntKind}(c:wK op k a b=some v)(t:TypeId): ∃x,(binOp op t (.int k a) (.int j b)).run P w= .ok x w/\VR m v x:=by
 unfold wK at c;split at c
 ·cases c
 ·rename_i d
  cases op<;>simp only at c<;>first
   |(cases c;done)
   |(cases c;exact⟨_,by simp [binOp,Op.shift,d],rfl⟩)
theorem xU (op:BinOp)(t:TypeId)(x y:Operand)(k:IntKind)(a:Int)(b:Value):(eqGuard op t x y (.int k a) b).run P w= .ok () w:=by
 unfold eqGuard;cases op<;>simp
theorem Hj (op:BinOp)(t:TypeId)(x y:Operand)(a:Bool)(b:Value):(eqGuard op t x y (.bool a) b).run P w= .ok () w:=by
 unfold eqGuard;cases op<;>simp
theorem oK (op:BinOp)(t:TypeId)(x y:Operand)(a:Option Addr)(n c:Nat)(b:Value):(eqGuard op t x y (.slice a n c) b).run P w= .ok () w:=by
 unfold eqGuard;cases op<;>simp
theorem VR.int {n:Int}(h:VR m (.int k n) x):x= .int k n:=h
theorem mY (b:VR m v x)(d:mH v=some n): ∃a c,x= .slice a n c:=by
 cases v<;>simp only[mH] at d<;>try cases d
 ·obtain⟨p,c,e,_,rfl,_⟩:=b;exact⟨_,_,rfl⟩
 ·exact⟨none,0,b⟩
 ·exact⟨some _,0,b⟩
theorem yJ (s:HR P m h w){ws:List V}(g:VR m v x)(j:mH v=some n)(a:h.slice sz v=some ws):
  ∃xs:List Value,(∀d,(Builtin.firstCells sz n x).run P {w with drawn:=d}= .ok xs.toArray {w with drawn:=d})/\fL m ws xs/\(∀u∈ws,u.one=true)/\xs.length=n*sz:=by
 cases v<;>simp only[mH] at j<;>try cases j
 ·rename_i id A r
  simp only[H.slice] at a
  obtain⟨p,c,l,fr,y,q,_,f,b,o⟩:=sF s a
  obtain⟨F,G,B,e,rfl,_,z,_⟩:=g
  rw[y] at e;cases e
  by_cases i:0<n
  ·obtain rfl:=z i
   exact⟨_,λd=>iX (w:={w with drawn:=d}) q f,b,o,by simp;omega⟩
  ·obtain rfl:n=0:=om
   have t:ws= []:=Yd (by rw[fL.length b];simp)
   subst t
   exact⟨[],λd=>by simp only[Builtin.firstCells,Nat.zero_mul,loadCells,loadCellsFrom];rfl,trivial,by simp,by simp⟩
 ·simp only[H.slice] at a
  cases a
  obtain rfl:x= .slice none 0 0:=g
  exact⟨[],λd=>by simp [Builtin.firstCells],trivial,by simp,by simp⟩
 ·simp only[H.slice] at a
  cases a
  obtain rfl:x= .slice (some _) 0 0:=g
  exact⟨[],λd=>by simp only[Builtin.firstCells,Nat.zero_mul,loadCells,loadCellsFrom];rfl,trivial,by simp,by simp⟩
theorem Sn {n:Int}{y:Nat}{a:BoundsCode}(b:0<=n)(c:n<=y):(Instr.sliceBound (.int k n) y a).run P w= .ok n.toNat w:=by
 simp [Instr.sliceBound,asIntOf,b,c]
def My (m:M)(o:Option V)(x:Option Value):Prop:=match o,x with|none,none=>True|some v,some x=>VR m v x|_,_=>False
def xF (xo:Option Value)(d top:Nat)(code:BoundsCode):Sem Nat:=match xo with|some v=>Instr.sliceBound v top code|none=>pure d
theorem jF {o:Option V}{e:Option Value}(f:My m o e){d c r:Nat}(a:kP o d c=some r)(b:BoundsCode):
  (xF e d c b).run P w= .ok r w:=by
 cases o with
 |none=>
  cases e with
  |none=>simp only[kP] at a;cases a;rfl
  |some x=>exact f.elim
 |some v=>
  cases e with
  |none=>exact f.elim
  |some x=>
   cases v<;>simp only[kP] at a<;>try cases a
   rename_i k n;split at a
   ·rename_i g
    cases a;obtain rfl:x= .int k n:=f;exact Sn g.1 g.2
   ·cases a
theorem kG {len c l hh:Nat}(a:(xF xhi len c .sliceAcap).run P w= .ok hh w)(r2:(xF xlo 0 hh .sliceB).run P w= .ok l w):
  (Instr.sliceBounds true len c xlo xhi none).run P w= .ok (l,hh,c) w:=by
 cases xhi with
 |none=>
  cases xlo with
  |none=>simp only[xF,Sem.run_pure] at a r2;cases a;cases r2;simp [Instr.sliceBounds]
  |some y=>simp only[xF,Sem.run_pure] at a r2;cases a;simp [Instr.sliceBounds,r2]
 |some z=>
  cases xlo with
  |none=>simp only[xF,Sem.run_pure] at a r2;cases r2;simp [Instr.sliceBounds,a]
  |some y=>simp only[xF] at a r2;simp [Instr.sliceBounds,a,r2]
theorem tQ {len c l hh:Nat}(a:(xF xhi len c .sliceAlen).run P w= .ok hh w)(r2:(xF xlo 0 hh .sliceB).run P w= .ok l w):
  (Instr.sliceBounds false len c xlo xhi none).run P w= .ok (l,hh,c) w:=by
 cases xhi with
 |none=>
  cases xlo with
  |none=>simp only[xF,Sem.run_pure] at a r2;cases a;cases r2;simp [Instr.sliceBounds]
  |some y=>simp only[xF,Sem.run_pure] at a r2;cases a;simp [Instr.sliceBounds,r2]
 |some z=>
  cases xlo with
  |none=>simp only[xF,Sem.run_pure] at a r2;cases r2;simp [Instr.sliceBounds,a]
  |some y=>simp only[xF] at a r2;simp [Instr.sliceBounds,a,r2]
theorem nV {o:Option V}{d a r:Nat}(b:kP o d a=some r)(c:d<=a):r<=a:=by
 unfold kP at b;split at b
 ·cases b;exact c
 ·split at b
  ·rename_i e;cases b;omega
  ·cases b
 ·cases b
theorem Rj (o:HR P m h w)(s:fK m h.next){t e:TypeId}(i:P.underlying t=some (.array n e))(y:fX P e=some sz)
  {id off:Nat} {u:V}  {d hi:Option V}  (z:VR m (.ptr id off) x) (f:My m d xlo) (g:My m hi xhi) (b:oY sz (.sl id off n (.kn n)) d hi none=some u):
  aU P m h w (Instr.sliceAt t x xlo xhi none) u h:=by
 have c:=eS (w:=w) y
 obtain⟨p,r,rfl⟩:=z
 simp only[oY] at b
 cases ehh:kP hi n n with
 |none=>simp [ehh] at b
 |some hh=>
  simp only[ehh] at b
  cases el:kP d 0 hh with
  |none=>simp [el] at b
  |some l=>
   simp only[el] at b;have q:=nV ehh (fH _);have q:=nV el (eY _);have j:=tQ (P:=P) (w:=w) (jF g ehh .sliceAlen) (jF f el .sliceB);split at b
   ·cases b
    by_cases a:n=l
    ·rw[aV a]
     refine⟨.slice (some ⟨p.1,p.2.1+off,none⟩) (hh-l) (n-l),w,m,?_,⟨p,_,_,r,rfl,om,λ_=>rfl,rfl,rfl⟩,fU.refl o s⟩;simp only[Instr.sliceAt,Sem.run_bind,run_underlying i,Result.andThen_ok,Instr.sureAddr,j,c,Sem.run_pure,aV a]
    ·rw[aZ a]
     refine⟨.slice (some ⟨p.1,p.2.1+(off+l*sz),none⟩) (hh-l) (n-l),w,m,?_,⟨p,_,_,r,rfl,om,λ_=>rfl,rfl,rfl⟩,fU.refl o s⟩;simp only[Instr.sliceAt,Sem.run_bind,run_underlying i,Result.andThen_ok,Instr.sureAddr,j,c,Sem.run_pure,aZ a,Option.map_some,iS,Nat.add_assoc]
   ·cases b
theorem Qc (r:HR P m h w)(s:fK m h.next){t e:TypeId}(z:P.underlying t=some (.slice e))(Z:fX P e=some sz)
  {u:V}  {B hi K:Option V} {g:Option Value} (Y:VR m v x) (j:My m B xlo) (q:My m hi xhi) (J:My m K g) (a:oY sz v B hi K=some u):
  aU P m h w (Instr.sliceAt t x xlo xhi g) u h:=by
 have f:=eS (w:=w) Z
 cases v<;>simp only[oY] at a<;>try cases a
 ·rename_i id a0 len L
  obtain⟨p,c,o,A,rfl,R,ho,d⟩:=Y
  cases K with
  |some _=>cases a
  |none=>
   cases g with
   |some _=>exact J.elim
   |none=>
    cases L with
    |kn k=>
     simp only at d a;obtain⟨d,rfl⟩:=d;subst d
     cases ehh:kP hi len c with
     |none=>simp [ehh] at a
     |some hh=>
      simp only[ehh] at a
      cases el:kP B 0 hh with
      |none=>simp [el] at a
      |some l=>
       simp only[el] at a;have G:=nV ehh R;have O:=nV el (eY _);have i:=kG (P:=P) (w:=w) (jF q ehh .sliceAcap) (jF j el .sliceB);split at a
       ·cases a
        by_cases b:c=l
        ·rw[aV b]
         refine⟨.slice (some ⟨p.1,p.2.1+o,none⟩) (hh-l) (c-l),w,m,?_,⟨p,_,_,A,rfl,om,λ_=>rfl,rfl,rfl⟩,fU.refl r s⟩;simp only[Instr.sliceAt,Sem.run_bind,run_underlying z,Result.andThen_ok,Instr.slice,i,f,Sem.run_pure,aV b]
        ·rw[aZ b]
         refine⟨.slice (some ⟨p.1,p.2.1+(o+l*sz),none⟩) (hh-l) (c-l),w,m,?_,⟨p,_,_,A,rfl,om,λ_=>rfl,rfl,rfl⟩,fU.refl r s⟩;simp only[Instr.sliceAt,Sem.run_bind,run_underlying z,Result.andThen_ok,Instr.slice,i,f,Sem.run_pure,aZ b,Option.map_some,iS,Nat.add_assoc]
       ·cases a
    |un e=>
     simp only at d a
     cases ehh:kP hi len len with
     |none=>simp [ehh] at a
     |some hh=>
      simp only[ehh] at a
      cases el:kP B 0 hh with
      |none=>simp [el] at a
      |some l=>
       simp only[el] at a;have G:=nV ehh (fH _);have O:=nV el (eY _)
       have U:kP hi len c=some hh:=by
        cases hi with
        |none=>exact ehh
        |some y=>
         cases y<;>simp only[kP] at ehh ⊢ <;>try cases ehh
         rename_i k n;split at ehh
         ·rename_i hc;cases ehh
          rw[aV ⟨hc.1,om⟩]
         ·cases ehh
       have i:=kG (P:=P) (w:=w) (jF q U .sliceAcap) (jF j el .sliceB)
       by_cases F:e=sz
       ·subst F
        rw[aV rfl] at a
        by_cases W:l<len
        ·rw[aV W] at a
         cases a;have b:c≠l:=om
         obtain rfl:=ho om;refine⟨.slice (some ⟨p.1,p.2.1+(o+l*e),none⟩) (hh-l) (c-l),w,m,?_,⟨p,_,_,A,rfl,om,λ_=>rfl,?_⟩,fU.refl r s⟩
         ·simp only[Instr.sliceAt,Sem.run_bind,run_underlying z,Result.andThen_ok,Instr.slice,i,f,Sem.run_pure,aZ b,Option.map_some,iS,Nat.add_assoc]
         ·simp only
          have:(c-l)*e+l*e=c*e:=by rw[←Nat.add_mul];congr 1;omega
          omega
        ·rw[aZ W] at a
         cases a;obtain rfl:hh=l:=om
         by_cases b:c=hh
         ·refine⟨.slice (some ⟨p.1,p.2.1+o,none⟩) (hh-hh) (c-hh),w,m,?_,⟨p,_,o,A,by rw[Nat.sub_self],om,λh=>om,?_⟩,fU.refl r s⟩
          ·simp only[Instr.sliceAt,Sem.run_bind,run_underlying z,Result.andThen_ok,Instr.slice,i,f,Sem.run_pure,aV b]
          ·simp only
           have:(c-hh)*e<=c*e:=Nat.mul_le_mul_right _ om;omega
         ·refine⟨.slice (some ⟨p.1,p.2.1+(o+hh*e),none⟩) (hh-hh) (c-hh),w,m,?_,⟨p,_,o+hh*e,A,by rw[Nat.sub_self],om,λh=>om,?_⟩,fU.refl r s⟩
          ·simp only[Instr.sliceAt,Sem.run_bind,run_underlying z,Result.andThen_ok,Instr.slice,i,f,Sem.run_pure,aZ b,Option.map_some,iS,Nat.add_assoc]
          ·simp only
           have:(c-hh)*e+hh*e=c*e:=by rw[←Nat.add_mul];congr 1;omega
           omega
       ·rw[aZ F] at a;cases a
 ·cases K with
  |some _=>simp at a
  |none=>
   cases g with
   |some _=>exact J.elim
   |none=>
    obtain rfl:x= .slice none 0 0:=Y
    cases ehh:kP hi 0 0 with
    |none=>simp [ehh] at a
    |some hh=>
     simp only[ehh] at a
     cases el:kP B 0 hh with
     |none=>simp [el] at a
     |some l=>
      simp only[el] at a;cases a;have i:=kG (P:=P) (w:=w) (jF q ehh .sliceAcap) (jF j el .sliceB);have N:hh=0:=by have:=nV ehh (fH _);omega
      subst N;have Q:l=0:=by have:=nV el (fH _);omega
      subst Q;refine aU.still r s (x:= .slice none 0 0) ?_ rfl;simp [Instr.sliceAt,run_underlying z,Instr.slice,i,f]
end
end
end Go.Ay
