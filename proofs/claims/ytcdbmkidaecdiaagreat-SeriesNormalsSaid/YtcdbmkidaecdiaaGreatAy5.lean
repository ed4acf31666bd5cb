/- Each operation of the intermediate code is the model's. -/
import Derived.Test.YtcdbmkidaecdiaaGreatAy4
namespace Go.Ay
open Go
section
variable {v:V} {x:Value} {k:IntKind}
def Yields (P:Program)(o:Oper)(a:Act)(w:World)(x:Value)(w':World):Prop:=
 (execOp a.eval o).run P w= .ok (.value x) w'∨((execOp a.eval o).run P w= .ok .skip w'/\x=undef)
section
variable {P:Program} {m:M} {h:H} {w:World}
def bD (P:Program)(m:M)(h:H)(w:World)(s:Sem Value)(v:V)(h':H):Prop:=
 ∃x w' m',s.run P w= .ok x w'/\VR m' v x/\jR P m h w m' h' w'
theorem bD.still (c:HR P m h w)(b:iY m h.next){s:Sem Value}(a:s.run P w= .ok x w)(h2:VR m v x):bD P m h w s v h:=
 ⟨x,w,m,a,h2,jR.refl c b⟩
theorem AF {op:BinOp}{a b:Int}(c:arith op k a b=some v)(t:TypeId): ∃x,(binOp op t (.int k a) (.int k b)).run P w= .ok x w/\VR m v x:=by
 cases op<;>simp only[arith] at c<;>first
  |(cases c;done)
  |(cases c;exact⟨_,by simp [binOp,Op.intArith,Op.intCmp,Op.intBits];done,rfl⟩)
  |(split at c
    ·cases c
    ·rename_i d
     cases c
     exact⟨_,by simp [binOp,Op.intDiv,d],rfl⟩)
theorem CM {op:BinOp}{a b:Int}{j:IntKind}(c:Fq op k a b=some v)(t:TypeId): ∃x,(binOp op t (.int k a) (.int j b)).run P w= .ok x w/\VR m v x:=by
 unfold Fq at c;split at c
 ·cases c
 ·rename_i d
  cases op<;>simp only at c<;>first
   |(cases c;done)
   |(cases c;exact⟨_,by simp [binOp,Op.shift,d],rfl⟩)
theorem Lj (op:BinOp)(t:TypeId)(x y:Operand)(k:IntKind)(a:Int)(b:Value):(eqGuard op t x y (.int k a) b).run P w= .ok () w:=by
 unfold eqGuard;cases op<;>simp
theorem Wn (op:BinOp)(t:TypeId)(x y:Operand)(a:Bool)(b:Value):(eqGuard op t x y (.bool a) b).run P w= .ok () w:=by
 unfold eqGuard;cases op<;>simp
theorem xA (op:BinOp)(t:TypeId)(x y:Operand)(a:Option Addr)(n c:Nat)(b:Value):(eqGuard op t x y (.slice a n c) b).run P w= .ok () w:=by
 unfold eqGuard;cases op<;>simp
theorem VR.int {n:Int}(h:VR m (.int k n) x):x= .int k n:=h
theorem uX {n:Nat}(b:VR m v x)(d:wZ v=some n): ∃a c,x= .slice a n c:=by
 cases v<;>simp only[wZ] at d<;>try cases d
 ·obtain⟨p,c,e,_,rfl,_⟩:=b;exact⟨_,_,rfl⟩
 ·exact⟨none,0,b⟩
 ·exact⟨some _,0,b⟩
theorem Lm (t:HR P m h w){n sz:Nat}{ws:List V}(g:VR m v x)(j:wZ v=some n)(a:h.slice sz v=some ws):
  ∃xs:List Value,(∀d,(Builtin.firstCells sz n x).run P {w with drawn:=d}= .ok xs.toArray {w with drawn:=d})/\iR m ws xs/\(∀u∈ws,u.one=true)/\xs.length=n*sz:=by
 cases v<;>simp only[wZ] at j<;>try cases j
 ·rename_i id y s
  simp only[H.slice] at a
  obtain⟨p,c,l,fr,q,z,_,f,b,o⟩:=Cv t a
  obtain⟨B,F,G,e,rfl,_,A,_⟩:=g
  rw[q] at e;cases e
  by_cases i:0<n
  ·obtain rfl:=A i
   exact⟨_,λd=>lU (w:={w with drawn:=d}) z f,b,o,by simp;omega⟩
  ·obtain rfl:n=0:=om
   have r:ws= []:=ON (by rw[iR.length b];simp)
   subst r
   exact⟨[],λd=>by simp only[Builtin.firstCells,Nat.zero_mul,loadCells,loadCellsFrom];rfl,trivial,by simp,by simp⟩
 ·simp only[H.slice] at a
  cases a
  obtain rfl:x= .slice none 0 0:=g
  exact⟨[],λd=>by simp [Builtin.firstCells],trivial,by simp,by simp⟩
 ·simp only[H.slice] at a
  cases a
  obtain rfl:x= .slice (some _) 0 0:=g
  exact⟨[],λd=>by simp only[Builtin.firstCells,Nat.zero_mul,loadCells,loadCellsFrom];rfl,trivial,by simp,by simp⟩
theorem JS {n:Int}{y:Nat}{a:BoundsCode}(c:0<=n)(b:n<=y):(Instr.sliceBound (.int k n) y a).run P w= .ok n.toNat w:=by
 simp [Instr.sliceBound,asIntOf,c,b]
def UD (m:M)(o:Option V)(x:Option Value):Prop:=match o,x with|none,none=>True|some v,some x=>VR m v x|_,_=>False
def EF (xo:Option Value)(d top:Nat)(code:BoundsCode):Sem Nat:=match xo with|some v=>Instr.sliceBound v top code|none=>pure d
theorem qM {o:Option V}{e:Option Value}(f:UD m o e){d b r:Nat}(a:nP o d b=some r)(c:BoundsCode):
  (EF e d b c).run P w= .ok r w:=by
 cases o with
 |none=>
  cases e with
  |none=>simp only[nP] at a;cases a;rfl
  |some x=>exact f.elim
 |some v=>
  cases e with
  |none=>exact f.elim
  |some x=>
   cases v<;>simp only[nP] at a<;>try cases a
   rename_i k n;split at a
   ·rename_i g
    cases a;obtain rfl:x= .int k n:=f;exact JS g.1 g.2
   ·cases a
theorem oY {a d:Option Value}{len c l hh:Nat}(b:(EF d len c .sliceAcap).run P w= .ok hh w)(r2:(EF a 0 hh .sliceB).run P w= .ok l w):
  (Instr.sliceBounds true len c a d none).run P w= .ok (l,hh,c) w:=by
 cases d with
 |none=>
  cases a with
  |none=>simp only[EF,Sem.run_pure] at b r2;cases b;cases r2;simp [Instr.sliceBounds]
  |some y=>simp only[EF,Sem.run_pure] at b r2;cases b;simp [Instr.sliceBounds,r2]
 |some z=>
  cases a with
  |none=>simp only[EF,Sem.run_pure] at b r2;cases r2;simp [Instr.sliceBounds,b]
  |some y=>simp only[EF] at b r2;simp [Instr.sliceBounds,b,r2]
theorem Dl {o:Option V}{d b r:Nat}(a:nP o d b=some r)(c:d<=b):r<=b:=by
 unfold nP at a;split at a
 ·cases a;exact c
 ·split at a
  ·rename_i e;cases a;omega
  ·cases a
 ·cases a
theorem MY (s:HR P m h w)(r:iY m h.next){t e:TypeId}{sz:Nat}(z:P.underlying t=some (.slice e))(hs:jL P e=some sz)
  {u:V}  {B hi N:Option V} {J G g:Option Value} (Z:VR m v x) (o:UD m B J) (j:UD m hi G) (K:UD m N g) (a:rY sz v B hi N=some u):
  bD P m h w (Instr.sliceAt t x J G g) u h:=by
 have f:=iO (w:=w) hs
 cases v<;>simp only[rY] at a<;>try cases a
 ·rename_i id a0 len O
  obtain⟨p,c,q,A,rfl,R,ho,d⟩:=Z
  cases N with
  |some _=>cases a
  |none=>
   cases g with
   |some _=>exact K.elim
   |none=>
    cases O with
    |kn k=>
     simp only at d a;obtain⟨d,rfl⟩:=d;subst d
     cases ehh:nP hi len c with
     |none=>simp [ehh] at a
     |some hh=>
      simp only[ehh] at a
      cases el:nP B 0 hh with
      |none=>simp [el] at a
      |some l=>
       simp only[el] at a;have L:=Dl ehh R;have Y:=Dl el (iB _);have i:=oY (P:=P) (w:=w) (qM j ehh .sliceAcap) (qM o el .sliceB);split at a
       ·cases a
        by_cases b:c=l
        ·rw[bJ b]
         refine⟨.slice (some ⟨p.1,p.2.1+q,none⟩) (hh-l) (c-l),w,m,?_,⟨p,_,_,A,rfl,om,λ_=>rfl,rfl,rfl⟩,jR.refl s r⟩;simp only[Instr.sliceAt,Sem.run_bind,run_underlying z,Result.andThen_ok,Instr.slice,i,f,Sem.run_pure,bJ b]
        ·rw[bU b]
         refine⟨.slice (some ⟨p.1,p.2.1+(q+l*sz),none⟩) (hh-l) (c-l),w,m,?_,⟨p,_,_,A,rfl,om,λ_=>rfl,rfl,rfl⟩,jR.refl s r⟩;simp only[Instr.sliceAt,Sem.run_bind,run_underlying z,Result.andThen_ok,Instr.slice,i,f,Sem.run_pure,bU b,Option.map_some,mD,Nat.add_assoc]
       ·cases a
    |un e=>
     simp only at d a
     cases ehh:nP hi len len with
     |none=>simp [ehh] at a
     |some hh=>
      simp only[ehh] at a
      cases el:nP B 0 hh with
      |none=>simp [el] at a
      |some l=>
       simp only[el] at a;have L:=Dl ehh (dT _);have Y:=Dl el (iB _)
       have W:nP hi len c=some hh:=by
        cases hi with
        |none=>exact ehh
        |some y=>
         cases y<;>simp only[nP] at ehh ⊢ <;>try cases ehh
         rename_i k n;split at ehh
         ·rename_i hc;cases ehh
          rw[bJ ⟨hc.1,om⟩]
         ·cases ehh
       have i:=oY (P:=P) (w:=w) (qM j W .sliceAcap) (qM o el .sliceB)
       by_cases F:e=sz
       ·subst F
        rw[bJ rfl] at a
        by_cases hl:l<len
        ·rw[bJ hl] at a
         cases a;have b:c≠l:=om
         obtain rfl:=ho om;refine⟨.slice (some ⟨p.1,p.2.1+(q+l*e),none⟩) (hh-l) (c-l),w,m,?_,⟨p,_,_,A,rfl,om,λ_=>rfl,?_⟩,jR.refl s r⟩
         ·simp only[Instr.sliceAt,Sem.run_bind,run_underlying z,Result.andThen_ok,Instr.slice,i,f,Sem.run_pure,bU b,Option.map_some,mD,Nat.add_assoc]
         ·simp only
          have:(c-l)*e+l*e=c*e:=by rw[←Nat.add_mul];congr 1;omega
          omega
        ·rw[bU hl] at a
         cases a;obtain rfl:hh=l:=om
         by_cases b:c=hh
         ·refine⟨.slice (some ⟨p.1,p.2.1+q,none⟩) (hh-hh) (c-hh),w,m,?_,⟨p,_,q,A,by rw[Nat.sub_self],om,λh=>om,?_⟩,jR.refl s r⟩
          ·simp only[Instr.sliceAt,Sem.run_bind,run_underlying z,Result.andThen_ok,Instr.slice,i,f,Sem.run_pure,bJ b]
          ·simp only
           have:(c-hh)*e<=c*e:=Nat.mul_le_mul_right _ om;omega
         ·refine⟨.slice (some ⟨p.1,p.2.1+(q+hh*e),none⟩) (hh-hh) (c-hh),w,m,?_,⟨p,_,q+hh*e,A,by rw[Nat.sub_self],om,λh=>om,?_⟩,jR.refl s r⟩
          ·simp only[Instr.sliceAt,Sem.run_bind,run_underlying z,Result.andThen_ok,Instr.slice,i,f,Sem.run_pure,bU b,Option.map_some,mD,Nat.add_assoc]
          ·simp only
           have:(c-hh)*e+hh*e=c*e:=by rw[←Nat.add_mul];congr 1;omega
           omega
       ·rw[bU F] at a;cases a
 ·cases N with
  |some _=>simp at a
  |none=>
   cases g with
   |some _=>exact K.elim
   |none=>
    obtain rfl:x= .slice none 0 0:=Z
    cases ehh:nP hi 0 0 with
    |none=>simp [ehh] at a
    |some hh=>
     simp only[ehh] at a
     cases el:nP B 0 hh with
     |none=>simp [el] at a
     |some l=>
      simp only[el] at a;cases a;have i:=oY (P:=P) (w:=w) (qM j ehh .sliceAcap) (qM o el .sliceB);have U:hh=0:=by have:=Dl ehh (dT _);omega
      subst U;have Q:l=0:=by have:=Dl el (dT _);omega
      subst Q;refine bD.still s r (x:= .slice none 0 0) ?_ rfl;simp [Instr.sliceAt,run_underlying z,Instr.slice,i,f]
end
end
end Go.Ay
