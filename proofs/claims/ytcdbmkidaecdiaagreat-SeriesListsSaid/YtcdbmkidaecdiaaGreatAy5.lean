/- Each operation of the intermediate code is the model's. -/
import Derived.Test.YtcdbmkidaecdiaaGreatAy4
namespace Go.Ay
open Go
section
variable {v:V} {x:Value} {k:IntKind} {n sz:Nat} {xlo xhi:Option Value}
def Yields (P:Program)(o:Oper)(a:Act)(w:World)(x:Value)(w':World):Prop:=
 (execOp a.eval o).run P w= .ok (.value x) w'∨((execOp a.eval o).run P w= .ok .skip w'/\x=undef)
section
variable {P:Program} {m:M} {h:H} {w:World}
def aT (P:Program)(m:M)(h:H)(w:World)(s:Sem Value)(v:V)(h':H):Prop:=
 ∃x w' m',s.run P w= .ok x w'/\VR m' v x/\iC P m h w m' h' w'
theorem aT.still (c:HR P m h w)(a:fW m h.next){s:Sem Value}(b:s.run P w= .ok x w)(h2:VR m v x):aT P m h w s v h:=
 ⟨x,w,m,b,h2,iC.refl c a⟩
theorem Zi {op:BinOp}{a b:Int}(c:arith op k a b=some v)(t:TypeId): ∃x,(binOp op t (.int k a) (.int k b)).run P w= .ok x w/\VR m v x:=by
 cases op<;>simp only[arith] at c<;>first
  |(cases c;done)
  |(cases c;exact⟨_,by simp [binOp,Op.intArith,Op.intCmp,Op.intBits];done,rfl⟩)
  |(split at c
    ·cases c
    ·rename_i d
     cases c
     exact⟨_,by simp [binOp,Op.intDiv,d],rfl⟩)
theorem FL {op:BinOp}{a b:Int}{j:IntKind}(c:Dz op k a b=some v)(t:TypeId): ∃x,(binOp op t (.int k a) (.int j b)).run P w= .ok x w/\VR m v x:=by
 unfold Dz at c;split at c
 ·cases c
 ·rename_i d
  cases op<;>simp only at c<;>first
   |(cases c;done)
   |(cases c;exact⟨_,by simp [binOp,Op.shift,d],rfl⟩)
theorem Kt (op:BinOp)(t:TypeId)(x y:Operand)(k:IntKind)(a:Int)(b:Value):(eqGuard op t x y (.int k a) b).run P w= .ok () w:=by
 unfold eqGuard;cases op<;>simp
theorem Uj (op:BinOp)(t:TypeId)(x y:Operand)(a:Bool)(b:Value):(eqGuard op t x y (.bool a) b).run P w= .ok () w:=by
 unfold eqGuard;cases op<;>simp
theorem vM (op:BinOp)(t:TypeId)(x y:Operand)(a:Option Addr)(n c:Nat)(b:Value):(eqGuard op t x y (.slice a n c) b).run P w= .ok () w:=by
 unfold eqGuard;cases op<;>simp
theorem VR.int {n:Int}(h:VR m (.int k n) x):x= .int k n:=h
theorem tA (b:VR m v x)(d:uB v=some n): ∃a c,x= .slice a n c:=by
 cases v<;>simp only[uB] at d<;>try cases d
 ·obtain⟨p,c,e,_,rfl,_⟩:=b;exact⟨_,_,rfl⟩
 ·exact⟨none,0,b⟩
 ·exact⟨some _,0,b⟩
theorem Lb (A:HR P m h w){ws:List V}(g:VR m v x)(j:uB v=some n)(a:h.slice sz v=some ws):
  ∃xs:List Value,(∀d,(Builtin.firstCells sz n x).run P {w with drawn:=d}= .ok xs.toArray {w with drawn:=d})/\gJ m ws xs/\(∀u∈ws,u.one=true)/\xs.length=n*sz:=by
 cases v<;>simp only[uB] at j<;>try cases j
 ·rename_i id r z
  simp only[H.slice] at a
  obtain⟨p,c,l,fr,y,o,_,i,e,s⟩:=Bt A a
  obtain⟨F,B,G,b,rfl,_,t,_⟩:=g
  rw[y] at b;cases b
  by_cases f:0<n
  ·obtain rfl:=t f
   exact⟨_,λd=>kM (w:={w with drawn:=d}) o i,e,s,by simp;omega⟩
  ·obtain rfl:n=0:=om
   have q:ws= []:=WE (by rw[gJ.length e];simp)
   subst q
   exact⟨[],λd=>by simp only[Builtin.firstCells,Nat.zero_mul,loadCells,loadCellsFrom];rfl,trivial,by simp,by simp⟩
 ·simp only[H.slice] at a
  cases a
  obtain rfl:x= .slice none 0 0:=g
  exact⟨[],λd=>by simp [Builtin.firstCells],trivial,by simp,by simp⟩
 ·simp only[H.slice] at a
  cases a
  obtain rfl:x= .slice (some _) 0 0:=g
  exact⟨[],λd=>by simp only[Builtin.firstCells,Nat.zero_mul,loadCells,loadCellsFrom];rfl,trivial,by simp,by simp⟩
theorem NK {n:Int}{y:Nat}{a:BoundsCode}(c:0<=n)(b:n<=y):(Instr.sliceBound (.int k n) y a).run P w= .ok n.toNat w:=by
 simp [Instr.sliceBound,asIntOf,c,b]
def DT (m:M)(o:Option V)(x:Option Value):Prop:=match o,x with|none,none=>True|some v,some x=>VR m v x|_,_=>False
def Ip (xo:Option Value)(d top:Nat)(code:BoundsCode):Sem Nat:=match xo with|some v=>Instr.sliceBound v top code|none=>pure d
theorem lE {o:Option V}{e:Option Value}(f:DT m o e){d c r:Nat}(a:nK o d c=some r)(b:BoundsCode):
  (Ip e d c b).run P w= .ok r w:=by
 cases o with
 |none=>
  cases e with
  |none=>simp only[nK] at a;cases a;rfl
  |some x=>exact f.elim
 |some v=>
  cases e with
  |none=>exact f.elim
  |some x=>
   cases v<;>simp only[nK] at a<;>try cases a
   rename_i k n;split at a
   ·rename_i g
    cases a;obtain rfl:x= .int k n:=f;exact NK g.1 g.2
   ·cases a
theorem oS {len c l b:Nat}(a:(Ip xhi len c .sliceAcap).run P w= .ok b w)(r2:(Ip xlo 0 b .sliceB).run P w= .ok l w):
  (Instr.sliceBounds true len c xlo xhi none).run P w= .ok (l,b,c) w:=by
 cases xhi with
 |none=>
  cases xlo with
  |none=>simp only[Ip,Sem.run_pure] at a r2;cases a;cases r2;simp [Instr.sliceBounds]
  |some y=>simp only[Ip,Sem.run_pure] at a r2;cases a;simp [Instr.sliceBounds,r2]
 |some z=>
  cases xlo with
  |none=>simp only[Ip,Sem.run_pure] at a r2;cases r2;simp [Instr.sliceBounds,a]
  |some y=>simp only[Ip] at a r2;simp [Instr.sliceBounds,a,r2]
theorem Ek {len c l b:Nat}(a:(Ip xhi len c .sliceAlen).run P w= .ok b w)(r2:(Ip xlo 0 b .sliceB).run P w= .ok l w):
  (Instr.sliceBounds false len c xlo xhi none).run P w= .ok (l,b,c) w:=by
 cases xhi with
 |none=>
  cases xlo with
  |none=>simp only[Ip,Sem.run_pure] at a r2;cases a;cases r2;simp [Instr.sliceBounds]
  |some y=>simp only[Ip,Sem.run_pure] at a r2;cases a;simp [Instr.sliceBounds,r2]
 |some z=>
  cases xlo with
  |none=>simp only[Ip,Sem.run_pure] at a r2;cases r2;simp [Instr.sliceBounds,a]
  |some y=>simp only[Ip] at a r2;simp [Instr.sliceBounds,a,r2]
theorem uI {o:Option V}{d a r:Nat}(b:nK o d a=some r)(c:d<=a):r<=a:=by
 unfold nK at b;split at b
 ·cases b;exact c
 ·split at b
  ·rename_i e;cases b;omega
  ·cases b
 ·cases b
theorem LR (i:HR P m h w)(r:fW m h.next){t e:TypeId}(j:P.underlying t=some (.array n e))(z:iG P e=some sz)
  {id off:Nat} {u:V}  {g hi:Option V}  (A:VR m (.ptr id off) x) (d:DT m g xlo) (f:DT m hi xhi) (b:xU sz (.sl id off n (.kn n)) g hi none=some u):
  aT P m h w (Instr.sliceAt t x xlo xhi none) u h:=by
 have c:=fE (w:=w) z
 obtain⟨p,o,rfl⟩:=A
 simp only[xU] at b
 cases ehh:nK hi n n with
 |none=>simp [ehh] at b
 |some hh=>
  simp only[ehh] at b
  cases el:nK g 0 hh with
  |none=>simp [el] at b
  |some l=>
   simp only[el] at b;have q:=uI ehh (eH _);have y:=uI el (fR _);have s:=Ek (P:=P) (w:=w) (lE f ehh .sliceAlen) (lE d el .sliceB);split at b
   ·cases b
    by_cases a:n=l
    ·rw[bJ a]
     refine⟨.slice (some ⟨p.1,p.2.1+off,none⟩) (hh-l) (n-l),w,m,?_,⟨p,_,_,o,rfl,om,λ_=>rfl,rfl,rfl⟩,iC.refl i r⟩;simp only[Instr.sliceAt,Sem.run_bind,run_underlying j,Result.andThen_ok,Instr.sureAddr,s,c,Sem.run_pure,bJ a]
    ·rw[bL a]
     refine⟨.slice (some ⟨p.1,p.2.1+(off+l*sz),none⟩) (hh-l) (n-l),w,m,?_,⟨p,_,_,o,rfl,om,λ_=>rfl,rfl,rfl⟩,iC.refl i r⟩;simp only[Instr.sliceAt,Sem.run_bind,run_underlying j,Result.andThen_ok,Instr.sureAddr,s,c,Sem.run_pure,bL a,Option.map_some,jW,Nat.add_assoc]
   ·cases b
theorem LO (r:HR P m h w)(s:fW m h.next){t e:TypeId}(z:P.underlying t=some (.slice e))(hs:iG P e=some sz)
  {u:V}  {J hi K:Option V} {g:Option Value} (Y:VR m v x) (j:DT m J xlo) (q:DT m hi xhi) (B:DT m K g) (a:xU sz v J hi K=some u):
  aT P m h w (Instr.sliceAt t x xlo xhi g) u h:=by
 have f:=fE (w:=w) hs
 cases v<;>simp only[xU] at a<;>try cases a
 ·rename_i id a0 len Q
  obtain⟨p,c,o,G,rfl,O,ho,d⟩:=Y
  cases K with
  |some _=>cases a
  |none=>
   cases g with
   |some _=>exact B.elim
   |none=>
    cases Q with
    |kn k=>
     simp only at d a;obtain⟨d,rfl⟩:=d;subst d
     cases ehh:nK hi len c with
     |none=>simp [ehh] at a
     |some hh=>
      simp only[ehh] at a
      cases el:nK J 0 hh with
      |none=>simp [el] at a
      |some l=>
       simp only[el] at a;have F:=uI ehh O;have R:=uI el (fR _);have i:=oS (P:=P) (w:=w) (lE q ehh .sliceAcap) (lE j el .sliceB);split at a
       ·cases a
        by_cases b:c=l
        ·rw[bJ b]
         refine⟨.slice (some ⟨p.1,p.2.1+o,none⟩) (hh-l) (c-l),w,m,?_,⟨p,_,_,G,rfl,om,λ_=>rfl,rfl,rfl⟩,iC.refl r s⟩;simp only[Instr.sliceAt,Sem.run_bind,run_underlying z,Result.andThen_ok,Instr.slice,i,f,Sem.run_pure,bJ b]
        ·rw[bL b]
         refine⟨.slice (some ⟨p.1,p.2.1+(o+l*sz),none⟩) (hh-l) (c-l),w,m,?_,⟨p,_,_,G,rfl,om,λ_=>rfl,rfl,rfl⟩,iC.refl r s⟩;simp only[Instr.sliceAt,Sem.run_bind,run_underlying z,Result.andThen_ok,Instr.slice,i,f,Sem.run_pure,bL b,Option.map_some,jW,Nat.add_assoc]
       ·cases a
    |un e=>
     simp only at d a
     cases ehh:nK hi len len with
     |none=>simp [ehh] at a
     |some hh=>
      simp only[ehh] at a
      cases el:nK J 0 hh with
      |none=>simp [el] at a
      |some l=>
       simp only[el] at a;have F:=uI ehh (eH _);have R:=uI el (fR _)
       have N:nK hi len c=some hh:=by
        cases hi with
        |none=>exact ehh
        |some y=>
         cases y<;>simp only[nK] at ehh ⊢ <;>try cases ehh
         rename_i k n;split at ehh
         ·rename_i Z;cases ehh
          rw[bJ ⟨Z.1,om⟩]
         ·cases ehh
       have i:=oS (P:=P) (w:=w) (lE q N .sliceAcap) (lE j el .sliceB)
       by_cases A:e=sz
       ·subst A
        rw[bJ rfl] at a
        by_cases W:l<len
        ·rw[bJ W] at a
         cases a;have b:c≠l:=om
         obtain rfl:=ho om;refine⟨.slice (some ⟨p.1,p.2.1+(o+l*e),none⟩) (hh-l) (c-l),w,m,?_,⟨p,_,_,G,rfl,om,λ_=>rfl,?_⟩,iC.refl r s⟩
         ·simp only[Instr.sliceAt,Sem.run_bind,run_underlying z,Result.andThen_ok,Instr.slice,i,f,Sem.run_pure,bL b,Option.map_some,jW,Nat.add_assoc]
         ·simp only
          have:(c-l)*e+l*e=c*e:=by rw[←Nat.add_mul];congr 1;omega
          omega
        ·rw[bL W] at a
         cases a;obtain rfl:hh=l:=om
         by_cases b:c=hh
         ·refine⟨.slice (some ⟨p.1,p.2.1+o,none⟩) (hh-hh) (c-hh),w,m,?_,⟨p,_,o,G,by rw[Nat.sub_self],om,λh=>om,?_⟩,iC.refl r s⟩
          ·simp only[Instr.sliceAt,Sem.run_bind,run_underlying z,Result.andThen_ok,Instr.slice,i,f,Sem.run_pure,bJ b]
          ·simp only
           have:(c-hh)*e<=c*e:=Nat.mul_le_mul_right _ om;omega
         ·refine⟨.slice (some ⟨p.1,p.2.1+(o+hh*e),none⟩) (hh-hh) (c-hh),w,m,?_,⟨p,_,o+hh*e,G,by rw[Nat.sub_self],om,λh=>om,?_⟩,iC.refl r s⟩
          ·simp only[Instr.sliceAt,Sem.run_bind,run_underlying z,Result.andThen_ok,Instr.slice,i,f,Sem.run_pure,bL b,Option.map_some,jW,Nat.add_assoc]
          ·simp only
           have:(c-hh)*e+hh*e=c*e:=by rw[←Nat.add_mul];congr 1;omega
           omega
       ·rw[bL A] at a;cases a
 ·cases K with
  |some _=>simp at a
  |none=>
   cases g with
   |some _=>exact B.elim
   |none=>
    obtain rfl:x= .slice none 0 0:=Y
    cases ehh:nK hi 0 0 with
    |none=>simp [ehh] at a
    |some hh=>
     simp only[ehh] at a
     cases el:nK J 0 hh with
     |none=>simp [el] at a
     |some l=>
      simp only[el] at a;cases a;have i:=oS (P:=P) (w:=w) (lE q ehh .sliceAcap) (lE j el .sliceB);have L:hh=0:=by have:=uI ehh (eH _);omega
      subst L;have U:l=0:=by have:=uI el (eH _);omega
      subst U;refine aT.still r s (x:= .slice none 0 0) ?_ rfl;simp [Instr.sliceAt,run_underlying z,Instr.slice,i,f]
end
end
end Go.Ay
