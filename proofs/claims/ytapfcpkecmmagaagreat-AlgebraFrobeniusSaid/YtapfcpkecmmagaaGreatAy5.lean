/- Each operation of the intermediate code is the model's. -/
import Derived.Test.YtapfcpkecmmagaaGreatAy4
namespace Go.Ay
open Go
section
variable {v:V} {x:Value} {k:IntKind} {n sz:Nat} {xlo xhi:Option Value}
def Yields (P:Program)(o:Oper)(a:Act)(w:World)(x:Value)(w':World):Prop:=
 (execOp a.eval o).run P w= .ok (.value x) w'∨((execOp a.eval o).run P w= .ok .skip w'/\x=undef)
section
variable {P:Program} {m:M} {h:H} {w:World}
def aS (P:Program)(m:M)(h:H)(w:World)(s:Sem Value)(v:V)(h':H):Prop:=
 ∃x w' m',s.run P w= .ok x w'/\VR m' v x/\eS P m h w m' h' w'
theorem aS.still (hr:HR P m h w)(hf:eD m h.next){s:Sem Value}(h1:s.run P w= .ok x w)(h2:VR m v x):aS P m h w s v h:=
 ⟨x,w,m,h1,h2,eS.refl hr hf⟩
theorem Cn {op:BinOp}{a b:Int}(he:arith op k a b=some v)(t:TypeId): ∃x,(binOp op t (.int k a) (.int k b)).run P w= .ok x w/\VR m v x:=by
 cases op<;>simp only[arith] at he<;>first
  |(cases he;done)
  |(cases he;exact⟨_,by simp [binOp,Op.intArith,Op.intCmp,Op.intBits];done,rfl⟩)
  |(split at he
    ·cases he
    ·rename_i hb
     cases he
     exact⟨_,by simp [binOp,Op.intDiv,hb],rfl⟩)
theorem Eu {op:BinOp}{a b:Int}{j:IntKind}(he:sT op k a b=some v)(t:TypeId): ∃x,(binOp op t (.int k a) (.int j b)).run P w= .ok x w/\VR m v x:=by
 unfold sT at he;split at he
 ·cases he
 ·rename_i hb
  cases op<;>simp only at he<;>first
   |(cases he;done)
   |(cases he;exact⟨_,by simp [binOp,Op.shift,hb],rfl⟩)
theorem tY (op:BinOp)(t:TypeId)(x y:Operand)(k:IntKind)(a:Int)(b:Value):(eqGuard op t x y (.int k a) b).run P w= .ok () w:=by
 unfold eqGuard;cases op<;>simp
theorem Ao (op:BinOp)(t:TypeId)(x y:Operand)(a:Bool)(b:Value):(eqGuard op t x y (.bool a) b).run P w= .ok () w:=by
 unfold eqGuard;cases op<;>simp
theorem mP (op:BinOp)(t:TypeId)(x y:Operand)(a:Option Addr)(n c:Nat)(b:Value):(eqGuard op t x y (.slice a n c) b).run P w= .ok () w:=by
 unfold eqGuard;cases op<;>simp
theorem VR.int {n:Int}(h:VR m (.int k n) x):x= .int k n:=h
theorem lI (hx:VR m v x)(he:kM v=some n): ∃a c,x= .slice a n c:=by
 cases v<;>simp only[kM] at he<;>try cases he
 ·obtain⟨p,c,o',_,rfl,_⟩:=hx;exact⟨_,_,rfl⟩
 ·exact⟨none,0,hx⟩
 ·exact⟨some _,0,hx⟩
theorem tU (hr:HR P m h w){ws:List V}(hx:VR m v x)(hn:kM v=some n)(hs:h.slice sz v=some ws):
  ∃xs:List Value,(∀d,(Builtin.firstCells sz n x).run P {w with drawn:=d}= .ok xs.toArray {w with drawn:=d})/\eG m ws xs/\(∀u∈ws,u.one=true)/\xs.length=n*sz:=by
 cases v<;>simp only[kM] at hn<;>try cases hn
 ·rename_i id off cap
  simp only[H.slice] at hs
  obtain⟨p,c,elem,fr,hp,hb,_,hle,hvr,h1⟩:=pZ hr hs
  obtain⟨p',c',o',hp',rfl,_,ho,_⟩:=hx
  rw[hp] at hp';cases hp'
  by_cases hn0:0<n
  ·obtain rfl:=ho hn0
   exact⟨_,λd=>gG (w:={w with drawn:=d}) hb hle,hvr,h1,by simp;omega⟩
  ·obtain rfl:n=0:=by omega
   have hw:ws= []:=List.eq_nil_of_length_eq_zero (by rw[eG.length hvr];simp)
   subst hw
   exact⟨[],λd=>by simp only[Builtin.firstCells,Nat.zero_mul,loadCells,loadCellsFrom];rfl,trivial,by simp,by simp⟩
 ·simp only[H.slice] at hs
  cases hs
  obtain rfl:x= .slice none 0 0:=hx
  exact⟨[],λd=>by simp [Builtin.firstCells],trivial,by simp,by simp⟩
 ·simp only[H.slice] at hs
  cases hs
  obtain rfl:x= .slice (some _) 0 0:=hx
  exact⟨[],λd=>by simp only[Builtin.firstCells,Nat.zero_mul,loadCells,loadCellsFrom];rfl,trivial,by simp,by simp⟩
theorem Kg {n:Int}{y:Nat}{code:BoundsCode}(h0:0<=n)(h1:n<=y):(Instr.sliceBound (.int k n) y code).run P w= .ok n.toNat w:=by
 simp [Instr.sliceBound,asIntOf,h0,h1]
def El (m:M)(o:Option V)(x:Option Value):Prop:=match o,x with|none,none=>True|some v,some x=>VR m v x|_,_=>False
def sS (xo:Option Value)(d top:Nat)(code:BoundsCode):Sem Nat:=match xo with|some v=>Instr.sliceBound v top code|none=>pure d
theorem gY {o:Option V}{xo:Option Value}(hx:El m o xo){d top r:Nat}(he:jF o d top=some r)(code:BoundsCode):
  (sS xo d top code).run P w= .ok r w:=by
 cases o with
 |none=>
  cases xo with
  |none=>simp only[jF] at he;cases he;rfl
  |some x=>exact hx.elim
 |some v=>
  cases xo with
  |none=>exact hx.elim
  |some x=>
   cases v<;>simp only[jF] at he<;>try cases he
   rename_i k n;split at he
   ·rename_i hc
    cases he;obtain rfl:x= .int k n:=hx;exact Kg hc.1 hc.2
   ·cases he
theorem jB {len c l hh:Nat}(r1:(sS xhi len c .sliceAcap).run P w= .ok hh w)(r2:(sS xlo 0 hh .sliceB).run P w= .ok l w):
  (Instr.sliceBounds true len c xlo xhi none).run P w= .ok (l,hh,c) w:=by
 cases xhi with
 |none=>
  cases xlo with
  |none=>simp only[sS,Sem.run_pure] at r1 r2;cases r1;cases r2;simp [Instr.sliceBounds]
  |some y=>simp only[sS,Sem.run_pure] at r1 r2;cases r1;simp [Instr.sliceBounds,r2]
 |some z=>
  cases xlo with
  |none=>simp only[sS,Sem.run_pure] at r1 r2;cases r2;simp [Instr.sliceBounds,r1]
  |some y=>simp only[sS] at r1 r2;simp [Instr.sliceBounds,r1,r2]
theorem rD {len c l hh:Nat}(r1:(sS xhi len c .sliceAlen).run P w= .ok hh w)(r2:(sS xlo 0 hh .sliceB).run P w= .ok l w):
  (Instr.sliceBounds false len c xlo xhi none).run P w= .ok (l,hh,c) w:=by
 cases xhi with
 |none=>
  cases xlo with
  |none=>simp only[sS,Sem.run_pure] at r1 r2;cases r1;cases r2;simp [Instr.sliceBounds]
  |some y=>simp only[sS,Sem.run_pure] at r1 r2;cases r1;simp [Instr.sliceBounds,r2]
 |some z=>
  cases xlo with
  |none=>simp only[sS,Sem.run_pure] at r1 r2;cases r2;simp [Instr.sliceBounds,r1]
  |some y=>simp only[sS] at r1 r2;simp [Instr.sliceBounds,r1,r2]
theorem mE {o:Option V}{d top r:Nat}(he:jF o d top=some r)(hd:d<=top):r<=top:=by
 unfold jF at he;split at he
 ·cases he;exact hd
 ·split at he
  ·rename_i hc;cases he;omega
  ·cases he
 ·cases he
theorem Il (hr:HR P m h w)(hf:eD m h.next){t e:TypeId}(ht:P.underlying t=some (.array n e))(hs:eU P e=some sz)
  {id off:Nat} {u:V}  {lo hi:Option V}  (hx:VR m (.ptr id off) x) (hlo:El m lo xlo) (hhi:El m hi xhi) (he:nJ sz (.sl id off n (.kn n)) lo hi none=some u):
  aS P m h w (Instr.sliceAt t x xlo xhi none) u h:=by
 have hsz:=dR (w:=w) hs
 obtain⟨p,hp,rfl⟩:=hx
 simp only[nJ] at he
 cases ehh:jF hi n n with
 |none=>simp [ehh] at he
 |some hh=>
  simp only[ehh] at he
  cases el:jF lo 0 hh with
  |none=>simp [el] at he
  |some l=>
   simp only[el] at he;have hhle:=mE ehh (eP _);have hll:=mE el (gK _);have rb:=rD (P:=P) (w:=w) (gY hhi ehh .sliceAlen) (gY hlo el .sliceB);split at he
   ·cases he
    by_cases hcl:n=l
    ·rw[if_pos hcl]
     refine⟨.slice (some ⟨p.1,p.2.1+off,none⟩) (hh-l) (n-l),w,m,?_,⟨p,_,_,hp,rfl,by omega,λ_=>rfl,rfl,rfl⟩,eS.refl hr hf⟩;simp only[Instr.sliceAt,Sem.run_bind,run_underlying ht,Result.andThen_ok,Instr.sureAddr,rb,hsz,Sem.run_pure,if_pos hcl]
    ·rw[if_neg hcl]
     refine⟨.slice (some ⟨p.1,p.2.1+(off+l*sz),none⟩) (hh-l) (n-l),w,m,?_,⟨p,_,_,hp,rfl,by omega,λ_=>rfl,rfl,rfl⟩,eS.refl hr hf⟩;simp only[Instr.sliceAt,Sem.run_bind,run_underlying ht,Result.andThen_ok,Instr.sureAddr,rb,hsz,Sem.run_pure,if_neg hcl,Option.map_some,fX,Nat.add_assoc]
   ·cases he
theorem Jb (hr:HR P m h w)(hf:eD m h.next){t e:TypeId}(ht:P.underlying t=some (.slice e))(hs:eU P e=some sz)
  {u:V}  {lo hi mx:Option V} {xmx:Option Value} (hx:VR m v x) (hlo:El m lo xlo) (hhi:El m hi xhi) (hmx:El m mx xmx) (he:nJ sz v lo hi mx=some u):
  aS P m h w (Instr.sliceAt t x xlo xhi xmx) u h:=by
 have hsz:=dR (w:=w) hs
 cases v<;>simp only[nJ] at he<;>try cases he
 ·rename_i id off len cap
  obtain⟨p,c,o',hp,rfl,hlc,ho,hcap⟩:=hx
  cases mx with
  |some _=>cases he
  |none=>
   cases xmx with
   |some _=>exact hmx.elim
   |none=>
    cases cap with
    |kn k=>
     simp only at hcap he;obtain⟨hcap,rfl⟩:=hcap;subst hcap
     cases ehh:jF hi len c with
     |none=>simp [ehh] at he
     |some hh=>
      simp only[ehh] at he
      cases el:jF lo 0 hh with
      |none=>simp [el] at he
      |some l=>
       simp only[el] at he;have hhle:=mE ehh hlc;have hll:=mE el (gK _);have rb:=jB (P:=P) (w:=w) (gY hhi ehh .sliceAcap) (gY hlo el .sliceB);split at he
       ·cases he
        by_cases hcl:c=l
        ·rw[if_pos hcl]
         refine⟨.slice (some ⟨p.1,p.2.1+o',none⟩) (hh-l) (c-l),w,m,?_,⟨p,_,_,hp,rfl,by omega,λ_=>rfl,rfl,rfl⟩,eS.refl hr hf⟩;simp only[Instr.sliceAt,Sem.run_bind,run_underlying ht,Result.andThen_ok,Instr.slice,rb,hsz,Sem.run_pure,if_pos hcl]
        ·rw[if_neg hcl]
         refine⟨.slice (some ⟨p.1,p.2.1+(o'+l*sz),none⟩) (hh-l) (c-l),w,m,?_,⟨p,_,_,hp,rfl,by omega,λ_=>rfl,rfl,rfl⟩,eS.refl hr hf⟩;simp only[Instr.sliceAt,Sem.run_bind,run_underlying ht,Result.andThen_ok,Instr.slice,rb,hsz,Sem.run_pure,if_neg hcl,Option.map_some,fX,Nat.add_assoc]
       ·cases he
    |un e=>
     simp only at hcap he
     cases ehh:jF hi len len with
     |none=>simp [ehh] at he
     |some hh=>
      simp only[ehh] at he
      cases el:jF lo 0 hh with
      |none=>simp [el] at he
      |some l=>
       simp only[el] at he;have hhle:=mE ehh (eP _);have hll:=mE el (gK _)
       have eh':jF hi len c=some hh:=by
        cases hi with
        |none=>exact ehh
        |some y=>
         cases y<;>simp only[jF] at ehh ⊢ <;>try cases ehh
         rename_i k n;split at ehh
         ·rename_i hc;cases ehh
          rw[if_pos ⟨hc.1,by omega⟩]
         ·cases ehh
       have rb:=jB (P:=P) (w:=w) (gY hhi eh' .sliceAcap) (gY hlo el .sliceB)
       by_cases hes:e=sz
       ·subst hes
        rw[if_pos rfl] at he
        by_cases hl:l<len
        ·rw[if_pos hl] at he
         cases he;have hcl:c≠l:=by omega
         obtain rfl:=ho (by omega);refine⟨.slice (some ⟨p.1,p.2.1+(o'+l*e),none⟩) (hh-l) (c-l),w,m,?_,⟨p,_,_,hp,rfl,by omega,λ_=>rfl,?_⟩,eS.refl hr hf⟩
         ·simp only[Instr.sliceAt,Sem.run_bind,run_underlying ht,Result.andThen_ok,Instr.slice,rb,hsz,Sem.run_pure,if_neg hcl,Option.map_some,fX,Nat.add_assoc]
         ·simp only
          have:(c-l)*e+l*e=c*e:=by rw[←Nat.add_mul];congr 1;omega
          omega
        ·rw[if_neg hl] at he
         cases he;obtain rfl:hh=l:=by omega
         by_cases hcl:c=hh
         ·refine⟨.slice (some ⟨p.1,p.2.1+o',none⟩) (hh-hh) (c-hh),w,m,?_,⟨p,_,o',hp,by rw[Nat.sub_self],by omega,λh=>by omega,?_⟩,eS.refl hr hf⟩
          ·simp only[Instr.sliceAt,Sem.run_bind,run_underlying ht,Result.andThen_ok,Instr.slice,rb,hsz,Sem.run_pure,if_pos hcl]
          ·simp only
           have:(c-hh)*e<=c*e:=Nat.mul_le_mul_right _ (by omega);omega
         ·refine⟨.slice (some ⟨p.1,p.2.1+(o'+hh*e),none⟩) (hh-hh) (c-hh),w,m,?_,⟨p,_,o'+hh*e,hp,by rw[Nat.sub_self],by omega,λh=>by omega,?_⟩,eS.refl hr hf⟩
          ·simp only[Instr.sliceAt,Sem.run_bind,run_underlying ht,Result.andThen_ok,Instr.slice,rb,hsz,Sem.run_pure,if_neg hcl,Option.map_some,fX,Nat.add_assoc]
          ·simp only
           have:(c-hh)*e+hh*e=c*e:=by rw[←Nat.add_mul];congr 1;omega
           omega
       ·rw[if_neg hes] at he;cases he
 ·cases mx with
  |some _=>simp at he
  |none=>
   cases xmx with
   |some _=>exact hmx.elim
   |none=>
    obtain rfl:x= .slice none 0 0:=hx
    cases ehh:jF hi 0 0 with
    |none=>simp [ehh] at he
    |some hh=>
     simp only[ehh] at he
     cases el:jF lo 0 hh with
     |none=>simp [el] at he
     |some l=>
      simp only[el] at he;cases he;have rb:=jB (P:=P) (w:=w) (gY hhi ehh .sliceAcap) (gY hlo el .sliceB);have hh0:hh=0:=by have:=mE ehh (eP _);omega
      subst hh0;have hl0:l=0:=by have:=mE el (eP _);omega
      subst hl0;refine aS.still hr hf (x:= .slice none 0 0) ?_ rfl;simp [Instr.sliceAt,run_underlying ht,Instr.slice,rb,hsz]
end
end
end Go.Ay
