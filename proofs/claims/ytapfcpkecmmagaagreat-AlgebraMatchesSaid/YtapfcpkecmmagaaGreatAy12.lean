/- What an operation hangs on. -/
import Derived.Test.YtapfcpkecmmagaaGreatAy11
namespace Go.Ay
open Go
section
variable {ρ:X->V} {h h':H} {i:I} {v:V}
theorem xB {ρ':X->V}(a: ∀x∈i.xs,ρ x=ρ' x):cZ ρ h i=cZ ρ' h i:=by
 have d: ∀(l:List X),(∀x∈l,ρ x=ρ' x)->l.map ρ=l.map ρ':=λl g=>yZ g
 cases i with
 |mm mx xs=>simp only[cZ];rw[d xs a]
 |mkf f fs cs=>simp only[cZ];rw[d fs (λx h=>a x (by simp [I.xs,h])),d cs (λx h=>a x (by simp [I.xs,h]))]
 |bld z ps=>
  simp only[cZ];rw[show (ps.map λp=>(p.1,p.2.1,ρ p.2.2))=ps.map λp=>(p.1,p.2.1,ρ' p.2.2) from yZ λp e=>by rw[a p.2.2 (by simp only[I.xs,pU];exact⟨p,e,rfl⟩)]]
 |bls s z n ps=>
  simp only[cZ];rw[show (ps.map λp=>(p.1,p.2.1,ρ p.2.2))=ps.map λp=>(p.1,p.2.1,ρ' p.2.2) from yZ λp e=>by rw[a p.2.2 (by simp only[I.xs,pU];exact⟨p,e,rfl⟩)]]
 |slc s x lo hi mx=>
  simp only[cZ];rw[a x (by simp [I.xs])];have b:lo.map ρ=lo.map ρ':=by cases lo with|none=>rfl|some y=>simp [a y (by simp [I.xs])]
  have c:hi.map ρ=hi.map ρ':=by cases hi with|none=>rfl|some y=>simp [a y (by simp [I.xs])]
  have j:mx.map ρ=mx.map ρ':=by cases mx with|none=>rfl|some y=>simp [a y (by simp [I.xs])]
  rw[b,c,j]
 |sla n s x lo hi=>
  simp only[cZ];rw[a x (by simp [I.xs])];have b:lo.map ρ=lo.map ρ':=by cases lo with|none=>rfl|some y=>simp [a y (by simp [I.xs])]
  have c:hi.map ρ=hi.map ρ':=by cases hi with|none=>rfl|some y=>simp [a y (by simp [I.xs])]
  rw[b,c]
 |mkw s r=>
  have b:r.map ρ=r.map ρ':=by cases r with|none=>rfl|some y=>simp [a y (by simp [I.xs])]
  simp only[cZ,b]
 |_=>simp only[cZ,I.xs,Dw,List.mem_nil_iff,or_false,forall_eq_or_imp,forall_eq,List.not_mem_nil] at a ⊢ <;>simp only[a]
set_option maxHeartbeats 1000000 in
theorem Kf (b:i.mL=false)(h2:i.jR=false)(h3:i.nP=false)(a:cZ ρ h i=some (v,h')):
  h'=h/\ ∀h2,cZ ρ h2 i=some (v,h2):=by
 cases i<;>simp [I.mL,I.jR,I.nP] at b h2 h3<;>simp only[cZ,Option.map_map] at a ⊢ <;>
  (repeat' first
   |(cases a;done)
   |(cases a;exact⟨rfl,λ_=>by simp [*]⟩)
   |exact⟨rfl,λ_=>rfl⟩
   |(simp only[jA,Prod.mk.injEq] at a;obtain⟨_,c,rfl,rfl⟩:=a;exact⟨rfl,λ_=>by simp [*]⟩)
   |split at a)
theorem Yf (b:i.mL=true)(a:cZ ρ h i=some (v,h')):h'=h:=by
 cases i<;>simp [I.mL] at b<;>simp only[cZ] at a<;>
  (repeat' first
   |(cases a;done)
   |(cases a;rfl)
   |(simp only[jA,Prod.mk.injEq] at a;obtain⟨_,c,c,rfl⟩:=a;rfl)
   |split at a)
theorem Sv {vs ws:List V}(a:i.mL=true):cZ (xv vs ws) h (i.close ρ)=cZ ρ h i:=by
 cases i<;>simp [I.mL] at a<;>first|rfl|simp only[cZ,I.close,xv]
set_option maxHeartbeats 1000000 in
theorem EC (f:i.jR=true)(a:cZ ρ h i=some (v,h')):
  ∃o:Ob,o.rw=true/\h'=h.new o/\ ∀h2:H,h2.next=h.next->cZ ρ h2 i=some (v,h2.new o):=by
 cases i<;>simp [I.jR] at f<;>simp only[cZ,vH] at a ⊢
 case alc z=>cases a;exact⟨_,rfl,rfl,λh2 e=>by rw[e]⟩
 case mkm=>cases a;exact⟨_,rfl,rfl,λh2 e=>by rw[e]⟩
 case mkw s r=>
  split at a
  ·rename_i d
   cases a;exact⟨_,rfl,rfl,λh2 e=>by rw[aV d,e]⟩
  ·cases a
 case box x=>
  split at a
  ·rename_i d
   cases a;exact⟨.cells false (ρ x).cells,rfl,rfl,λh2 e=>by rw[aV d,e]⟩
  ·cases a
 case mks s b z l c=>
  split at a
  ·rename_i p q t j g k
   split at a
   ·rename_i d
    cases a;exact⟨_,rfl,rfl,λh2 e=>by rw[aV d,e]⟩
   ·cases a
  ·cases a
 case bls s z n ps=>
  split at a
  ·rename_i m g
   split at a
   ·rename_i d
    cases a;exact⟨_,rfl,rfl,λh2 e=>by rw[aV d,e]⟩
   ·cases a
  ·cases a
theorem Kw {j f:dP}{d:dV}{c a b:List V}(e: ∀x∈d.xs,xv c b x=xv a b x):
  jC j f c b h d=jC j f a b h d:=by
 cases d with
 |op i=>rw[nG,nG];exact xB e
 |call g args=>rw[mW,mW];rw[show args.map (xv c b)=args.map (xv a b) from yZ (λx h=>e x h)]
 |callv x args=>
  rw[mC,mC];rw[e x (by simp [dV.xs]),yZ (λy h=>e y (by simp [dV.xs,h]))]
 |calli g t x args=>
  rw[mB,mB];rw[e x (by simp [dV.xs]),yZ (λy h=>e y (by simp [dV.xs,h]))]
 |callp g args=>rw[jG,jG];rw[show args.map (xv c b)=args.map (xv a b) from yZ (λx h=>e x h)]
end
end Go.Ay
