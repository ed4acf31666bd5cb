/- What an operation hangs on. -/
import Derived.Test.YtcdbmkidaecdiaaGreatAy11
namespace Go.Ay
open Go
section
variable {ρ:X->V} {h h':H} {i:I} {v:V}
theorem Jp {ρ':X->V}(a: ∀x∈i.xs,ρ x=ρ' x):fC ρ h i=fC ρ' h i:=by
 have d: ∀(l:List X),(∀x∈l,ρ x=ρ' x)->l.map ρ=l.map ρ':=λl g=>Xa g
 cases i with
 |mkf f fs cs=>simp only[fC];rw[d fs (λx h=>a x (by simp [I.xs,h])),d cs (λx h=>a x (by simp [I.xs,h]))]
 |bld z ps=>
  simp only[fC];rw[show (ps.map λp=>(p.1,p.2.1,ρ p.2.2))=ps.map λp=>(p.1,p.2.1,ρ' p.2.2) from Xa λp b=>by rw[a p.2.2 (by simp only[I.xs,pH];exact⟨p,b,rfl⟩)]]
 |bls s z n ps=>
  simp only[fC];rw[show (ps.map λp=>(p.1,p.2.1,ρ p.2.2))=ps.map λp=>(p.1,p.2.1,ρ' p.2.2) from Xa λp b=>by rw[a p.2.2 (by simp only[I.xs,pH];exact⟨p,b,rfl⟩)]]
 |slc s x lo hi mx=>
  simp only[fC];rw[a x (by simp [I.xs])];have c:lo.map ρ=lo.map ρ':=by cases lo with|none=>rfl|some y=>simp [a y (by simp [I.xs])]
  have j:hi.map ρ=hi.map ρ':=by cases hi with|none=>rfl|some y=>simp [a y (by simp [I.xs])]
  have e:mx.map ρ=mx.map ρ':=by cases mx with|none=>rfl|some y=>simp [a y (by simp [I.xs])]
  rw[c,j,e]
 |mkw s r=>
  have c:r.map ρ=r.map ρ':=by cases r with|none=>rfl|some y=>simp [a y (by simp [I.xs])]
  simp only[fC,c]
 |_=>simp only[fC,I.xs,vI,List.mem_nil_iff,or_false,forall_eq_or_imp,forall_eq,List.not_mem_nil] at a ⊢ <;>simp only[a]
set_option maxHeartbeats 1000000 in
theorem Xd (b:i.tM=false)(h2:i.oE=false)(h3:i.vH=false)(a:fC ρ h i=some (v,h')):
  h'=h/\ ∀h2,fC ρ h2 i=some (v,h2):=by
 cases i<;>simp [I.tM,I.oE,I.vH] at b h2 h3<;>simp only[fC,Option.map_map] at a ⊢ <;>
  (repeat' first
   |(cases a;done)
   |(cases a;exact⟨rfl,λ_=>by simp [*]⟩)
   |exact⟨rfl,λ_=>rfl⟩
   |(simp only[oU,Prod.mk.injEq] at a;obtain⟨_,c,rfl,rfl⟩:=a;exact⟨rfl,λ_=>by simp [*]⟩)
   |split at a)
theorem RE (b:i.tM=true)(a:fC ρ h i=some (v,h')):h'=h:=by
 cases i<;>simp [I.tM] at b<;>simp only[fC] at a<;>
  (repeat' first
   |(cases a;done)
   |(cases a;rfl)
   |(simp only[oU,Prod.mk.injEq] at a;obtain⟨_,d,c,rfl⟩:=a;rfl)
   |split at a)
theorem LZ {vs ws:List V}(a:i.tM=true):fC (xv vs ws) h (i.close ρ)=fC ρ h i:=by
 cases i<;>simp [I.tM] at a<;>first|rfl|simp only[fC,I.close,xv]
set_option maxHeartbeats 1000000 in
theorem agG (f:i.oE=true)(a:fC ρ h i=some (v,h')):
  ∃o:Ob,o.rw=true/\h'=h.new o/\ ∀h2:H,h2.next=h.next->fC ρ h2 i=some (v,h2.new o):=by
 cases i<;>simp [I.oE] at f<;>simp only[fC,Jz] at a ⊢
 case alc z=>cases a;exact⟨_,rfl,rfl,λh2 e=>by rw[e]⟩
 case mkw s r=>
  split at a
  ·rename_i d
   cases a;exact⟨_,rfl,rfl,λh2 e=>by rw[bJ d,e]⟩
  ·cases a
 case box x=>
  split at a
  ·rename_i d
   cases a;exact⟨.cells false (ρ x).cells,rfl,rfl,λh2 e=>by rw[bJ d,e]⟩
  ·cases a
 case mks s b z l c=>
  split at a
  ·rename_i m t j p g q
   split at a
   ·rename_i d
    cases a;exact⟨_,rfl,rfl,λh2 e=>by rw[bJ d,e]⟩
   ·cases a
  ·cases a
 case bls s z n ps=>
  split at a
  ·rename_i k g
   split at a
   ·rename_i d
    cases a;exact⟨_,rfl,rfl,λh2 e=>by rw[bJ d,e]⟩
   ·cases a
  ·cases a
theorem Zv {j f:lQ}{d:fO}{c a b:List V}(e: ∀x∈d.xs,xv c b x=xv a b x):
  uN j f c b h d=uN j f a b h d:=by
 cases d with
 |op i=>exact Jp e
 |call g args=>simp only[uN];rw[show args.map (xv c b)=args.map (xv a b) from Xa (λx h=>e x h)]
 |callv x args=>
  simp only[uN];rw[e x (by simp [fO.xs]),Xa (λy h=>e y (by simp [fO.xs,h]))]
end
end Go.Ay
