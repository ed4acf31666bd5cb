/- What an operation hangs on. -/
import Derived.Test.YtapfcpkecmmagaaGreatAy11
namespace Go.Ay
open Go
section
variable {ρ:X->V} {h h':H} {i:I} {v:V}
theorem tL {ρ':X->V}(hx: ∀x∈i.xs,ρ x=ρ' x):cI ρ h i=cI ρ' h i:=by
 have hm: ∀(l:List X),(∀x∈l,ρ x=ρ' x)->l.map ρ=l.map ρ':=λl hl=>List.map_congr_left hl
 cases i with
 |mm mx xs=>simp only[cI];rw[hm xs hx]
 |mkf f fs cs=>simp only[cI];rw[hm fs (λx h=>hx x (by simp [I.xs,h])),hm cs (λx h=>hx x (by simp [I.xs,h]))]
 |bld z ps=>
  simp only[cI];rw[show (ps.map λp=>(p.1,p.2.1,ρ p.2.2))=ps.map λp=>(p.1,p.2.1,ρ' p.2.2) from List.map_congr_left λp hp=>by rw[hx p.2.2 (by simp only[I.xs,jH];exact⟨p,hp,rfl⟩)]]
 |bls s z n ps=>
  simp only[cI];rw[show (ps.map λp=>(p.1,p.2.1,ρ p.2.2))=ps.map λp=>(p.1,p.2.1,ρ' p.2.2) from List.map_congr_left λp hp=>by rw[hx p.2.2 (by simp only[I.xs,jH];exact⟨p,hp,rfl⟩)]]
 |slc s x lo hi mx=>
  simp only[cI];rw[hx x (by simp [I.xs])];have e1:lo.map ρ=lo.map ρ':=by cases lo with|none=>rfl|some y=>simp [hx y (by simp [I.xs])]
  have e2:hi.map ρ=hi.map ρ':=by cases hi with|none=>rfl|some y=>simp [hx y (by simp [I.xs])]
  have e3:mx.map ρ=mx.map ρ':=by cases mx with|none=>rfl|some y=>simp [hx y (by simp [I.xs])]
  rw[e1,e2,e3]
 |sla n s x lo hi=>
  simp only[cI];rw[hx x (by simp [I.xs])];have e1:lo.map ρ=lo.map ρ':=by cases lo with|none=>rfl|some y=>simp [hx y (by simp [I.xs])]
  have e2:hi.map ρ=hi.map ρ':=by cases hi with|none=>rfl|some y=>simp [hx y (by simp [I.xs])]
  rw[e1,e2]
 |mkw s r=>
  have e1:r.map ρ=r.map ρ':=by cases r with|none=>rfl|some y=>simp [hx y (by simp [I.xs])]
  simp only[cI,e1]
 |_=>simp only[cI,I.xs,List.mem_cons,List.mem_nil_iff,or_false,forall_eq_or_imp,forall_eq,List.not_mem_nil] at hx ⊢ <;>simp only[hx]
set_option maxHeartbeats 1000000 in
theorem Dq (h1:i.kT=false)(h2:i.iJ=false)(h3:i.lH=false)(he:cI ρ h i=some (v,h')):
  h'=h/\ ∀h2,cI ρ h2 i=some (v,h2):=by
 cases i<;>simp [I.kT,I.iJ,I.lH] at h1 h2 h3<;>simp only[cI,Option.map_map] at he ⊢ <;>
  (repeat' first
   |(cases he;done)
   |(cases he;exact⟨rfl,λ_=>by simp [*]⟩)
   |exact⟨rfl,λ_=>rfl⟩
   |(simp only[gJ,Prod.mk.injEq] at he;obtain⟨_,e1,rfl,rfl⟩:=he;exact⟨rfl,λ_=>by simp [*]⟩)
   |split at he)
theorem Mg (h1:i.kT=true)(he:cI ρ h i=some (v,h')):h'=h:=by
 cases i<;>simp [I.kT] at h1<;>simp only[cI] at he<;>
  (repeat' first
   |(cases he;done)
   |(cases he;rfl)
   |(simp only[gJ,Prod.mk.injEq] at he;obtain⟨_,e1,e2,rfl⟩:=he;rfl)
   |split at he)
theorem Im {vs ws:List V}(h1:i.kT=true):cI (xv vs ws) h (i.close ρ)=cI ρ h i:=by
 cases i<;>simp [I.kT] at h1<;>first|rfl|simp only[cI,I.close,xv]
set_option maxHeartbeats 1000000 in
theorem Wv (h1:i.iJ=true)(he:cI ρ h i=some (v,h')):
  ∃o:Ob,o.rw=true/\h'=h.new o/\ ∀h2:H,h2.next=h.next->cI ρ h2 i=some (v,h2.new o):=by
 cases i<;>simp [I.iJ] at h1<;>simp only[cI,tF] at he ⊢
 case alc z=>cases he;exact⟨_,rfl,rfl,λh2 e=>by rw[e]⟩
 case mkm=>cases he;exact⟨_,rfl,rfl,λh2 e=>by rw[e]⟩
 case mkw s r=>
  split at he
  ·rename_i hc
   cases he;exact⟨_,rfl,rfl,λh2 e=>by rw[if_pos hc,e]⟩
  ·cases he
 case box x=>
  split at he
  ·rename_i hc
   cases he;exact⟨.cells false (ρ x).cells,rfl,rfl,λh2 e=>by rw[if_pos hc,e]⟩
  ·cases he
 case mks s b z l c=>
  split at he
  ·rename_i k1 l1 k2 c1 e1 e2
   split at he
   ·rename_i hc
    cases he;exact⟨_,rfl,rfl,λh2 e=>by rw[if_pos hc,e]⟩
   ·cases he
  ·cases he
 case bls s z n ps=>
  split at he
  ·rename_i cs e1
   split at he
   ·rename_i hc
    cases he;exact⟨_,rfl,rfl,λh2 e=>by rw[if_pos hc,e]⟩
   ·cases he
  ·cases he
theorem Dc {cl yl:dD}{act:dE}{vars vars2 loc:List V}(hx: ∀x∈act.xs,xv vars loc x=xv vars2 loc x):
  gO cl yl vars loc h act=gO cl yl vars2 loc h act:=by
 cases act with
 |op i=>rw[lX,lX];exact tL hx
 |call g args=>rw[lB,lB];rw[show args.map (xv vars loc)=args.map (xv vars2 loc) from List.map_congr_left (λx h=>hx x h)]
 |callv x args=>
  rw[kI,kI];rw[hx x (by simp [dE.xs]),List.map_congr_left (λy h=>hx y (by simp [dE.xs,h]))]
 |calli g t x args=>
  rw[kH,kH];rw[hx x (by simp [dE.xs]),List.map_congr_left (λy h=>hx y (by simp [dE.xs,h]))]
 |callp g args=>rw[gW,gW];rw[show args.map (xv vars loc)=args.map (xv vars2 loc) from List.map_congr_left (λx h=>hx x h)]
end
end Go.Ay
