/- What an operation hangs on. -/
import Derived.Test.YtapfcpkecmmagaaGreatAy11
namespace Go.Ay
open Go
section
variable {ρ:X->V} {h h':H} {i:I} {v:V}
theorem Ds {ρ':X->V}(hx: ∀x∈i.xs,ρ x=ρ' x):cU ρ h i=cU ρ' h i:=by
 have hm: ∀(l:List X),(∀x∈l,ρ x=ρ' x)->l.map ρ=l.map ρ':=λl hl=>List.map_congr_left hl
 cases i with
 |mm mx xs=>simp only[cU];rw[hm xs hx]
 |mkf f fs cs=>simp only[cU];rw[hm fs (λx h=>hx x (by simp [I.xs,h])),hm cs (λx h=>hx x (by simp [I.xs,h]))]
 |bld z ps=>
  simp only[cU];rw[show (ps.map λp=>(p.1,p.2.1,ρ p.2.2))=ps.map λp=>(p.1,p.2.1,ρ' p.2.2) from List.map_congr_left λp hp=>by rw[hx p.2.2 (by simp only[I.xs,xB];exact⟨p,hp,rfl⟩)]]
 |bls s z n ps=>
  simp only[cU];rw[show (ps.map λp=>(p.1,p.2.1,ρ p.2.2))=ps.map λp=>(p.1,p.2.1,ρ' p.2.2) from List.map_congr_left λp hp=>by rw[hx p.2.2 (by simp only[I.xs,xB];exact⟨p,hp,rfl⟩)]]
 |slc s x lo hi mx=>
  simp only[cU];rw[hx x (by simp [I.xs])];have e1:lo.map ρ=lo.map ρ':=by cases lo with|none=>rfl|some y=>simp [hx y (by simp [I.xs])]
  have e2:hi.map ρ=hi.map ρ':=by cases hi with|none=>rfl|some y=>simp [hx y (by simp [I.xs])]
  have e3:mx.map ρ=mx.map ρ':=by cases mx with|none=>rfl|some y=>simp [hx y (by simp [I.xs])]
  rw[e1,e2,e3]
 |sla n s x lo hi=>
  simp only[cU];rw[hx x (by simp [I.xs])];have e1:lo.map ρ=lo.map ρ':=by cases lo with|none=>rfl|some y=>simp [hx y (by simp [I.xs])]
  have e2:hi.map ρ=hi.map ρ':=by cases hi with|none=>rfl|some y=>simp [hx y (by simp [I.xs])]
  rw[e1,e2]
 |mkw s r=>
  have e1:r.map ρ=r.map ρ':=by cases r with|none=>rfl|some y=>simp [hx y (by simp [I.xs])]
  simp only[cU,e1]
 |_=>simp only[cU,I.xs,List.mem_cons,List.mem_nil_iff,or_false,forall_eq_or_imp,forall_eq,List.not_mem_nil] at hx ⊢ <;>simp only[hx]
set_option maxHeartbeats 1000000 in
theorem Ry (h1:i.qY=false)(h2:i.lX=false)(h3:i.rR=false)(he:cU ρ h i=some (v,h')):
  h'=h/\ ∀h2,cU ρ h2 i=some (v,h2):=by
 cases i<;>simp [I.qY,I.lX,I.rR] at h1 h2 h3<;>simp only[cU,Option.map_map] at he ⊢ <;>
  (repeat' first
   |(cases he;done)
   |(cases he;exact⟨rfl,λ_=>by simp [*]⟩)
   |exact⟨rfl,λ_=>rfl⟩
   |(simp only[kW,Prod.mk.injEq] at he;obtain⟨_,e1,rfl,rfl⟩:=he;exact⟨rfl,λ_=>by simp [*]⟩)
   |split at he)
theorem MW (h1:i.qY=true)(he:cU ρ h i=some (v,h')):h'=h:=by
 cases i<;>simp [I.qY] at h1<;>simp only[cU] at he<;>
  (repeat' first
   |(cases he;done)
   |(cases he;rfl)
   |(simp only[kW,Prod.mk.injEq] at he;obtain⟨_,e1,e2,rfl⟩:=he;rfl)
   |split at he)
theorem DQ {vs ws:List V}(h1:i.qY=true):cU (xv vs ws) h (i.close ρ)=cU ρ h i:=by
 cases i<;>simp [I.qY] at h1<;>first|rfl|simp only[cU,I.close,xv]
set_option maxHeartbeats 1000000 in
theorem aaA (h1:i.lX=true)(he:cU ρ h i=some (v,h')):
  ∃o:Ob,o.rw=true/\h'=h.new o/\ ∀h2:H,h2.next=h.next->cU ρ h2 i=some (v,h2.new o):=by
 cases i<;>simp [I.lX] at h1<;>simp only[cU,Ef] at he ⊢
 case alc z=>cases he;exact⟨_,rfl,rfl,λh2 e=>by rw[e]⟩
 case mkm=>cases he;exact⟨_,rfl,rfl,λh2 e=>by rw[e]⟩
 case mkw s r=>
  split at he
  ·rename_i hc
   cases he;exact⟨_,rfl,rfl,λh2 e=>by rw[if_pos hc,e]⟩
  ·cases he
 case box x=>
  split at he
  ·rename_i hc
   cases he;exact⟨.cells false (ρ x).cells,rfl,rfl,λh2 e=>by rw[if_pos hc,e]⟩
  ·cases he
 case mks s b z l c=>
  split at he
  ·rename_i k1 l1 k2 c1 e1 e2
   split at he
   ·rename_i hc
    cases he;exact⟨_,rfl,rfl,λh2 e=>by rw[if_pos hc,e]⟩
   ·cases he
  ·cases he
 case bls s z n ps=>
  split at he
  ·rename_i cs e1
   split at he
   ·rename_i hc
    cases he;exact⟨_,rfl,rfl,λh2 e=>by rw[if_pos hc,e]⟩
   ·cases he
  ·cases he
theorem Uc {cl yl:dU}{act:dZ}{vars vars2 loc:List V}(hx: ∀x∈act.xs,xv vars loc x=xv vars2 loc x):
  lI cl yl vars loc h act=lI cl yl vars2 loc h act:=by
 cases act with
 |op i=>rw[rN,rN];exact Ds hx
 |call g args=>rw[rZ,rZ];rw[show args.map (xv vars loc)=args.map (xv vars2 loc) from List.map_congr_left (λx h=>hx x h)]
 |callv x args=>
  rw[qB,qB];rw[hx x (by simp [dZ.xs]),List.map_congr_left (λy h=>hx y (by simp [dZ.xs,h]))]
 |calli g t x args=>
  rw[pY,pY];rw[hx x (by simp [dZ.xs]),List.map_congr_left (λy h=>hx y (by simp [dZ.xs,h]))]
 |callp g args=>rw[lJ,lJ];rw[show args.map (xv vars loc)=args.map (xv vars2 loc) from List.map_congr_left (λx h=>hx x h)]
end
end Go.Ay
