/- What an operation hangs on. -/
import Derived.Test.YtddpkbicnolafaaGreatAy11
namespace Go.Ay
open Go
theorem Nc {ρ ρ':X->V} {h:H} {i:I} (hx: ∀ x∈i.xs,ρ x=ρ' x):cY ρ h i=cY ρ' h i:=by
 have hm: ∀ (l:List X),(∀ x∈l,ρ x=ρ' x)->l.map ρ=l.map ρ':=λ l hl=>List.map_congr_left hl
 cases i with
 |mm mx xs=>simp only [cY];rw [hm xs hx]
 |mkf f fs cs=>simp only [cY];rw [hm fs (λ x h=>hx x (by simp [I.xs,h])),hm cs (λ x h=>hx x (by simp [I.xs,h]))]
 |bld z ps=>
  simp only [cY]
  rw [show (ps.map λ p=>(p.1,p.2.1,ρ p.2.2))=ps.map λ p=>(p.1,p.2.1,ρ' p.2.2) from List.map_congr_left λ p hp=>by rw [hx p.2.2 (by simp only [I.xs,List.mem_map];exact ⟨p,hp,rfl⟩)]]
 |bls s z n ps=>
  simp only [cY]
  rw [show (ps.map λ p=>(p.1,p.2.1,ρ p.2.2))=ps.map λ p=>(p.1,p.2.1,ρ' p.2.2) from List.map_congr_left λ p hp=>by rw [hx p.2.2 (by simp only [I.xs,List.mem_map];exact ⟨p,hp,rfl⟩)]]
 |slc s x lo hi mx=>
  simp only [cY]
  rw [hx x (by simp [I.xs])]
  have e1:lo.map ρ=lo.map ρ':=by cases lo with|none=>rfl|some y=>simp [hx y (by simp [I.xs])]
  have e2:hi.map ρ=hi.map ρ':=by cases hi with|none=>rfl|some y=>simp [hx y (by simp [I.xs])]
  have e3:mx.map ρ=mx.map ρ':=by cases mx with|none=>rfl|some y=>simp [hx y (by simp [I.xs])]
  rw [e1,e2,e3]
 |sla n s x lo hi=>
  simp only [cY]
  rw [hx x (by simp [I.xs])]
  have e1:lo.map ρ=lo.map ρ':=by cases lo with|none=>rfl|some y=>simp [hx y (by simp [I.xs])]
  have e2:hi.map ρ=hi.map ρ':=by cases hi with|none=>rfl|some y=>simp [hx y (by simp [I.xs])]
  rw [e1,e2]
 |mkw s r=>
  have e1:r.map ρ=r.map ρ':=by cases r with|none=>rfl|some y=>simp [hx y (by simp [I.xs])]
  simp only [cY,e1]
 |_=>simp only [cY,I.xs,List.mem_cons,List.mem_nil_iff,or_false,forall_eq_or_imp,forall_eq,List.not_mem_nil] at hx ⊢ <;>simp only [hx]
set_option maxHeartbeats 1000000 in
theorem FO {ρ:X->V} {h h':H} {i:I} {v:V} (h1:i.vY=false) (h2:i.oU=false) (h3:i.wT=false) (he:cY ρ h i=some (v,h')):
  h'=h/\ ∀ h2,cY ρ h2 i=some (v,h2):=by
 cases i<;>simp [I.vY,I.oU,I.wT] at h1 h2 h3<;>simp only [cY,Option.map_map] at he ⊢ <;>
  (repeat' first
   |(cases he;done)
   |(cases he;exact ⟨rfl,λ _=>by simp [*]⟩)
   |exact ⟨rfl,λ _=>rfl⟩
   |(simp only [oE,Prod.mk.injEq] at he;obtain ⟨_,e1,rfl,rfl⟩:=he;exact ⟨rfl,λ _=>by simp [*]⟩)
   |split at he)
theorem XZ {ρ:X->V} {h h':H} {i:I} {v:V} (h1:i.vY=true) (he:cY ρ h i=some (v,h')):h'=h:=by
 cases i<;>simp [I.vY] at h1<;>simp only [cY] at he<;>
  (repeat' first
   |(cases he;done)
   |(cases he;rfl)
   |(simp only [oE,Prod.mk.injEq] at he;obtain ⟨_,e1,e2,rfl⟩:=he;rfl)
   |split at he)
theorem QQ {ρ:X->V} {vs ws:List V} {h:H} {i:I} (h1:i.vY=true):cY (xv vs ws) h (i.close ρ)=cY ρ h i:=by
 cases i<;>simp [I.vY] at h1<;>first|rfl|simp only [cY,I.close,xv]
set_option maxHeartbeats 1000000 in
theorem ajI {ρ:X->V} {h h':H} {i:I} {v:V} (h1:i.oU=true) (he:cY ρ h i=some (v,h')):
  ∃ o:Ob,o.rw=true/\h'=h.new o/\ ∀ h2:H,h2.next=h.next->cY ρ h2 i=some (v,h2.new o):=by
 cases i<;>simp [I.oU] at h1<;>simp only [cY,Ms] at he ⊢
 case alc z=>cases he;exact ⟨_,rfl,rfl,λ h2 e=>by rw [e]⟩
 case mkm=>cases he;exact ⟨_,rfl,rfl,λ h2 e=>by rw [e]⟩
 case mkw s r=>
  split at he
  ·rename_i hc
   cases he;exact ⟨_,rfl,rfl,λ h2 e=>by rw [if_pos hc,e]⟩
  ·cases he
 case box x=>
  split at he
  ·rename_i hc
   cases he;exact ⟨.cells false (ρ x).cells,rfl,rfl,λ h2 e=>by rw [if_pos hc,e]⟩
  ·cases he
 case mks s b z l c=>
  split at he
  ·rename_i k1 l1 k2 c1 e1 e2
   split at he
   ·rename_i hc
    cases he
    exact ⟨_,rfl,rfl,λ h2 e=>by rw [if_pos hc,e]⟩
   ·cases he
  ·cases he
 case bls s z n ps=>
  split at he
  ·rename_i cs e1
   split at he
   ·rename_i hc
    cases he
    exact ⟨_,rfl,rfl,λ h2 e=>by rw [if_pos hc,e]⟩
   ·cases he
  ·cases he
theorem GM {cl yl:dZ} {act:eD} {vars vars2 loc:List V} {h:H} (hx: ∀ x∈act.xs,xv vars loc x=xv vars2 loc x):
  nK cl yl vars loc h act=nK cl yl vars2 loc h act:=by
 cases act with
 |op i=>rw [xR,xR];exact Nc hx
 |call g args=>rw [xC,xC];rw [show args.map (xv vars loc)=args.map (xv vars2 loc) from List.map_congr_left (λ x h=>hx x h)]
 |callv x args=>
  rw [uF,uF]
  rw [hx x (by simp [eD.xs]),List.map_congr_left (λ y h=>hx y (by simp [eD.xs,h]))]
 |calli g t x args=>
  rw [tK,tK]
  rw [hx x (by simp [eD.xs]),List.map_congr_left (λ y h=>hx y (by simp [eD.xs,h]))]
 |callp g args=>rw [nQ,nQ];rw [show args.map (xv vars loc)=args.map (xv vars2 loc) from List.map_congr_left (λ x h=>hx x h)]
end Go.Ay
