/- What an operation hangs on. -/
import Derived.Test.YtddpkbicnolafaaGreatAy11
namespace Go.Ay
open Go

theorem evI_congr {ρ ρ' : X → V} {h : H} {i : I} (hx : ∀ x ∈ i.xs, ρ x = ρ' x) : evI ρ h i = evI ρ' h i := by
  have hm : ∀ (l : List X), (∀ x ∈ l, ρ x = ρ' x) → l.map ρ = l.map ρ' := fun l hl => List.map_congr_left hl
  cases i with
  | mm mx xs => simp only [evI]; rw [hm xs hx]
  | mkf f fs cs => simp only [evI]; rw [hm fs (fun x h => hx x (by simp [I.xs, h])), hm cs (fun x h => hx x (by simp [I.xs, h]))]
  | bld z ps =>
    simp only [evI]
    rw [show (ps.map fun p => (p.1, p.2.1, ρ p.2.2)) = ps.map fun p => (p.1, p.2.1, ρ' p.2.2) from List.map_congr_left fun p hp => by rw [hx p.2.2 (by simp only [I.xs, List.mem_map]; exact ⟨p, hp, rfl⟩)]]
  | bls s z n ps =>
    simp only [evI]
    rw [show (ps.map fun p => (p.1, p.2.1, ρ p.2.2)) = ps.map fun p => (p.1, p.2.1, ρ' p.2.2) from List.map_congr_left fun p hp => by rw [hx p.2.2 (by simp only [I.xs, List.mem_map]; exact ⟨p, hp, rfl⟩)]]
  | slc s x lo hi mx =>
    simp only [evI]
    rw [hx x (by simp [I.xs])]
    have e1 : lo.map ρ = lo.map ρ' := by cases lo with | none => rfl | some y => simp [hx y (by simp [I.xs])]
    have e2 : hi.map ρ = hi.map ρ' := by cases hi with | none => rfl | some y => simp [hx y (by simp [I.xs])]
    have e3 : mx.map ρ = mx.map ρ' := by cases mx with | none => rfl | some y => simp [hx y (by simp [I.xs])]
    rw [e1, e2, e3]
  | mkw s r =>
    have e1 : r.map ρ = r.map ρ' := by cases r with | none => rfl | some y => simp [hx y (by simp [I.xs])]
    simp only [evI, e1]
  | _ => simp only [evI, I.xs, List.mem_cons, List.mem_nil_iff, or_false, forall_eq_or_imp, forall_eq, List.not_mem_nil] at hx ⊢ <;> simp only [hx]

set_option maxHeartbeats 1000000 in
/-- A pure operation. -/
theorem evI_pure {ρ : X → V} {h h' : H} {i : I} {v : V} (h1 : i.isRd = false) (h2 : i.isAl = false) (h3 : i.isW = false) (he : evI ρ h i = some (v, h')) :
    h' = h ∧ ∀ h2, evI ρ h2 i = some (v, h2) := by
  cases i <;> simp [I.isRd, I.isAl, I.isW] at h1 h2 h3 <;> simp only [evI, Option.map_map] at he ⊢ <;>
    (repeat' first
      | (cases he; done)
      | (cases he; exact ⟨rfl, fun _ => by simp [*]⟩)
      | exact ⟨rfl, fun _ => rfl⟩
      | (simp only [Option.map_eq_some_iff, Prod.mk.injEq] at he; obtain ⟨_, e1, rfl, rfl⟩ := he; exact ⟨rfl, fun _ => by simp [*]⟩)
      | split at he)

/-- A read. -/
theorem evI_rd {ρ : X → V} {h h' : H} {i : I} {v : V} (h1 : i.isRd = true) (he : evI ρ h i = some (v, h')) : h' = h := by
  cases i <;> simp [I.isRd] at h1 <;> simp only [evI] at he <;>
    (repeat' first
      | (cases he; done)
      | (cases he; rfl)
      | (simp only [Option.map_eq_some_iff, Prod.mk.injEq] at he; obtain ⟨_, e1, e2, rfl⟩ := he; rfl)
      | split at he)

theorem evI_close {ρ : X → V} {vs ws : List V} {h : H} {i : I} (h1 : i.isRd = true) : evI (xv vs ws) h (i.close ρ) = evI ρ h i := by
  cases i <;> simp [I.isRd] at h1 <;> first | rfl | simp only [evI, I.close, xv]

set_option maxHeartbeats 1000000 in
/-- What makes an object does nothing else. -/
theorem evI_al {ρ : X → V} {h h' : H} {i : I} {v : V} (h1 : i.isAl = true) (he : evI ρ h i = some (v, h')) :
    ∃ o : Ob, o.rw = true ∧ h' = h.new o ∧ ∀ h2 : H, h2.next = h.next → evI ρ h2 i = some (v, h2.new o) := by
  cases i <;> simp [I.isAl] at h1 <;> simp only [evI, mksV] at he ⊢
  case alc z => cases he; exact ⟨_, rfl, rfl, fun h2 e => by rw [e]⟩
  case mkm => cases he; exact ⟨_, rfl, rfl, fun h2 e => by rw [e]⟩
  case mkw s r =>
    split at he
    · rename_i hc
      cases he; exact ⟨_, rfl, rfl, fun h2 e => by rw [if_pos hc, e]⟩
    · cases he
  case box x =>
    split at he
    · rename_i hc
      cases he; exact ⟨.cells false (ρ x).cells, rfl, rfl, fun h2 e => by rw [if_pos hc, e]⟩
    · cases he
  case mks s b z l c =>
    split at he
    · rename_i k1 l1 k2 c1 e1 e2
      split at he
      · rename_i hc
        cases he
        exact ⟨_, rfl, rfl, fun h2 e => by rw [if_pos hc, e]⟩
      · cases he
    · cases he
  case bls s z n ps =>
    split at he
    · rename_i cs e1
      split at he
      · rename_i hc
        cases he
        exact ⟨_, rfl, rfl, fun h2 e => by rw [if_pos hc, e]⟩
      · cases he
    · cases he

theorem evAct_congr {cl yl : CallF} {act : Act1} {vars vars2 loc : List V} {h : H} (hx : ∀ x ∈ act.xs, xv vars loc x = xv vars2 loc x) :
    evAct cl yl vars loc h act = evAct cl yl vars2 loc h act := by
  cases act with
  | op i => rw [evAct_op, evAct_op]; exact evI_congr hx
  | call g args => rw [evAct_call, evAct_call]; rw [show args.map (xv vars loc) = args.map (xv vars2 loc) from List.map_congr_left (fun x h => hx x h)]
  | callv x args =>
    rw [evAct_callv, evAct_callv]
    rw [hx x (by simp [Act1.xs]), List.map_congr_left (fun y h => hx y (by simp [Act1.xs, h]))]
  | calli g t x args =>
    rw [evAct_calli, evAct_calli]
    rw [hx x (by simp [Act1.xs]), List.map_congr_left (fun y h => hx y (by simp [Act1.xs, h]))]
  | callp g args => rw [evAct_callp, evAct_callp]; rw [show args.map (xv vars loc) = args.map (xv vars2 loc) from List.map_congr_left (fun x h => hx x h)]

end Go.Ay

