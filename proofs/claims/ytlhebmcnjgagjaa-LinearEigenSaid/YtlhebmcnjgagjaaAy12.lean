/- What an operation hangs on. -/
import Derived.Test.YtlhebmcnjgagjaaAy11
namespace Go.Ay
open Go

theorem evI_congr {ρ ρ' : X → V} {h : H} {i : I} (hx : ∀ x ∈ i.xs, ρ x = ρ' x) : evI ρ h i = evI ρ' h i := by
  have hm : ∀ (l : List X), (∀ x ∈ l, ρ x = ρ' x) → l.map ρ = l.map ρ' := fun l hl => List.map_congr_left hl
  cases i with
  | mm mx xs => simp only [evI]; rw [hm xs hx]
  | mkf f fs cs => simp only [evI]; rw [hm fs (fun x h => hx x (by simp [I.xs, h])), hm cs (fun x h => hx x (by simp [I.xs, h]))]
  | bld z ps =>
    simp only [evI]
    rw [show (ps.map fun p => (p.1, p.2.1, ρ p.2.2)) = ps.map fun p => (p.1, p.2.1, ρ' p.2.2) from List.map_congr_left fun p hp => by rw [hx p.2.2 (by simp only [I.xs, List.mem_map]; exact ⟨p, hp, rfl⟩)]]
  | bls s z n ps =>
    simp only [evI]
    rw [show (ps.map fun p => (p.1, p.2.1, ρ p.2.2)) = ps.map fun p => (p.1, p.2.1, ρ' p.2.2) from List.map_congr_left fun p hp => by rw [hx p.2.2 (by simp only [I.xs, List.mem_map]; exact ⟨p, hp, rfl⟩)]]
  | slc s x lo hi mx =>
    simp only [evI]
    rw [hx x (by simp [I.xs])]
    have e1 : lo.map ρ = lo.map ρ' := by cases lo with | none => rfl | some y => simp [hx y (by simp [I.xs])]
    have e2 : hi.map ρ = hi.map ρ' := by cases hi with | none => rfl | some y => simp [hx y (by simp [I.xs])]
    have e3 : mx.map ρ = mx.map ρ' := by cases mx with | none => rfl | some y => simp [hx y (by simp [I.xs])]
    rw [e1, e2, e3]
  | _ => simp only [evI, I.xs, List.mem_cons, List.mem_nil_iff, or_false, forall_eq_or_imp, forall_eq, List.not_mem_nil] at hx ⊢ <;> simp only [hx]

set_option maxHeartbeats 1000000 in
/-- A pure operation. -/
theorem evI_pure {ρ : X → V} {h h' : H} {i : I} {v : V} (h1 : i.isRd = false) (h2 : i.isAl = false) (h3 : i.isW = false) (he : evI ρ h i = some (v, h')) :
    h' = h ∧ ∀ h2, evI ρ h2 i = some (v, h2) := by
  cases i <;> simp [I.isRd, I.isAl, I.isW] at h1 h2 h3 <;> simp only [evI, Option.map_map] at he ⊢ <;>
    (repeat' first
      | (cases he; done)
      | (cases he; exact ⟨rfl, fun _ => by simp [*]⟩)
      | exact ⟨rfl, fun _ => rfl⟩
      | (simp only [Option.map_eq_some_iff, Prod.mk.injEq] at he; obtain ⟨_, e1, e2, rfl⟩ := he; exact ⟨rfl, fun _ => by simp [*]⟩)
      | split at he)

/-- A read. -/
theorem evI_rd {ρ : X → V} {h h' : H} {i : I} {v : V} (h1 : i.isRd = true) (he : evI ρ h i = some (v, h')) : h' = h := by
  cases i <;> simp [I.isRd] at h1 <;> simp only [evI] at he <;>
    (repeat' first
      | (cases he; done)
      | (cases he; rfl)
      | (simp only [Option.map_eq_some_iff, Prod.mk.injEq] at he; obtain ⟨_, e1, e2, rfl⟩ := he; rfl)
      | split at he)

theorem evI_close {ρ : X → V} {vs ws : List V} {h : H} {i : I} (h1 : i.isRd = true) : evI (xv vs ws) h (i.close ρ) = evI ρ h i := by
  cases i <;> simp [I.isRd] at h1 <;> simp only [evI, I.close, xv]

set_option maxHeartbeats 1000000 in
/-- What makes an object does nothing else. -/
theorem evI_al {ρ : X → V} {h h' : H} {i : I} {v : V} (h1 : i.isAl = true) (he : evI ρ h i = some (v, h')) :
    ∃ o : Ob, o.rw = true ∧ h' = h.new o ∧ ∀ h2 : H, h2.next = h.next → evI ρ h2 i = some (v, h2.new o) := by
  cases i <;> simp [I.isAl] at h1 <;> simp only [evI, mksV] at he ⊢
  case alc z => cases he; exact ⟨_, rfl, rfl, fun h2 e => by rw [e]⟩
  case mkm => cases he; exact ⟨_, rfl, rfl, fun h2 e => by rw [e]⟩
  case box x =>
    split at he
    · rename_i hc
      cases he; exact ⟨.cells false (ρ x).cells, rfl, rfl, fun h2 e => by rw [if_pos hc, e]⟩
    · cases he
  case mks s b z l c =>
    split at he
    · rename_i k1 l1 k2 c1 e1 e2
      split at he
      · rename_i hc
        cases he
        exact ⟨_, rfl, rfl, fun h2 e => by rw [if_pos hc, e]⟩
      · cases he
    · cases he
  case bls s z n ps =>
    split at he
    · rename_i cs e1
      split at he
      · rename_i hc
        cases he
        exact ⟨_, rfl, rfl, fun h2 e => by rw [if_pos hc, e]⟩
      · cases he
    · cases he

mutual
theorem eqV_eq : ∀ (a b : V), eqV a b = true → a = b
  | .int .., .int .., h => by simp [eqV] at h; simp [h]
  | .bool _, .bool _, h => by simp [eqV] at h; simp [h]
  | .ptr .., .ptr .., h => by simp [eqV] at h; simp [h]
  | .nilp, .nilp, _ => rfl
  | .sl .., .sl .., h => by simp [eqV] at h; simp [h]
  | .nils, .nils, _ => rfl
  | .emp _, .emp _, h => by simp [eqV] at h; rw [h]
  | .mp _, .mp _, h => by simp [eqV] at h; simp [h]
  | .nilm, .nilm, _ => rfl
  | .fn _ a b, .fn _ c d, h => by
    simp only [eqV, Bool.and_eq_true, beq_iff_eq] at h
    rw [h.1.1, eqVs_eq a c h.1.2, eqVs_eq b d h.2]
  | .yl _, .yl _, h => by simp [eqV] at h; simp [h]
  | .nilf, .nilf, _ => rfl
  | .agg a, .agg b, h => by simp only [eqV] at h; rw [eqVs_eq a b h]
  | .tup a, .tup b, h => by simp only [eqV] at h; rw [eqVs_eq a b h]
  | .unk, b, h => by simp [eqV] at h
  | .int .., .bool _, h | .int .., .ptr .., h | .int .., .nilp, h | .int .., .sl .., h | .int .., .nils, h | .int .., .mp _, h | .int .., .nilm, h | .int .., .fn .., h | .int .., .yl _, h | .int .., .nilf, h | .int .., .agg _, h | .int .., .tup _, h | .int .., .unk, h => by simp [eqV] at h
  | .bool _, .int .., h | .bool _, .ptr .., h | .bool _, .nilp, h | .bool _, .sl .., h | .bool _, .nils, h | .bool _, .mp _, h | .bool _, .nilm, h | .bool _, .fn .., h | .bool _, .yl _, h | .bool _, .nilf, h | .bool _, .agg _, h | .bool _, .tup _, h | .bool _, .unk, h => by simp [eqV] at h
  | .ptr .., .int .., h | .ptr .., .bool _, h | .ptr .., .nilp, h | .ptr .., .sl .., h | .ptr .., .nils, h | .ptr .., .mp _, h | .ptr .., .nilm, h | .ptr .., .fn .., h | .ptr .., .yl _, h | .ptr .., .nilf, h | .ptr .., .agg _, h | .ptr .., .tup _, h | .ptr .., .unk, h => by simp [eqV] at h
  | .nilp, .int .., h | .nilp, .bool _, h | .nilp, .ptr .., h | .nilp, .sl .., h | .nilp, .nils, h | .nilp, .mp _, h | .nilp, .nilm, h | .nilp, .fn .., h | .nilp, .yl _, h | .nilp, .nilf, h | .nilp, .agg _, h | .nilp, .tup _, h | .nilp, .unk, h => by simp [eqV] at h
  | .sl .., .int .., h | .sl .., .bool _, h | .sl .., .ptr .., h | .sl .., .nilp, h | .sl .., .nils, h | .sl .., .mp _, h | .sl .., .nilm, h | .sl .., .fn .., h | .sl .., .yl _, h | .sl .., .nilf, h | .sl .., .agg _, h | .sl .., .tup _, h | .sl .., .unk, h => by simp [eqV] at h
  | .nils, .int .., h | .nils, .bool _, h | .nils, .ptr .., h | .nils, .nilp, h | .nils, .sl .., h | .nils, .mp _, h | .nils, .nilm, h | .nils, .fn .., h | .nils, .yl _, h | .nils, .nilf, h | .nils, .agg _, h | .nils, .tup _, h | .nils, .unk, h => by simp [eqV] at h
  | .mp _, .int .., h | .mp _, .bool _, h | .mp _, .ptr .., h | .mp _, .nilp, h | .mp _, .sl .., h | .mp _, .nils, h | .mp _, .nilm, h | .mp _, .fn .., h | .mp _, .yl _, h | .mp _, .nilf, h | .mp _, .agg _, h | .mp _, .tup _, h | .mp _, .unk, h => by simp [eqV] at h
  | .nilm, .int .., h | .nilm, .bool _, h | .nilm, .ptr .., h | .nilm, .nilp, h | .nilm, .sl .., h | .nilm, .nils, h | .nilm, .mp _, h | .nilm, .fn .., h | .nilm, .yl _, h | .nilm, .nilf, h | .nilm, .agg _, h | .nilm, .tup _, h | .nilm, .unk, h => by simp [eqV] at h
  | .fn .., .int .., h | .fn .., .bool _, h | .fn .., .ptr .., h | .fn .., .nilp, h | .fn .., .sl .., h | .fn .., .nils, h | .fn .., .mp _, h | .fn .., .nilm, h | .fn .., .yl _, h | .fn .., .nilf, h | .fn .., .agg _, h | .fn .., .tup _, h | .fn .., .unk, h => by simp [eqV] at h
  | .yl _, .int .., h | .yl _, .bool _, h | .yl _, .ptr .., h | .yl _, .nilp, h | .yl _, .sl .., h | .yl _, .nils, h | .yl _, .mp _, h | .yl _, .nilm, h | .yl _, .fn .., h | .yl _, .nilf, h | .yl _, .agg _, h | .yl _, .tup _, h | .yl _, .unk, h => by simp [eqV] at h
  | .nilf, .int .., h | .nilf, .bool _, h | .nilf, .ptr .., h | .nilf, .nilp, h | .nilf, .sl .., h | .nilf, .nils, h | .nilf, .mp _, h | .nilf, .nilm, h | .nilf, .fn .., h | .nilf, .yl _, h | .nilf, .agg _, h | .nilf, .tup _, h | .nilf, .unk, h => by simp [eqV] at h
  | .agg _, .int .., h | .agg _, .bool _, h | .agg _, .ptr .., h | .agg _, .nilp, h | .agg _, .sl .., h | .agg _, .nils, h | .agg _, .mp _, h | .agg _, .nilm, h | .agg _, .fn .., h | .agg _, .yl _, h | .agg _, .nilf, h | .agg _, .tup _, h | .agg _, .unk, h => by simp [eqV] at h
  | .tup _, .int .., h | .tup _, .bool _, h | .tup _, .ptr .., h | .tup _, .nilp, h | .tup _, .sl .., h | .tup _, .nils, h | .tup _, .mp _, h | .tup _, .nilm, h | .tup _, .fn .., h | .tup _, .yl _, h | .tup _, .nilf, h | .tup _, .agg _, h | .tup _, .unk, h => by simp [eqV] at h
theorem eqVs_eq : ∀ (a b : List V), eqVs a b = true → a = b
  | [], [], _ => rfl
  | x :: a, y :: b, h => by
    simp only [eqVs, Bool.and_eq_true] at h
    rw [eqV_eq x y h.1, eqVs_eq a b h.2]
  | [], _ :: _, h => by simp [eqVs] at h
  | _ :: _, [], h => by simp [eqVs] at h
end

theorem evAct_congr {cl yl : CallF} {act : Act1} {vars vars2 loc : List V} {h : H} (hx : ∀ x ∈ act.xs, xv vars loc x = xv vars2 loc x) :
    evAct cl yl vars loc h act = evAct cl yl vars2 loc h act := by
  cases act with
  | op i => rw [evAct_op, evAct_op]; exact evI_congr hx
  | call g args => rw [evAct_call, evAct_call]; rw [show args.map (xv vars loc) = args.map (xv vars2 loc) from List.map_congr_left (fun x h => hx x h)]
  | callv x args =>
    rw [evAct_callv, evAct_callv]
    rw [hx x (by simp [Act1.xs]), List.map_congr_left (fun y h => hx y (by simp [Act1.xs, h]))]
  | callp g args => rw [evAct_callp, evAct_callp]; rw [show args.map (xv vars loc) = args.map (xv vars2 loc) from List.map_congr_left (fun x h => hx x h)]

end Go.Ay

