/- A heap that knows more answers alike. -/
import Derived.Test.YtddpkbicnolafaaGreatAy25
namespace Go.Ay
/-- 'b' holds what 'a' holds. -/
structure HL (a b : H) : Prop where
  next : a.next = b.next
  get : ∀ (id : Nat) (o : Ob), a.get id = some o → b.get id = some o
theorem HL.refl (a : H) : HL a a := ⟨rfl, fun _ _ e => e⟩
theorem HL.set {a b : H} (l : HL a b) (id : Nat) (o : Option Ob) : HL (a.set id o) (b.set id o) := ⟨l.next, fun k p e => by
  rw [H.get_set] at e ⊢
  split
  · rename_i hk; rw [if_pos hk] at e; exact e
  · rename_i hk; rw [if_neg hk] at e; exact l.get k p e⟩
theorem HL.new {a b : H} (l : HL a b) (o : Ob) : HL (a.new o) (b.new o) := ⟨by rw [H.next_new, H.next_new, l.next], fun k p e => by
  rw [H.get_new] at e ⊢
  rw [← l.next]
  split
  · rename_i hk; rw [if_pos hk] at e; exact e
  · rename_i hk; rw [if_neg hk] at e; exact l.get k p e⟩
theorem HL.row {a b : H} (l : HL a b) {id off n : Nat} {vs : List V} (e : a.row id off n = some vs) : b.row id off n = some vs := by
  unfold H.row at e ⊢
  split at e
  · rename_i hg; rw [l.get id _ hg]; exact e
  · cases e
theorem HL.slice {a b : H} (l : HL a b) {sz : Nat} {x : V} {vs : List V} (e : a.slice sz x = some vs) : b.slice sz x = some vs := by
  cases x <;> first | exact e | exact l.row e
theorem HL.put {a b : H} (l : HL a b) {id off : Nat} {ws : List V} {a' : H} (e : a.put id off ws = some a') : ∃ b', b.put id off ws = some b' ∧ HL a' b' := by
  unfold H.put at e ⊢
  split at e
  · rename_i vs hg
    rw [l.get id _ hg]
    cases hp : putAt vs off ws with
    | none => rw [hp] at e; cases e
    | some vs' => rw [hp] at e; cases e; exact ⟨_, by simp only [hp]; rfl, l.set _ _⟩
  · cases e
theorem HL.ld {a b : H} (l : HL a b) {agg : Bool} {n : Nat} {x v : V} (e : ldV a agg n x = some v) : ldV b agg n x = some v := by
  unfold ldV at e ⊢
  split at e
  · rename_i id off
    cases hr : a.row id off n with
    | none => rw [hr] at e; cases e
    | some vs => rw [hr] at e; simp only [l.row hr]; exact e
  · cases e
/-- An operation's answer, on a heap that knows more. -/
def Ans (o o' : Option (V × H)) : Prop := ∀ v a', o = some (v, a') → ∃ b', o' = some (v, b') ∧ HL a' b'
theorem Ans.same {a b : H} (l : HL a b) (o : Option V) : Ans (o.map (·, a)) (o.map (·, b)) := by
  intro v a' e
  cases o with
  | none => cases e
  | some w => cases e; exact ⟨b, rfl, l⟩
theorem Ans.pure {a b : H} (l : HL a b) (v : V) : Ans (some (v, a)) (some (v, b)) := by
  intro v a' e; cases e; exact ⟨b, rfl, l⟩
theorem Ans.none (o' : Option (V × H)) : Ans none o' := by intro v a' e; cases e
theorem HL.app {a b : H} (l : HL a b) (sz bytes : Nat) (x : V) (m : Nat) (ys : List V) : Ans (appV a sz bytes x m ys) (appV b sz bytes x m ys) := by
  intro v a' e
  unfold appV at e ⊢
  cases hn : lenV x with
  | none => rw [hn] at e; cases e
  | some n =>
    cases hs : a.slice sz x with
    | none => rw [hn, hs] at e; cases e
    | some xs =>
      rw [hn, hs] at e
      rw [l.slice hs]
      simp only at e ⊢
      split at e
      · rename_i h0; rw [if_pos h0]; cases e; exact ⟨b, rfl, l⟩
      · rename_i h0
        rw [if_neg h0]
        split at e
        · rename_i h1
          rw [if_pos h1]
          split at e
          · split at e
            · rename_i h2
              rw [if_pos h2]
              split at e
              · rename_i hp
                obtain ⟨b', e', l'⟩ := l.put hp
                cases e
                exact ⟨b', by rw [e'], l'⟩
              · cases e
            · rename_i h2
              rw [if_neg h2]
              cases e
              exact ⟨_, by rw [l.next], l.new _⟩
          · split at e
            · rename_i hg
              rw [l.get _ _ hg]
              simp only
              split at e
              · rename_i h3
                rw [if_pos h3]
                cases e
                exact ⟨_, by rw [l.next], (l.set _ _).new _⟩
              · cases e
            · cases e
          · cases e
          · cases e
            exact ⟨_, by rw [l.next], l.new _⟩
        · cases e
theorem HL.cpy {a b : H} (l : HL a b) (sz : Nat) (x y : V) : Ans (cpyV a sz x y) (cpyV b sz x y) := by
  intro v a' e
  unfold cpyV at e ⊢
  split at e
  · simp only at e ⊢
    split at e
    · split at e
      · rename_i hr
        rw [l.row hr]
        simp only
        split at e
        · rename_i hp
          obtain ⟨b', e', l'⟩ := l.put hp
          cases e
          exact ⟨b', by rw [e'], l'⟩
        · cases e
      · cases e
    · split at e
      · rename_i hk; rw [if_pos hk]; cases e; exact ⟨b, rfl, l⟩
      · cases e
  · cases e
theorem HL.mks {a b : H} (l : HL a b) (sz bytes : Nat) (zero : List V) (x y : V) : Ans (mksV a sz bytes zero x y) (mksV b sz bytes zero x y) := by
  intro v a' e
  unfold mksV at e ⊢
  split at e
  · split at e
    · rename_i hk; rw [if_pos hk]; cases e; exact ⟨_, by rw [l.next], l.new _⟩
    · cases e
  · cases e
theorem Ans.mapf {α : Type} {a b : H} (l : HL a b) (f : α → V) (o : Option α) : Ans (o.map fun x => (f x, a)) (o.map fun x => (f x, b)) := by
  intro v a' e
  cases o with
  | none => cases e
  | some w => cases e; exact ⟨b, rfl, l⟩
theorem Ans.ite {c : Prop} [Decidable c] {o o' : Option (V × H)} (h : Ans o o') : Ans (if c then o else Option.none) (if c then o' else Option.none) := by
  by_cases hc : c
  · rw [if_pos hc, if_pos hc]; exact h
  · rw [if_neg hc, if_neg hc]; exact Ans.none _
theorem Ans.ite2 {c : Prop} [Decidable c] {o o' p p' : Option (V × H)} (h : Ans o o') (k : Ans p p') : Ans (if c then o else p) (if c then o' else p') := by
  by_cases hc : c
  · rw [if_pos hc, if_pos hc]; exact h
  · rw [if_neg hc, if_neg hc]; exact k
theorem HL.evI {a b : H} (l : HL a b) (ρ : X → V) (i : I) : Ans (Go.Ay.evI ρ a i) (Go.Ay.evI ρ b i) := by
  cases i <;> simp only [Go.Ay.evI]
  case mov => exact Ans.pure l _
  case pick c x y => cases ρ c <;> first | exact Ans.none _ | exact Ans.pure l _
  case bin op k x y => cases ρ x <;> first | exact Ans.none _ | (cases ρ y <;> first | exact Ans.none _ | exact Ans.ite (Ans.same l _))
  case shf op k x y => cases ρ x <;> first | exact Ans.none _ | (cases ρ y <;> first | exact Ans.none _ | exact Ans.ite (Ans.same l _))
  case beq neg x y => cases ρ x <;> first | exact Ans.none _ | (cases ρ y <;> first | exact Ans.none _ | exact Ans.pure l _)
  case snil neg x => cases ρ x <;> first | exact Ans.none _ | exact Ans.pure l _
  case not x => cases ρ x <;> first | exact Ans.none _ | exact Ans.pure l _
  case neg k x => cases ρ x <;> first | exact Ans.none _ | exact Ans.ite (Ans.pure l _)
  case conv k x => cases ρ x <;> first | exact Ans.none _ | exact Ans.pure l _
  case part agg off n x => cases ρ x <;> first | exact Ans.none _ | exact Ans.ite2 (Ans.mapf l _ _) (Ans.same l _)
  case ext x i => cases ρ x <;> first | exact Ans.none _ | exact Ans.same l _
  case lens x => exact Ans.mapf l _ _
  case caps x =>
    cases ρ x <;> first | exact Ans.none _ | exact Ans.pure l _ | skip
    rename_i c
    cases c <;> first | exact Ans.none _ | exact Ans.ite (Ans.pure l _)
  case lenm x =>
    cases ρ x <;> first | exact Ans.none _ | exact Ans.pure l _ | skip
    intro v a' e
    simp only at e ⊢
    split at e
    · rename_i hg; rw [l.get _ _ hg]; cases e; exact ⟨b, rfl, l⟩
    · cases e
  case mm mx xs => cases xs.map ρ <;> first | exact Ans.none _ | exact Ans.same l _
  case ld agg n x =>
    intro v a' e
    cases hv : ldV a agg n (ρ x) with
    | none => rw [hv] at e; cases e
    | some w => rw [hv] at e; cases e; rw [l.ld hv]; exact ⟨b, rfl, l⟩
  case st n x y =>
    cases ρ x <;> first | exact Ans.none _ | skip
    refine Ans.ite ?_
    intro v a' e
    cases hp : a.put _ _ (ρ y).cells with
    | none => rw [hp] at e; cases e
    | some a1 =>
      rw [hp] at e; cases e
      obtain ⟨b', e', l'⟩ := l.put hp
      exact ⟨b', by rw [e']; rfl, l'⟩
  case ixa sz x i => exact Ans.same l _
  case fla off x => cases ρ x <;> first | exact Ans.none _ | exact Ans.pure l _
  case slc sz x lo hi mx => exact Ans.same l _
  case mks sz bytes zero x c => exact l.mks _ _ _ _ _
  case alc zero => intro v a' e; cases e; exact ⟨_, by rw [l.next], l.new _⟩
  case box x => refine Ans.ite ?_; intro v a' e; cases e; exact ⟨_, by rw [l.next], l.new _⟩
  case bld zero parts => exact Ans.mapf l _ _
  case bls sz zero n parts =>
    cases fillV (zerosV zero (n * sz)) (parts.map fun p => (p.1, p.2.1, ρ p.2.2)) with
    | none => exact Ans.none _
    | some cs => refine Ans.ite ?_; intro v a' e; cases e; exact ⟨_, by rw [l.next], l.new _⟩
  case app sz bytes x y =>
    intro v a' e
    cases hm : lenV (ρ y) with
    | none => rw [hm] at e; cases e
    | some m =>
      cases hs : a.slice sz (ρ y) with
      | none => rw [hm, hs] at e; cases e
      | some ys =>
        rw [hm, hs] at e
        rw [l.slice hs]
        exact l.app _ _ _ _ _ v a' e
  case apz sz bytes zero x n =>
    cases ρ n <;> first | exact Ans.none _ | skip
    rename_i k m
    cases k <;> first | exact Ans.none _ | exact Ans.ite (l.app _ _ _ _ _)
  case cpy sz x y => exact l.cpy _ _ _
  case mkf f fs cs => exact Ans.pure l _
  case mkm => intro v a' e; cases e; exact ⟨_, by rw [l.next], l.new _⟩
  case lkp zero ok x k =>
    cases ρ x <;> first | exact Ans.none _ | skip
    cases ρ k <;> first | exact Ans.none _ | skip
    intro v a' e
    simp only at e ⊢
    split at e
    · rename_i hg
      rw [l.get _ _ hg]
      simp only
      split at e
      · rename_i hk
        rw [if_pos hk]
        split at e <;> (cases e; exact ⟨b, rfl, l⟩)
      · cases e
    · cases e
  case mset x k y =>
    cases ρ x <;> first | exact Ans.none _ | skip
    cases ρ k <;> first | exact Ans.none _ | skip
    intro v a' e
    simp only at e ⊢
    split at e
    · rename_i hg
      rw [l.get _ _ hg]
      simp only
      split at e
      · rename_i hk
        rw [if_pos hk]
        cases e; exact ⟨_, rfl, l.set _ _⟩
      · cases e
    · cases e
  case nck x => cases ρ x <;> first | exact Ans.none _ | exact Ans.pure l _
  case ixd n sz x i => exact Ans.same l _
  case cvs x =>
    intro v a' e
    cases hv : cvsV a (ρ x) with
    | none => rw [hv] at e; cases e
    | some w =>
      rw [hv] at e; cases e
      have : cvsV b (ρ x) = some v := by
        unfold cvsV at hv ⊢
        split at hv
        · exact hv
        · split at hv
          · rename_i hr; rw [l.row hr]; exact hv
          · cases hv
        · cases hv
      rw [this]; exact ⟨b, rfl, l⟩
  case mif t x => exact Ans.pure l _
  case six x i =>
    cases ρ x <;> first | exact Ans.none _ | skip
    cases ρ i <;> first | exact Ans.none _ | exact Ans.ite (Ans.mapf l _ _)
  case mkw sh r => refine Ans.ite ?_; intro v a' e; cases e; exact ⟨_, by rw [l.next], l.new _⟩
  case lkw s zero ok x k =>
    cases ρ x <;> first | exact Ans.none _ | skip
    intro v a' e
    simp only at e ⊢
    split at e
    · rename_i hg
      rw [l.get _ _ hg]
      simp only
      split at e
      · rename_i hk
        rw [if_pos hk]
        split at e <;> (cases e; exact ⟨b, rfl, l⟩)
      · cases e
    · cases e
  case msw s x k y =>
    cases ρ x <;> first | exact Ans.none _ | skip
    intro v a' e
    simp only at e ⊢
    split at e
    · rename_i hg
      rw [l.get _ _ hg]
      simp only
      split at e
      · rename_i hk
        rw [if_pos hk]
        cases e; exact ⟨_, rfl, l.set _ _⟩
      · cases e
    · cases e
  case ent s zero x k =>
    cases ρ x <;> first | exact Ans.none _ | skip
    intro v a' e
    simp only at e ⊢
    split at e
    · rename_i hg
      rw [l.get _ _ hg]
      simp only
      split at e
      · rename_i hk
        rw [if_pos hk]
        split at e
        · cases e; exact ⟨b, rfl, l⟩
        · cases e; exact ⟨_, rfl, l.set _ _⟩
      · cases e
    · cases e
  case ens x s y =>
    cases ρ x <;> first | exact Ans.none _ | skip
    cases ρ s <;> first | exact Ans.none _ | skip
    rename_i kk n
    cases kk <;> first | exact Ans.none _ | skip
    intro v a' e
    simp only at e ⊢
    split at e
    · rename_i hg
      rw [l.get _ _ hg]
      simp only
      split at e
      · rename_i hk
        rw [if_pos hk]
        split at e
        · cases e; exact ⟨_, rfl, l.set _ _⟩
        · cases e
      · cases e
    · cases e
  case fail => exact Ans.none _
end Go.Ay

