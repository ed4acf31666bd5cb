/- A heap that knows more answers alike: calls, regions, statements. -/
import Derived.Test.YtddpkbicnolafaaGreatAy27
namespace Go.Ay
def LeH (f g : CallF) : Prop := ∀ k args (a b : H), HL a b → Ans (f k args a) (g k args b)
/-- An answer of a region. -/
def AnsR {α : Type} (o o' : Option (α × H)) : Prop := ∀ v a', o = some (v, a') → ∃ b', o' = some (v, b') ∧ HL a' b'
theorem HL.okLog {a b : H} (l : HL a b) (cks : List Nat) (log : Log) (e : Go.Ay.okLog cks log a = true) : Go.Ay.okLog cks log b = true := by
  unfold Go.Ay.okLog at e ⊢
  rw [List.all_eq_true] at e ⊢
  intro x hx
  have := e x hx
  rw [Bool.or_eq_true] at this ⊢
  rcases this with h | h
  · exact .inl h
  · refine .inr ?_
    split at h
    · rename_i v a' ha
      obtain ⟨b', hb, _⟩ := l.evI _ _ v a' ha
      rw [hb]; exact h
    · cases h
theorem HL.rd {a b : H} (l : HL a b) (rd : Option Nat) (e : rdOk rd a = true) : rdOk rd b = true := by
  unfold rdOk at e ⊢
  cases rd with
  | none => rfl
  | some id =>
    simp only at e ⊢
    split at e
    · rename_i hg; rw [l.get _ _ hg]
    · cases e
theorem HL.bump {a b : H} (l : HL a b) (n : Nat) : HL (H.mk a.tr n) (H.mk b.tr n) := ⟨rfl, fun k o e => l.get k o e⟩
theorem HL.evAt {a b : H} (l : HL a b) (vars : List V) (n : Nat) (x : Act1) : Ans (Go.Ay.evAt vars a n x) (Go.Ay.evAt vars b n x) := by
  cases x with
  | op i =>
    intro v a' e
    simp only [Go.Ay.evAt] at e ⊢
    split at e
    · rename_i w a1 ha
      cases e
      obtain ⟨b1, hb, l1⟩ := (l.bump n).evI _ _ _ _ ha
      rw [hb]
      exact ⟨_, rfl, l.next, fun k o e => l1.get k o e⟩
    · cases e
  | call g args => exact Ans.none _
  | callv x args => exact Ans.none _
  | calli g t x args => exact Ans.none _
  | callp g args => exact Ans.none _
section
variable {cl yl : CallF} (hc : LeH cl cl) (hy : LeH yl yl)
include hc hy
theorem HL.evAct {a b : H} (l : HL a b) (vars loc : List V) (x : Act1) : Ans (Go.Ay.evAct cl yl vars loc a x) (Go.Ay.evAct cl yl vars loc b x) := by
  cases x with
  | op i => rw [evAct_op, evAct_op]; exact l.evI _ _
  | call g args => rw [evAct_call, evAct_call]; exact hc _ _ _ _ l
  | callv x args =>
    rw [evAct_callv, evAct_callv]
    cases xv vars loc x <;> first | exact Ans.none _ | exact hc _ _ _ _ l | exact hy _ _ _ _ l
  | calli g t x args =>
    rw [evAct_calli, evAct_calli]
    cases xv vars loc x <;> first | exact Ans.none _ | skip
    rename_i u v
    simp only
    cases Nat.beq u t with
    | false => exact Ans.none _
    | true => exact hc _ _ _ _ l
  | callp g args =>
    rw [evAct_callp, evAct_callp]
    intro v a' e
    have e1 := (pureC_some e).1
    subst e1
    exact ⟨b, pureC_any e b, l⟩
theorem HL.evIts : ∀ (its : List It) (vars loc : List V) {a b : H} (_ : HL a b), AnsR (Go.Ay.evIts cl yl its vars loc a) (Go.Ay.evIts cl yl its vars loc b)
  | [], vars, loc, a, b, l => by
    intro v a' e; rw [evIts_nil] at e ⊢; cases e; exact ⟨b, rfl, l⟩
  | it :: its, vars, loc, a, b, l => by
    intro r a' e
    rw [evIts_cons] at e ⊢
    split at e
    · split at e
      · rename_i v a1 ha
        obtain ⟨b1, hb, l1⟩ := l.evAct hc hy _ _ _ _ _ ha
        simp only [hb]
        exact HL.evIts its _ _ l1 _ _ e
      · cases e
    · exact HL.evIts its _ _ l _ _ e
    · cases e
theorem HL.evAny (base : Nat) : ∀ (xs : List AI) (vars : List V) (log : Log) {a b : H} (_ : HL a b), AnsR (Go.Ay.evAny cl yl base xs vars log a) (Go.Ay.evAny cl yl base xs vars log b)
  | [], vars, log, a, b, l => by
    intro v a' e; rw [evAny_nil] at e ⊢; cases e; exact ⟨b, rfl, l⟩
  | x :: xs, vars, log, a, b, l => by
    intro r a' e
    rw [evAny_cons] at e ⊢
    split at e
    · split at e
      · rename_i v a1 ha
        have hb : ∃ b1, (if x.al then Go.Ay.evAt vars b (base + x.i) x.it.a else Go.Ay.evAct cl yl vars [] b x.it.a) = some (v, b1) ∧ HL a1 b1 := by
          split at ha
          · rename_i hal; rw [if_pos hal]; exact l.evAt _ _ _ _ _ ha
          · rename_i hal; rw [if_neg hal]; exact l.evAct hc hy _ _ _ _ _ ha
        obtain ⟨b1, hb, l1⟩ := hb
        simp only [hb]
        split at e
        · rename_i ho
          rw [if_pos (l1.okLog _ _ ho)]
          exact HL.evAny base xs _ _ l1 _ _ e
        · cases e
      · cases e
    · split at e
      · rename_i ho
        rw [if_pos (l.okLog _ _ ho)]
        exact HL.evAny base xs _ _ l _ _ e
      · cases e
    · cases e
/-- An answer of a statement. -/
def AnsC (o o' : Res) : Prop := ∀ e vs d a', o = some (e, vs, d, a') → ∃ b', o' = some (e, vs, d, b') ∧ HL a' b'
end
end Go.Ay

