/- A heap that knows more answers alike: statements, functions, all levels. -/
import Derived.Test.YtddpkbicnolafaaGreatAy28
namespace Go.Ay
section
variable {cl yl : CallF} (hc : LeH cl cl) (hy : LeH yl yl)
include hc hy
omit hc hy in
theorem HL.loop {s : List V → H → Res} (hs : ∀ vars (a b : H), HL a b → AnsC (s vars a) (s vars b)) : ∀ (n : Nat) (vars : List V) (a b : H), HL a b → AnsC (loopF s n vars a) (loopF s n vars b)
  | 0, vars, a, b, l => by intro e vs d a' h; cases h
  | n + 1, vars, a, b, l => by
    intro e vs d a' h
    rw [loopF_succ] at h ⊢
    cases hr : s vars a with
    | none => simp [hr] at h
    | some q =>
      obtain ⟨e1, v1, d1, a1⟩ := q
      obtain ⟨b1, hb, l1⟩ := hs vars a b l _ _ _ _ hr
      rw [hb]
      simp only [hr] at h
      cases e1 with
      | norm =>
        simp only at h ⊢
        cases hr2 : loopF s n v1 a1 with
        | none => simp [hr2] at h
        | some q =>
          obtain ⟨e2, v2, d2, a2⟩ := q
          obtain ⟨b2, hb2, l2⟩ := HL.loop hs n v1 a1 b1 l1 _ _ _ _ hr2
          rw [hb2]
          simp only [hr2] at h
          cases h
          exact ⟨b2, rfl, l2⟩
      | ret => cases h; exact ⟨b1, rfl, l1⟩
      | exit k => cases h; exact ⟨b1, rfl, l1⟩
theorem HL.run (N : Nat) (rd : Option Nat) : ∀ (c : C) (vars : List V) (a b : H), HL a b → AnsC (Go.Ay.run cl yl N rd c vars a) (Go.Ay.run cl yl N rd c vars b) := by
  intro c
  induction c with
  | skip => intro vars a b l e vs d a' h; rw [run_skip] at h ⊢; cases h; exact ⟨b, rfl, l⟩
  | reg its =>
    intro vars a b l e vs d a' h
    rw [run_reg] at h ⊢
    split at h
    · rename_i v1 h1 hr
      obtain ⟨b1, hb, l1⟩ := HL.evIts hc hy _ _ _ l _ _ hr
      rw [hb]; cases h; exact ⟨b1, rfl, l1⟩
    · cases h
  | any k nl its =>
    intro vars a b l e vs d a' h
    rw [run_any] at h ⊢
    rw [← l.next]
    split at h
    · rename_i v1 h1 hr
      obtain ⟨b1, hb, l1⟩ := HL.evAny hc hy _ _ _ _ (l.bump _) _ _ hr
      rw [hb]; cases h; exact ⟨b1, rfl, l1⟩
    · cases h
  | regd its x args =>
    intro vars a b l e vs d a' h
    rw [run_regd] at h ⊢
    simp only [runRegd] at h ⊢
    split at h
    · cases h
    · rename_i hrd
      rw [if_neg hrd]
      split at h
      · rename_i v1 h1 hr
        obtain ⟨b1, hb, l1⟩ := HL.evIts hc hy _ _ _ l _ _ hr
        rw [hb]
        simp only
        split at h
        · cases h; exact ⟨b1, by simp only [*], l1⟩
        · cases h
      · cases h
  | seq p q ihp ihq =>
    intro vars a b l e vs d a' h
    rw [run_seq] at h ⊢
    cases hr : Go.Ay.run cl yl N rd p vars a with
    | none => simp [hr] at h
    | some r =>
      obtain ⟨e1, v1, d1, a1⟩ := r
      obtain ⟨b1, hb, l1⟩ := ihp vars a b l _ _ _ _ hr
      rw [hb]
      simp only [hr] at h
      cases e1 with
      | norm =>
        simp only at h ⊢
        cases hr2 : Go.Ay.run cl yl N rd q v1 a1 with
        | none => simp [hr2] at h
        | some r =>
          obtain ⟨e2, v2, d2, a2⟩ := r
          obtain ⟨b2, hb2, l2⟩ := ihq v1 a1 b1 l1 _ _ _ _ hr2
          rw [hb2]
          simp only [hr2] at h
          cases h
          exact ⟨b2, rfl, l2⟩
      | ret => cases h; exact ⟨b1, rfl, l1⟩
      | exit k => cases h; exact ⟨b1, rfl, l1⟩
  | ite x p q ihp ihq =>
    intro vars a b l e vs d a' h
    rw [run_ite] at h ⊢
    split at h
    · exact ihp _ _ _ l _ _ _ _ h
    · exact ihq _ _ _ l _ _ _ _ h
    · cases h
  | block id p ih =>
    intro vars a b l e vs d a' h
    rw [run_block] at h ⊢
    cases hr : Go.Ay.run cl yl N rd p vars a with
    | none => simp [hr] at h
    | some r =>
      obtain ⟨e1, v1, d1, a1⟩ := r
      obtain ⟨b1, hb, l1⟩ := ih vars a b l _ _ _ _ hr
      rw [hb]
      simp only [hr] at h
      cases e1 with
      | norm => cases h; exact ⟨b1, rfl, l1⟩
      | ret => cases h; exact ⟨b1, rfl, l1⟩
      | exit k =>
        simp only at h ⊢
        split at h
        · rename_i hk; rw [if_pos hk]; cases h; exact ⟨b1, rfl, l1⟩
        · rename_i hk; rw [if_neg hk]; cases h; exact ⟨b1, rfl, l1⟩
  | loop p ih =>
    intro vars a b l
    rw [run_loop, run_loop]
    exact HL.loop ih N vars a b l
  | exit n => intro vars a b l e vs d a' h; rw [run_exit] at h ⊢; cases h; exact ⟨b, rfl, l⟩
  | ret => intro vars a b l e vs d a' h; rw [run_ret] at h ⊢; cases h; exact ⟨b, rfl, l⟩
  | scope p ih => intro vars a b l; rw [run_scope, run_scope]; exact ih vars a b l
  | range x pars p q _ _ =>
    intro vars a b l e vs d a' h
    rw [run_range] at h ⊢
    simp only [runRange] at h ⊢
    split at h
    · split at h
      · rename_i hrd
        rw [if_pos (l.rd _ hrd)]
        split at h
        · rename_i w a1 hr
          obtain ⟨b1, hb, l1⟩ := hc _ _ _ _ (l.new _) _ _ hr
          rw [← l.next, hb]
          simp only
          split at h
          · rename_i hg
            rw [l1.get _ _ hg]
            simp only
            split at h
            · cases h
            · rename_i hst
              rw [if_neg hst]
              cases h
              exact ⟨_, rfl, l1.set _ _⟩
          · cases h
        · cases h
      · cases h
    · cases h
  | fail => intro vars a b l e vs d a' h; cases h
end
theorem HL.dfs {cl : CallF} (hc : LeH cl cl) (p : Nat → Option Fn) : ∀ (d : Dfs) (a b : H), HL a b → ∀ a', evDfs p cl d a = some a' → ∃ b', evDfs p cl d b = some b' ∧ HL a' b'
  | [], a, b, l, a', h => by rw [evDfs_nil] at h ⊢; cases h; exact ⟨b, rfl, l⟩
  | (g, args) :: r, a, b, l, a', h => by
    rw [evDfs_cons] at h ⊢
    split at h
    · split at h
      · rename_i hn
        rw [if_pos hn]
        split at h
        · rename_i hr
          obtain ⟨b1, hb, l1⟩ := hc _ _ _ _ l _ _ hr
          rw [hb]
          exact HL.dfs hc p r _ _ l1 _ h
        · cases h
      · cases h
    · cases h
theorem HL.res {a b : H} (l : HL a b) (vars : List V) (r : Rv) {v : V} (e : resV vars a r = some v) : resV vars b r = some v := by
  cases r with
  | v k => exact e
  | cell k agg n => exact l.ld e
theorem HL.all {a b : H} (l : HL a b) (vars : List V) : ∀ (rs : List Rv) {vs : List V}, allSome (rs.map (resV vars a)) = some vs → allSome (rs.map (resV vars b)) = some vs
  | [], vs, e => e
  | r :: rs, vs, e => by
    simp only [List.map_cons] at e ⊢
    cases hr : resV vars a r with
    | none => rw [hr] at e; cases e
    | some v =>
      rw [hr] at e
      rw [l.res vars r hr]
      simp only [allSome] at e ⊢
      cases ht : allSome (rs.map (resV vars a)) with
      | none => rw [ht] at e; cases e
      | some ws => rw [ht] at e; rw [HL.all l vars rs ht]; exact e
theorem callF_le {p : Nat → Option Fn} {cl yl : CallF} (hc : LeH cl cl) (hy : LeH yl yl) (N : Nat) : LeH (callF p cl yl N) (callF p cl yl N) := by
  intro g args a b l v a' e
  simp only [callF] at e ⊢
  split at e
  · cases e
  · rename_i fn hg
    split at e
    · rename_i hl
      rw [if_pos hl]
      cases hr : Go.Ay.run cl yl N none fn.body (initV fn args) a with
      | none => rw [hr] at e; cases e
      | some r =>
        obtain ⟨e1, v1, d1, a1⟩ := r
        obtain ⟨b1, hb, l1⟩ := HL.run hc hy N none fn.body _ a b l _ _ _ _ hr
        rw [hr] at e
        rw [hb]
        have go : (match evDfs p cl d1 a1 with
            | some h => (allSome (fn.results.map (resV v1 h))).map fun vs => (tupV vs, h)
            | none => none) = some (v, a') → ∃ b', (match evDfs p cl d1 b1 with
            | some h => (allSome (fn.results.map (resV v1 h))).map fun vs => (tupV vs, h)
            | none => none) = some (v, b') ∧ HL a' b' := by
          intro e
          split at e
          · rename_i a2 hd
            obtain ⟨b2, hb2, l2⟩ := HL.dfs hc p d1 _ _ l1 _ hd
            rw [hb2]
            cases hs : allSome (fn.results.map (resV v1 a2)) with
            | none => rw [hs] at e; cases e
            | some vs => rw [hs] at e; cases e; exact ⟨b2, by simp only [l2.all v1 fn.results hs, Option.map_some], l2⟩
          · cases e
        cases e1 with
        | norm => exact go e
        | ret => exact go e
        | exit k => cases e
    · cases e
theorem yieldF_le {cl yl : CallF} (hc : LeH cl cl) (hy : LeH yl yl) (N : Nat) : LeH (yieldF cl yl N) (yieldF cl yl N) := by
  intro id args a b l v a' e
  simp only [yieldF] at e ⊢
  split at e
  · rename_i hg
    rw [l.get _ _ hg]
    simp only
    split at e
    · rename_i hl
      rw [if_pos hl]
      split at e
      · rename_i hr
        obtain ⟨b1, hb, l1⟩ := HL.run hc hy N _ _ _ a b l _ _ _ _ hr
        rw [hb]
        simp only
        split at e
        · rename_i hg2
          rw [l1.get _ _ hg2]
          simp only
          split at e
          · rename_i hst
            rw [if_pos hst]
            split at e
            · rename_i hr2
              obtain ⟨b2, hb2, l2⟩ := HL.run hc hy N _ _ _ _ _ (l1.set _ _) _ _ _ _ hr2
              rw [hb2]
              simp only
              split at e
              · rename_i hg3
                rw [l2.get _ _ hg3]
                simp only
                split at e
                · cases e; exact ⟨_, rfl, l2.set _ _⟩
                · cases e; exact ⟨_, by simp only [*], l2.set _ _⟩
              · cases e
            · cases e
          · cases e
        · cases e
      · cases e
    · cases e
  · cases e
theorem lev_le (p : Nat → Option Fn) (N : Nat) : ∀ (f : Nat), LeH (lev p N f).1 (lev p N f).1 ∧ LeH (lev p N f).2 (lev p N f).2
  | 0 => by rw [lev_zero]; exact ⟨fun _ _ _ _ _ _ _ h => by (cases h), fun _ _ _ _ _ _ _ h => by (cases h)⟩
  | f + 1 => by
    obtain ⟨h1, h2⟩ := lev_le p N f
    rw [lev_succ]
    exact ⟨callF_le h1 h2 N, yieldF_le h1 h2 N⟩
end Go.Ay

