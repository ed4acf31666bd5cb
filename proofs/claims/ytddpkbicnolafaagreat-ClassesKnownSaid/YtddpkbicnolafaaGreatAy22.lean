/- More fuel, the same answer. -/
import Derived.Test.YtddpkbicnolafaaGreatAy1b
namespace Go.Ay

def Le (a b : CallF) : Prop := ∀ g args h r, a g args h = some r → b g args h = some r
theorem Le.refl (a : CallF) : Le a a := fun _ _ _ _ h => h
theorem Le.trans {a b c : CallF} (h : Le a b) (k : Le b c) : Le a c := fun _ _ _ _ x => k _ _ _ _ (h _ _ _ _ x)

section
variable {cl cl' yl yl' : CallF}

theorem evAct_mono (hc : Le cl cl') (hy : Le yl yl') {vars loc : List V} {h : H} {a : Act1} {r : V × H} (he : evAct cl yl vars loc h a = some r) : evAct cl' yl' vars loc h a = some r := by
  cases a with
  | op i => rw [evAct_op] at he ⊢; exact he
  | call g args => rw [evAct_call] at he ⊢; exact hc _ _ _ _ he
  | callv x args =>
    rw [evAct_callv] at he ⊢
    split at he
    · exact hc _ _ _ _ he
    · exact hy _ _ _ _ he
    · cases he
  | calli g t x args =>
    rw [evAct_calli] at he ⊢
    split at he
    · rename_i u v hx
      cases hq : Nat.beq u t with
      | false => rw [hq] at he; cases he
      | true => rw [hq] at he; exact hc _ _ _ _ he
    · cases he
  | callp g args =>
    rw [evAct_callp] at he ⊢
    obtain ⟨v, h'⟩ := r
    obtain ⟨rfl, h1, h3, h2, e⟩ := pureC_some he
    have e2 := hc _ _ _ _ e
    unfold pureC
    simp only [h1, e2, h3, cond_true]

theorem evIts_mono (hc : Le cl cl') (hy : Le yl yl') : ∀ (its : List It) (vars loc : List V) (h : H) (r : List V × H), evIts cl yl its vars loc h = some r → evIts cl' yl' its vars loc h = some r
  | [], vars, loc, h, r, he => by rw [evIts_nil] at he ⊢; exact he
  | it :: its, vars, loc, h, r, he => by
    rw [evIts_cons] at he ⊢
    split at he
    · split at he
      · rename_i hw _ v h1 ha
        simp only [evAct_mono hc hy ha]
        exact evIts_mono hc hy its _ _ _ _ he
      · cases he
    · exact evIts_mono hc hy its _ _ _ _ he
    · cases he

theorem evAny_mono (hc : Le cl cl') (hy : Le yl yl') {base : Nat} : ∀ (xs : List AI) (vars : List V) (log : Log) (h : H) (r : List V × H), evAny cl yl base xs vars log h = some r → evAny cl' yl' base xs vars log h = some r
  | [], vars, log, h, r, he => by rw [evAny_nil] at he ⊢; exact he
  | x :: xs, vars, log, h, r, he => by
    rw [evAny_cons] at he ⊢
    split at he
    · split at he
      · rename_i hw _ v h1 ha
        have ha' : (if x.al then evAt vars h (base + x.i) x.it.a else evAct cl' yl' vars [] h x.it.a) = some (v, h1) := by
          split at ha
          · rename_i hal; rw [if_pos hal]; exact ha
          · rename_i hal; rw [if_neg hal]; exact evAct_mono hc hy ha
        simp only [ha']
        split at he
        · rename_i ho
          rw [if_pos ho]
          exact evAny_mono hc hy xs _ _ _ _ he
        · cases he
      · cases he
    · split at he
      · rename_i ho
        rw [if_pos ho]
        exact evAny_mono hc hy xs _ _ _ _ he
      · cases he
    · cases he

theorem loopF_mono {s s' : List V → H → Res} (hs : ∀ vars h r, s vars h = some r → s' vars h = some r) : ∀ (n n' : Nat), n ≤ n' → ∀ vars h r, loopF s n vars h = some r → loopF s' n' vars h = some r
  | 0, _, _, vars, h, r, he => by rw [loopF_zero] at he; cases he
  | n + 1, 0, hn, _, _, _, _ => by omega
  | n + 1, n' + 1, hn, vars, h, r, he => by
    rw [loopF_succ] at he ⊢
    cases hr : s vars h with
    | none => simp [hr] at he
    | some q =>
      obtain ⟨e, v1, d1, h1⟩ := q
      rw [hs _ _ _ hr]
      simp only [hr] at he
      cases e with
      | norm =>
        simp only at he ⊢
        cases hr2 : loopF s n v1 h1 with
        | none => simp [hr2] at he
        | some q =>
          rw [loopF_mono hs n n' (by omega) _ _ _ hr2]
          simp only [hr2] at he
          exact he
      | ret => exact he
      | exit k => exact he

theorem run_mono (hc : Le cl cl') (hy : Le yl yl') {N N' : Nat} (hN : N ≤ N') {rd : Option Nat} : ∀ (c : C) (vars : List V) (h : H) (r : E × List V × Dfs × H), run cl yl N rd c vars h = some r → run cl' yl' N' rd c vars h = some r := by
  intro c
  induction c with
  | skip => intro vars h r he; rw [run_skip] at he ⊢; exact he
  | reg its =>
    intro vars h r he
    rw [run_reg] at he ⊢
    split at he
    · rename_i v1 h1 hr
      simp only [evIts_mono hc hy _ _ _ _ _ hr]; exact he
    · cases he
  | any k nl its =>
    intro vars h r he
    rw [run_any] at he ⊢
    split at he
    · rename_i v1 h1 hr
      simp only [evAny_mono hc hy _ _ _ _ _ hr]; exact he
    · cases he
  | regd its x args =>
    intro vars h r he
    rw [run_regd] at he ⊢
    simp only [runRegd] at he ⊢
    split at he
    · cases he
    · rename_i hrd
      rw [if_neg hrd]
      split at he
      · rename_i v1 h1 hr
        simp only [evIts_mono hc hy _ _ _ _ _ hr]
        exact he
      · cases he
  | seq a b iha ihb =>
    intro vars h r he
    rw [run_seq] at he ⊢
    cases hr : run cl yl N rd a vars h with
    | none => simp [hr] at he
    | some q =>
      obtain ⟨e, v1, d1, h1⟩ := q
      rw [iha _ _ _ hr]
      simp only [hr] at he
      cases e with
      | norm =>
        simp only at he ⊢
        cases hr2 : run cl yl N rd b v1 h1 with
        | none => simp [hr2] at he
        | some q =>
          rw [ihb _ _ _ hr2]
          simp only [hr2] at he
          exact he
      | ret => exact he
      | exit k => exact he
  | ite x a b iha ihb =>
    intro vars h r he
    rw [run_ite] at he ⊢
    split at he
    · exact iha _ _ _ he
    · exact ihb _ _ _ he
    · cases he
  | block id a iha =>
    intro vars h r he
    rw [run_block] at he ⊢
    cases hr : run cl yl N rd a vars h with
    | none => simp [hr] at he
    | some q =>
      rw [iha _ _ _ hr]
      simp only [hr] at he
      exact he
  | loop a iha =>
    intro vars h r he
    rw [run_loop] at he ⊢
    exact loopF_mono iha N N' hN _ _ _ he
  | exit n => intro vars h r he; rw [run_exit] at he ⊢; exact he
  | ret => intro vars h r he; rw [run_ret] at he ⊢; exact he
  | scope a iha => intro vars h r he; rw [run_scope] at he ⊢; exact iha _ _ _ he
  | range x ps a b _ _ =>
    intro vars h r he
    rw [run_range] at he ⊢
    simp only [runRange] at he ⊢
    split at he
    · split at he
      · rename_i hok
        rw [if_pos hok]
        split at he
        · rename_i hr
          simp only [hc _ _ _ _ hr]
          exact he
        · cases he
      · cases he
    · cases he
  | fail => intro vars h r he; exact he

theorem evDfs_mono {p : Nat → Option Fn} (hc : Le cl cl') : ∀ (dfs : Dfs) (h h' : H), evDfs p cl dfs h = some h' → evDfs p cl' dfs h = some h'
  | [], h, h', he => by rw [evDfs_nil] at he ⊢; exact he
  | (g, args) :: r, h, h', he => by
    rw [evDfs_cons] at he ⊢
    split at he
    · split at he
      · rename_i hn
        rw [if_pos hn]
        split at he
        · rename_i hr
          simp only [hc _ _ _ _ hr]
          exact evDfs_mono hc r _ _ he
        · cases he
      · cases he
    · cases he

theorem callF_mono {p : Nat → Option Fn} (hc : Le cl cl') (hy : Le yl yl') {N N' : Nat} (hN : N ≤ N') : Le (callF p cl yl N) (callF p cl' yl' N') := by
  intro g args h r he
  simp only [callF] at he ⊢
  split at he
  · cases he
  · rename_i fn hg
    split at he
    · rename_i hl
      rw [if_pos hl]
      split at he
      · rename_i hr
        simp only [run_mono hc hy hN _ _ _ _ hr]
        split at he
        · rename_i hd
          simp only [evDfs_mono hc _ _ _ hd]; exact he
        · cases he
      · rename_i hr
        simp only [run_mono hc hy hN _ _ _ _ hr]
        split at he
        · rename_i hd
          simp only [evDfs_mono hc _ _ _ hd]; exact he
        · cases he
      · cases he
    · cases he

theorem yieldF_mono (hc : Le cl cl') (hy : Le yl yl') {N N' : Nat} (hN : N ≤ N') : Le (yieldF cl yl N) (yieldF cl' yl' N') := by
  intro id args h r he
  simp only [yieldF] at he ⊢
  split at he
  · split at he
    · rename_i hl
      rw [if_pos hl]
      split at he
      · rename_i hr
        simp only [run_mono hc hy hN _ _ _ _ hr]
        split at he
        · split at he
          · rename_i hst
            rw [if_pos hst]
            split at he
            · rename_i hr2
              simp only [run_mono hc hy hN _ _ _ _ hr2]
              exact he
            · cases he
          · cases he
        · cases he
      · cases he
    · cases he
  · cases he

theorem lev_mono (p : Nat → Option Fn) {N N' : Nat} (hN : N ≤ N') : ∀ (f f' : Nat), f ≤ f' → Le (lev p N f).1 (lev p N' f').1 ∧ Le (lev p N f).2 (lev p N' f').2
  | 0, _, _ => by rw [lev_zero]; exact ⟨fun _ _ _ _ h => by (cases h), fun _ _ _ _ h => by (cases h)⟩
  | f + 1, 0, h => by omega
  | f + 1, f' + 1, h => by
    obtain ⟨h1, h2⟩ := lev_mono p hN f f' (by omega)
    rw [lev_succ, lev_succ]
    exact ⟨callF_mono h1 h2 hN, yieldF_mono h1 h2 hN⟩

end
end Go.Ay

