/- A function that defers one call, behind some statements. -/
import Derived.Test.YtonhijbeddcmpaaAy26
namespace Go.Ay
section
variable {p : Nat → Option Fn}
def WpD (p : Nat → Option Fn) (gd : Nat) (c : C) (vars : List V) (h : H) (Q : E → List V → List V → H → Prop) : Prop :=
  ∃ N f e vars' as h', run (lev p N f).1 (lev p N f).2 N none c vars h = some (e, vars', [(gd, as)], h') ∧ Q e vars' as h'
theorem WpD_seq {gd : Nat} {a b : C} {vars : List V} {h : H} {Q : E → List V → List V → H → Prop} (hw : Wp p none a vars h fun e v h1 => e = .norm ∧ WpD p gd b v h1 Q) : WpD p gd (.seq a b) vars h Q := by
  obtain ⟨N, f, e, v, h1, he, rfl, N2, f2, e2, v2, as, h2, he2, q⟩ := hw
  refine ⟨max N N2, max f f2, e2, v2, as, h2, ?_, q⟩
  have b1 := big p (Nat.le_max_left N N2) (Nat.le_max_left f f2)
  have b2 := big p (Nat.le_max_right N N2) (Nat.le_max_right f f2)
  rw [run_seq, run_mono b1.1 b1.2 (Nat.le_max_left N N2) _ _ _ _ he]
  simp only [run_mono b2.1 b2.2 (Nat.le_max_right N N2) _ _ _ _ he2]
  rfl
theorem WpD_regd {gd : Nat} {its : List It} {x : X} {xs : List X} {b : C} {vars : List V} {h : H} {fs cs : List V} {Q : E → List V → List V → H → Prop}
    (hw : WpI p its vars [] h fun v h1 => xv v [] x = .fn gd fs cs ∧ Wp p none b v h1 fun e v2 h2 => Q e v2 (fs ++ xs.map (xv v []) ++ cs) h2) : WpD p gd (.seq (.regd its x xs) b) vars h Q := by
  obtain ⟨N, f, v, h1, he, hx, N2, f2, e, v2, h2, he2, q⟩ := hw
  refine ⟨max N N2, max f f2, e, v2, fs ++ xs.map (xv v []) ++ cs, h2, ?_, q⟩
  have b1 := big p (Nat.le_max_left N N2) (Nat.le_max_left f f2)
  have b2 := big p (Nat.le_max_right N N2) (Nat.le_max_right f f2)
  rw [run_seq, run_regd]
  simp only [runRegd, Option.isSome_none, Bool.false_eq_true, if_false, evIts_mono b1.1 b1.2 _ _ _ _ _ he, hx, run_mono b2.1 b2.2 (Nat.le_max_right N N2) _ _ _ _ he2, List.nil_append]
theorem Ev_of_deferD {g gd : Nat} {fn : Fn} {args : List V} {h : H} {Q : V → H → Prop} (hg : p g = some fn) (hl : args.length = fn.nargs) {fd : Fn} (hgd : p gd = some fd) (hnor : fd.body.nor = true)
    (hw : WpD p gd fn.body (initV fn args) h fun e v2 as h2 => (∀ n, e ≠ .exit n) ∧ Ev p gd as h2 fun _ h3 => onSome (allSome (fn.results.map (resV v2 h3))) fun vs => Q (tupV vs) h3) : Ev p g args h Q := by
  obtain ⟨N2, f2, e, v2, as, h2, he2, hne, N3, f3, v3, h3, he3, vs, hvs, q⟩ := hw
  refine ⟨max N2 N3, max f2 f3 + 1, tupV vs, h3, ?_, q⟩
  have b2 := big p (Nat.le_max_left N2 N3) (Nat.le_max_left f2 f3)
  have b3 := big p (Nat.le_max_right N2 N3) (Nat.le_max_right f2 f3)
  rw [lev_succ]
  have hrun := run_mono b2.1 b2.2 (Nat.le_max_left N2 N3) _ _ _ _ he2
  have hd : evDfs p (lev p (max N2 N3) (max f2 f3)).1 [(gd, as)] h2 = some h3 := by
    rw [evDfs_cons, hgd]
    simp only [hnor, if_true, b3.1 _ _ _ _ he3, evDfs_nil]
  cases e with
  | exit n => exact (hne n rfl).elim
  | norm => simp only [callF, hg, hl, if_true, hrun, hd, hvs, Option.map_some]
  | ret => simp only [callF, hg, hl, if_true, hrun, hd, hvs, Option.map_some]
end
end Go.Ay

