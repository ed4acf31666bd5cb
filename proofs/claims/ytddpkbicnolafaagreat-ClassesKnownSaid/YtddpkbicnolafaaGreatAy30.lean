/- Cutting a run: from a pruned heap, with a snapshot of what is live. -/
import Derived.Test.YtddpkbicnolafaaGreatAy29
import Derived.Test.YtddpkbicnolafaaGreatAy25
namespace Go.Ay
theorem Ev_le {p : Nat → Option Fn} {g : Nat} {args : List V} {a b : H} {Q : V → H → Prop} (l : HL a b) (h : Ev p g args a Q) : Ev p g args b (fun v b' => ∃ a', HL a' b' ∧ Q v a') := by
  obtain ⟨N, f, v, a', e, q⟩ := h
  obtain ⟨b', e', l'⟩ := (lev_le p N f).1 g args a b l v a' e
  exact ⟨N, f, v, b', e', a', l', q⟩
theorem Wp_le {p : Nat → Option Fn} {rd : Option Nat} {c : C} {vars : List V} {a b : H} {Q : E → List V → H → Prop} (l : HL a b) (h : Wp p rd c vars a Q) : Wp p rd c vars b (fun e vs b' => ∃ a', HL a' b' ∧ Q e vs a') := by
  obtain ⟨N, f, e, vs, a', r, q⟩ := h
  obtain ⟨b', r', l'⟩ := HL.run (lev_le p N f).1 (lev_le p N f).2 N rd c vars a b l _ _ _ _ r
  exact ⟨N, f, e, vs, b', r', a', l', q⟩
/-- A heap of few objects. -/
def mkH (n : Nat) (L : List (Nat × Ob)) : H := ⟨L.foldr (fun p t => t.setF (p.1 + 1) p.1 (some p.2)) .lf, n⟩
theorem mkH_le (b : H) : ∀ (L : List (Nat × Ob)), L.map (fun p => b.get p.1) = L.map (fun p => some p.2) → HL (mkH b.next L) b
  | [], _ => ⟨rfl, fun id o e => by cases e⟩
  | p :: L, h => by
    simp only [List.map_cons, List.cons.injEq] at h
    have ih := mkH_le b L h.2
    refine ⟨rfl, fun id o e => ?_⟩
    have e : (Tr.setF (p.1 + 1) (mkH b.next L).tr p.1 (some p.2)).get id = some o := e
    rw [Tr.get_setF _ _ _ _ _ (Nat.lt_succ_self _)] at e
    split at e
    · rename_i hk; cases e; rw [hk]; exact h.1
    · exact ih.get id o e
/-- What a run shows of its end. -/
noncomputable def snap (ids : List Nat) (r : Res) : Option (E × List V × Dfs × Nat × List (Option Ob)) := Option.rec none (fun q => some (q.1, q.2.1, q.2.2.1, q.2.2.2.next, ids.map q.2.2.2.get)) r
theorem Wp_snap {p : Nat → Option Fn} {rd : Option Nat} {c : C} {vars : List V} {a : H} {N f : Nat} {e : E} {vs : List V} {n : Nat} {L : List (Nat × Ob)}
    (h : snap (L.map (·.1)) (run (lev p N f).1 (lev p N f).2 N rd c vars a) = some (e, vs, [], n, L.map (fun p => some p.2))) :
    Wp p rd c vars a (fun e' vs' b => e' = e ∧ vs' = vs ∧ HL (mkH n L) b) := by
  cases hr : run (lev p N f).1 (lev p N f).2 N rd c vars a with
  | none => rw [hr] at h; cases h
  | some q =>
    obtain ⟨e1, v1, d1, b⟩ := q
    rw [hr] at h
    simp only [snap, Option.some.injEq, Prod.mk.injEq, List.map_map] at h
    obtain ⟨h1, h2, h3, h4, h5⟩ := h
    subst h3 h4
    exact ⟨N, f, e1, v1, b, hr, h1, h2, mkH_le b L h5⟩
/-- One cut of a straight body. -/
theorem Wp_cut {p : Nat → Option Fn} {rd : Option Nat} {c k : C} {vars : List V} {a b : H} {Q : E → List V → Prop} {N f : Nat} {vs : List V} {n : Nat} {L : List (Nat × Ob)} (l : HL a b)
    (h : snap (L.map (·.1)) (run (lev p N f).1 (lev p N f).2 N rd c vars a) = some (.norm, vs, [], n, L.map (fun p => some p.2)))
    (next : ∀ b', HL (mkH n L) b' → Wp p rd k vs b' (fun e vs _ => Q e vs)) : Wp p rd (.seq c k) vars b (fun e vs _ => Q e vs) := by
  obtain ⟨N1, f1, e1, v1, b1, r1, a1, l1, rfl, rfl, l2⟩ := Wp_le l (Wp_snap h)
  have l3 : HL (mkH n L) b1 := ⟨l2.next.trans l1.next, fun id o e => l1.get id o (l2.get id o e)⟩
  obtain ⟨N2, f2, e2, v2, b2, r2, q⟩ := next b1 l3
  have m1 := big p (Nat.le_max_left N1 N2) (Nat.le_max_left f1 f2)
  have m2 := big p (Nat.le_max_right N1 N2) (Nat.le_max_right f1 f2)
  refine ⟨max N1 N2, max f1 f2, e2, v2, b2, ?_, q⟩
  rw [run_seq, run_mono m1.1 m1.2 (Nat.le_max_left N1 N2) _ _ _ _ r1]
  simp only
  rw [run_mono m2.1 m2.2 (Nat.le_max_right N1 N2) _ _ _ _ r2]
  rfl
/-- A body's first statement, and what is left of it. -/
def hd : C → C
  | .seq a _ => a
  | c => c
def tl : Nat → C → C
  | 0, c => c
  | n + 1, .seq _ b => tl n b
  | _ + 1, c => c
theorem Wp_end {p : Nat → Option Fn} {rd : Option Nat} {vs : List V} {b : H} {Q : E → List V → Prop} (q : Q .ret vs) : Wp p rd .ret vs b (fun e vs _ => Q e vs) := by
  rw [Wp_ret]; exact q
/-- A closed law of one result. -/
theorem Ev_bool {p : Nat → Option Fn} {g : Nat} {fn : Fn} {h : H} (hg : p g = some fn) (hl : fn.nargs = 0) (hr : fn.results = [.v 0])
    (hw : Wp p none fn.body (initV fn []) h (fun e vs _ => e = .ret ∧ vs.getD 0 .undef = .bool true)) : Ev p g [] h (fun v _ => v = .bool true) := by
  refine Ev_of hg hl.symm ?_
  obtain ⟨N, f, e, vs, h', r, rfl, q⟩ := hw
  refine ⟨N, f, .ret, vs, h', r, ?_⟩
  rw [retP_ret, hr]
  refine ⟨[.bool true], ?_, rfl⟩
  simp only [List.map_cons, List.map_nil, resV, q, allSome, Option.map_some]
end Go.Ay

